/- The walks of SameNums, SameTexts and of the small example. -/
import Derived.Test.YtiopehgghlfmgaaDoorW11
set_option linter.unusedSimpArgs false
set_option linter.unusedVariables false
namespace Go.Proofs.YtiopehgghlfmgaaDoor
open Go.RowKit

theorem below_drewN {w w' : World} {B : Nat} (h : Below B w w') (n : Nat) : Below B w (w'.drewN n) := ⟨h.os, h.tape, h.output, h.size, h.block⟩
theorem take_eq_succ {α : Type} {a b : List α} {k : Nat} (ha : k < a.length) (hb : k < b.length) (h : a.take k = b.take k) (e : a[k] = b[k]) : a.take (k + 1) = b.take (k + 1) := by
  rw [take_snoc' a k ha, take_snoc' b k hb, h, e]
theorem ne_of_at {α : Type} {a b : List α} {k : Nat} (ha : k < a.length) (hb : k < b.length) (e : a[k] ≠ b[k]) : a ≠ b := fun h => e (by subst h; rfl)

set_option maxHeartbeats 400000 in
theorem SameNums_calls (va vb : Value) (la lb : List Int) (w : World) (ha : IntsAt w va la) (hb : IntsAt w vb lb) :
    Calls Tryd.prog 32 #[va, vb] w fun e w' => e = .returned (.bool (decide (la = lb))) ∧ Below w.heap.size w w' := by
  have ha0 := ha
  have hb0 := hb
  obtain ⟨oa, cap, rfl, hm, hr, hc⟩ := ha
  obtain ⟨ob, capb, rfl, hmb, hrb, hcb⟩ := hb
  clear hr hrb hc hcb
  have Hha0 := Lib.hid ha0
  clear ha0
  have Hhb0 := Lib.hid hb0
  clear hb0
  by_cases hlen : la.length = lb.length
  · have hlen' : ((la.length : Int) != (lb.length : Int)) = false := by simp [hlen]
    have HLen := Lib.hid hlen
    clear hlen
    go_enter Tryd.func32, Tryd.ntmps32
    go_wp2_with fail
    go_loopw [5] (fun s5 wr => ∃ k : Nat, k ≤ la.length ∧ s5 = .int .i64 k ∧ la.take k = lb.take k ∧ Below w.heap.size w wr) (fun s5 _ => la.length - (intOf s5).toNat)
    case atStart => exact ⟨0, by omega, rfl, by simp, Below.refl _ _⟩
    case round =>
      clear hlen'
      obtain ⟨k, hk, rfl, ht, hB⟩ := hrel
      have Hht := Lib.hid ht
      clear ht
      by_cases hlt : k < la.length
      · obtain ⟨-, b1, off1, rfl, _, hc1⟩ := (Hha0.out.below hB (Nat.le_refl _)).at' hlt
        have hlb : k < lb.length := by have := HLen.out; omega
        obtain ⟨-, b2, off2, rfl, _, hc2⟩ := (Hhb0.out.below hB (Nat.le_refl _)).at' hlb
        go_wp2_with fail
        go_quiet (fail)
        by_cases he : nth la k = nth lb k
        · have he' : (nth la k != nth lb k) = false := by simp [he]
          have HE := Lib.hid he
          clear he
          go_wp2_with fail
          refine ⟨⟨k + 1, by omega, by go_num, take_eq_succ hlt hlb Hht.out (by have := HE.out; rwa [nth_eq _ _ hlt, nth_eq _ _ hlb] at this), below_drewN hB _⟩, by simp [intOf]; omega⟩
        · have he' : (nth la k != nth lb k) = true := by simp [he]
          have HE := Lib.hid he
          clear he
          go_wp2_with fail
          go_ret
          refine ⟨ret_bool ?_, below_drewN hB _⟩
          have := HE.out
          rw [nth_eq _ _ hlt, nth_eq _ _ hlb] at this
          simp [ne_of_at hlt hlb this]
      · go_wp2_with fail
        go_ret
        refine ⟨ret_bool ?_, hB⟩
        have h := Hht.out
        have := HLen.out
        rw [List.take_of_length_le (by omega), List.take_of_length_le (by omega)] at h
        simp [h]
  · have hlen' : ((la.length : Int) != (lb.length : Int)) = true := by simp; omega
    have HLen := Lib.hid hlen
    clear hlen
    go_enter Tryd.func32, Tryd.ntmps32
    go_wp2_with fail
    go_ret
    refine ⟨ret_bool ?_, Below.refl _ _⟩
    have : la ≠ lb := fun h => HLen.out (by rw [h])
    simp [this]

theorem bytes_eq {a b : ByteArray} : (a.toList == b.toList) = decide (a = b) := by
  rw [ByteArray.toList_eq, ByteArray.toList_eq]
  by_cases h : a = b
  · simp [h]
  · simp only [h, decide_false]
    rw [beq_eq_false_iff_ne]
    intro e
    apply h
    apply ByteArray.ext
    exact Array.toList_inj.1 e

set_option maxHeartbeats 400000 in
theorem SameTexts_calls (va vb : Value) (la lb : List ByteArray) (w : World) (ha : StrsAt w va la) (hb : StrsAt w vb lb) :
    Calls Tryd.prog 35 #[va, vb] w fun e w' => e = .returned (.bool (decide (la = lb))) ∧ Below w.heap.size w w' := by
  have ha0 := ha
  have hb0 := hb
  obtain ⟨oa, cap, rfl, hm, hr, hc⟩ := ha
  obtain ⟨ob, capb, rfl, hmb, hrb, hcb⟩ := hb
  clear hr hrb hc hcb
  have Hha0 := Lib.hid ha0
  clear ha0
  have Hhb0 := Lib.hid hb0
  clear hb0
  by_cases hlen : la.length = lb.length
  · have hlen' : ((la.length : Int) != (lb.length : Int)) = false := by simp [hlen]
    have HLen := Lib.hid hlen
    clear hlen
    go_enter Tryd.func35, Tryd.ntmps35
    go_wp2_with fail
    go_loopw [5] (fun s5 wr => ∃ k : Nat, k ≤ la.length ∧ s5 = .int .i64 k ∧ la.take k = lb.take k ∧ Below w.heap.size w wr) (fun s5 _ => la.length - (intOf s5).toNat)
    case atStart => exact ⟨0, by omega, rfl, by simp, Below.refl _ _⟩
    case round =>
      clear hlen'
      obtain ⟨k, hk, rfl, ht, hB⟩ := hrel
      have Hht := Lib.hid ht
      clear ht
      by_cases hlt : k < la.length
      · obtain ⟨-, b1, off1, rfl, _, hc1⟩ := (Hha0.out.below hB (Nat.le_refl _)).at' hlt
        have hlb : k < lb.length := by have := HLen.out; omega
        obtain ⟨-, b2, off2, rfl, _, hc2⟩ := (Hhb0.out.below hB (Nat.le_refl _)).at' hlb
        have hstep : la[k] = lb[k] → la.take (k + 1) = lb.take (k + 1) := take_eq_succ hlt hlb Hht.out
        have hstop : la[k] ≠ lb[k] → la ≠ lb := ne_of_at hlt hlb
        generalize la[k] = x at *
        generalize lb[k] = y at *
        have Hhstep := Lib.hid hstep
        clear hstep
        have Hhstop := Lib.hid hstop
        clear hstop
        go_wp2_with fail
        go_quiet (fail)
        generalize hB2 : (x.toList == y.toList) = B
        rw [bytes_eq] at hB2
        by_cases he : x = y
        · rw [decide_eq_true he] at hB2
          subst hB2
          have Hhe := Lib.hid he
          clear he
          go_wp2_with fail
          refine ⟨⟨k + 1, by omega, by go_num, Hhstep.out Hhe.out, below_drewN hB _⟩, by simp [intOf]; omega⟩
        · rw [decide_eq_false he] at hB2
          subst hB2
          have Hhe := Lib.hid he
          clear he
          go_wp2_with fail
          go_ret
          refine ⟨ret_bool ?_, below_drewN hB _⟩
          simp [Hhstop.out Hhe.out]
      · go_wp2_with fail
        go_ret
        refine ⟨ret_bool ?_, hB⟩
        have h := Hht.out
        have := HLen.out
        rw [List.take_of_length_le (by omega), List.take_of_length_le (by omega)] at h
        simp [h]
  · have hlen' : ((la.length : Int) != (lb.length : Int)) = true := by simp; omega
    have HLen := Lib.hid hlen
    clear hlen
    go_enter Tryd.func35, Tryd.ntmps35
    go_wp2_with fail
    go_ret
    refine ⟨ret_bool ?_, Below.refl _ _⟩
    have : la ≠ lb := fun h => HLen.out (by rw [h])
    simp [this]

theorem x5 : rNum [0x81, 5, 0x7e, 97, 0, 1] false = (5, [0x7e, 97, 0, 1], false) := by decide +kernel
theorem xm1 : rInt [0x7f] false = (-1, [], false) := by decide +kernel
theorem e256 : (encNum 256) = [0x82, 1, 0] := by decide +kernel
theorem em2 : (encInt (-2)) = [0x7e, 0xfe] := by decide +kernel
theorem ea : (encText [97]) = [97, 0, 1] := by decide +kernel
theorem em1 : (encNum (-1)) = [] := by decide +kernel

theorem small_calls (m : Int) (w : World) (hm : w.cell? ⟨0, 0, none⟩ = some (.int .i64 m)) (h0 : 0 < w.heap.size) :
    Calls Tryd.prog 8 #[] w fun e w' => e = .returned (.bool true) ∧ Below w.heap.size w w' := by
  go_enter Tryd.func8, Tryd.ntmps8
  go_wp2_with fail
  refine (Open_calls _ _).mono ?_
  rintro e w1 ⟨rfl, hr1, hB1⟩
  have hsz1 := hB1.size
  have hlt1 := hr1.cells.2.2.2.2
  have hl : (ByteArray.mk #[129, 5, 126, 97, 0, 1]).data.toList = [0x81, 5, 0x7e, 97, 0, 1] := rfl
  rw [hl] at hr1
  clear hl
  have Hhr1 := Lib.hid hr1
  clear hr1
  go_wp2_with fail
  refine (rNum_calls w.heap.size _ false w1 Hhr1.out (by simp)).mono ?_
  rintro e w2 ⟨rfl, hr2, hg2⟩
  have hsz2 := hg2.size
  rw [x5]
  clear hr2
  go_wp2_with fail
  refine (Open_calls _ _).mono ?_
  rintro e w3 ⟨rfl, hr3, hB3⟩
  have hsz3 := hB3.size
  have hlt3 := hr3.cells.2.2.2.2
  have hl : (ByteArray.mk #[127]).data.toList = [0x7f] := rfl
  rw [hl] at hr3
  clear hl
  have Hhr3 := Lib.hid hr3
  clear hr3
  go_wp2_with fail
  refine (rInt_calls w2.heap.size _ false w3 Hhr3.out (by simp)).mono ?_
  rintro e w4 ⟨rfl, hr4, hg4⟩
  have hsz4 := hg4.size
  rw [xm1] at hr4 ⊢
  have Hhr4 := Lib.hid hr4
  clear hr4
  have hB2 : Below w.heap.size w w2 := hB1.trans (grownBy_below hg2 (Nat.le_refl _) hsz1)
  have hB4 : Below w.heap.size w w4 := (hB2.trans (hB3.mono (by omega))).trans (grownBy_below hg4 (by omega) (by omega))
  clear hg2 hg4 hB1 hB3
  go_wp2_with fail
  refine (Done_calls w2.heap.size _ false w4 Hhr4.out).mono ?_
  rintro e w5 ⟨rfl, rfl⟩
  go_wp2_with fail
  refine (Num_calls 256 w4 (by unfold In64; omega)).mono ?_
  rintro e w5 ⟨rfl, hB5⟩
  have hsz5 := hB5.size
  rw [e256]
  go_wp2_with fail
  refine (Int_calls (-2) w5 (by unfold In64; omega)).mono ?_
  rintro e w6 ⟨rfl, hB6⟩
  have hsz6 := hB6.size
  rw [em2]
  have hB7 : Below w.heap.size w w6 := (hB4.trans (hB5.mono (by omega))).trans (hB6.mono (by omega))
  clear hB4 hB5 hB6
  have hm6 : w6.cell? ⟨0, 0, none⟩ = some (.int .i64 m) := by rw [← hm]; exact hB7.cell (p := ⟨0, 0, none⟩) h0
  go_wp2_with fail
  refine (Text_calls ⟨#[97]⟩ m w6 (by decide) hm6).mono ?_
  rintro e w7 ⟨rfl, hB8⟩
  have hsz8 := hB8.size
  rw [show (ByteArray.mk #[97]).data.toList = [97] from rfl, ea]
  go_wp2_with fail
  refine (Num_calls (-1) w7 (by unfold In64; omega)).mono ?_
  rintro e w8 ⟨rfl, hB9⟩
  have hsz9 := hB9.size
  rw [em1]
  go_wp2_with fail
  go_ret
  exact ⟨rfl, (hB7.trans (hB8.mono (by omega))).trans (hB9.mono (by omega))⟩
end Go.Proofs.YtiopehgghlfmgaaDoor
