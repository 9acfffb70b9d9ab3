/- The program's iterator over the stretches. -/
import Derived.Test.YtibhihobpehpbaaDoorF6
import Derived.Test.YtibhihobpehpbaaDoorFSeq
import Derived.OwnWalkIn
import Derived.TacticsInMore
import Derived.LoopNIn
import Derived.LoopIn
import Derived.Shelf.RegionOpen
set_option linter.unusedSimpArgs false
set_option linter.unusedVariables false
namespace Go.Proofs.YtibhihobpehpbaaDoor
open Go.RowKit Go.Shelf

theorem idx_none (c : UInt8) : ∀ l : List UInt8, c ∉ l → Lib.index l [c] = -1
  | [], _ => rfl
  | x :: l, h => by
    have hx : ¬ c = x := fun e => h (by simp [e])
    have ih := idx_none c l (fun e => h (by simp [e]))
    rw [Lib.index, if_neg (by simp [List.isPrefixOf, hx]), ih]
    rfl
theorem idx_some (c : UInt8) (b : List UInt8) : ∀ a : List UInt8, c ∉ a → Lib.index (a ++ c :: b) [c] = a.length
  | [], _ => by
    show Lib.index (c :: b) [c] = 0
    rw [Lib.index, if_pos (by simp [List.isPrefixOf])]
  | x :: a, h => by
    have hx : ¬ c = x := fun e => h (by simp [e])
    have ih := idx_some c b a (fun e => h (by simp [e]))
    show Lib.index (x :: (a ++ c :: b)) [c] = _
    rw [Lib.index, if_neg (by simp [List.isPrefixOf, hx]), ih, if_neg (by simp)]
    simp
theorem cut_none (c : UInt8) (l : List UInt8) (h : c ∉ l) : Lib.cut l [c] = (l, [], false) := by
  unfold Lib.cut; rw [idx_none c l h, if_neg (by decide)]
theorem cut_some (c : UInt8) (a b : List UInt8) (h : c ∉ a) : Lib.cut (a ++ c :: b) [c] = (a, b, true) := by
  unfold Lib.cut; rw [idx_some c b a h, if_pos (by omega)]
  simp
theorem split_at (c : UInt8) : ∀ l : List UInt8, c ∈ l → ∃ a b, l = a ++ c :: b ∧ c ∉ a
  | [], h => by simp at h
  | x :: l, h => by
    by_cases hx : x = c
    · exact ⟨[], l, by rw [hx]; rfl, by simp⟩
    · obtain ⟨a, b, rfl, ha⟩ := split_at c l (by simpa [Ne.symm hx] using h)
      exact ⟨x :: a, b, rfl, by simp [ha, Ne.symm hx]⟩

theorem foldl_free : ∀ (a : List UInt8) (x : St), (126 : UInt8) ∉ a → a.foldl step x = (x.1.map (fun l => l ++ a), x.2)
  | [], x, _ => by simp
  | c :: a, x, h => by
    have hc : c ≠ 126 := fun e => h (by simp [e])
    rw [List.foldl_cons, foldl_free a _ (fun e => h (by simp [e]))]
    unfold step
    rw [if_neg hc]
    simp [Option.map_map, Function.comp_def]
theorem foldl_out : ∀ (l : List UInt8) (c : Option (List UInt8)) (o : List (List UInt8)), l.foldl step (c, o) = ((l.foldl step (c, [])).1, o ++ (l.foldl step (c, [])).2)
  | [], c, o => by simp
  | x :: l, c, o => by
    rw [List.foldl_cons, List.foldl_cons]
    have e : step (c, o) x = ((step (c, []) x).1, o ++ (step (c, []) x).2) := by
      unfold step; split <;> simp
    rw [e, foldl_out l _ (o ++ _), foldl_out l (step (c, []) x).1 (step (c, []) x).2]
    simp
theorem strs_free {a : List UInt8} (h : (126 : UInt8) ∉ a) : strs a = [] := by
  unfold strs scan; rw [foldl_free a _ h]
theorem strs_one {a b : List UInt8} (ha : (126 : UInt8) ∉ a) (hb : (126 : UInt8) ∉ b) : strs (a ++ 126 :: b) = [] := by
  unfold strs scan
  rw [List.foldl_append, foldl_free a _ ha, List.foldl_cons, foldl_free b _ hb]
  rfl
theorem strs_front {a b : List UInt8} (rest : List UInt8) (ha : (126 : UInt8) ∉ a) (hb : (126 : UInt8) ∉ b) : strs (a ++ 126 :: (b ++ 126 :: rest)) = b :: strs (126 :: rest) := by
  unfold strs scan
  rw [List.foldl_append, foldl_free a _ ha, List.foldl_cons, List.foldl_append, foldl_free b _ hb, List.foldl_cons, List.foldl_cons]
  have e1 : step ((step ((none, []) : St) 126).1.map (fun l => l ++ b), (step ((none, []) : St) 126).2) 126 = (some [], [b]) := by
    simp [step]
  have e2 : step ((none, []) : St) 126 = (some [], []) := rfl
  show (rest.foldl step (step ((step ((none, []) : St) 126).1.map (fun l => l ++ b), (step ((none, []) : St) 126).2) 126)).2 = _
  rw [e1, e2, foldl_out]
  rfl

/-- a stretch: it has no flag -/
def Str : Type := { l : List UInt8 // (126 : UInt8) ∉ l ∧ l.length ≤ 1000000 }

theorem stretches_calls (l : List UInt8) (w : World) :
    Calls Tryd.prog 46 #[.string ⟨l.toArray⟩] w fun e w' => e = .returned (.func (.func 63) #[] #[.pointer (some ⟨w.heap.size, 0, none⟩)]) ∧ w' = w.alloc (.cells #[.string ⟨l.toArray⟩] 9) := by
  go_enter Tryd.func46, Tryd.ntmps46
  go_wp2_with fail
  go_ret
  exact ⟨rfl, rfl⟩

def leftOfF (w : World) (b : Nat) : Nat := match w.cell? ⟨b, 0, none⟩ with
  | some (.string s) => s.size
  | _ => 0
theorem leftOf_eq {w : World} {b : Nat} {l : List UInt8} (h : w.heap[b]? = some (.cells #[.string ⟨l.toArray⟩] 9)) : leftOfF w b = l.length := by
  unfold leftOfF
  rw [show w.cell? ⟨b, 0, none⟩ = some (.string ⟨l.toArray⟩) by simp [World.cell?, h]]
  simp [ByteArray.size]

theorem cutYes (a u : List UInt8) (ha : (126 : UInt8) ∉ a) (m : Int) (w : World) (hm : MaxAt m w) (hl : (a ++ 126 :: u).length ≤ 1000000) :
    Calls Tryd.prog 64 #[.string ⟨(a ++ 126 :: u).toArray⟩, .string ⟨#[126]⟩] w fun e w' => e = .returned (.tuple #[.string ⟨a.toArray⟩, .string ⟨u.toArray⟩, .bool true]) ∧ ∃ n, w' = w.drewN n := by
  have := Tryd.strings_Cut ⟨(a ++ 126 :: u).toArray⟩ ⟨#[126]⟩ m w (by rw [str_size]; omega) hm.1
  have e : Lib.cut (ByteArray.mk (a ++ 126 :: u).toArray).data.toList (ByteArray.mk #[126]).data.toList = (a, u, true) := by simp only [List.toList_toArray]; exact cut_some 126 a u ha
  rw [e] at this
  exact this
theorem cutNo (a : List UInt8) (ha : (126 : UInt8) ∉ a) (m : Int) (w : World) (hm : MaxAt m w) (hl : a.length ≤ 1000000) :
    Calls Tryd.prog 64 #[.string ⟨a.toArray⟩, .string ⟨#[126]⟩] w fun e w' => e = .returned (.tuple #[.string ⟨a.toArray⟩, .string ⟨#[]⟩, .bool false]) ∧ ∃ n, w' = w.drewN n := by
  have := Tryd.strings_Cut ⟨a.toArray⟩ ⟨#[126]⟩ m w (by rw [str_size]; omega) hm.1
  have e : Lib.cut (ByteArray.mk a.toArray).data.toList (ByteArray.mk #[126]).data.toList = (a, [], false) := by simp only [List.toList_toArray]; exact cut_none 126 a ha
  rw [e] at this
  exact this

attribute [local go_sem] Oper.semAt_some

set_option maxRecDepth 100000 in
set_option maxHeartbeats 2000000 in
theorem iter_in (n : Nat) (m : Int) (cb : Nat) (t0 : List UInt8) (ht0 : t0.length ≤ 1000000) (l : Nat) (J : List Str → World → Prop) (W0 : World)
    (hJ : AbidesFrom W0.heap.size J) (hJc : ∀ pre A v, J pre A → J pre (A.setCell ⟨cb, 0, none⟩ v)) (hJG : ∀ pre A, J pre A → MaxAt m A)
    (hY : ∀ pre (x : Str) W1, J pre W1 → pre.length < (strs t0).length → YieldAt Fence.wide n Tryd.prog l #[.string ⟨x.1.toArray⟩] W1 fun e W' =>
      e = .returned (.bool true) ∧ J (pre ++ [x]) W' ∧ W'.heap[cb]? = W1.heap[cb]?)
    (hcb : W0.heap[cb]? = some (.cells #[.string ⟨t0.toArray⟩] 9)) (h0 : J [] W0) :
    CallsIn Fence.wide (n + 1) Tryd.prog 63 #[.func (.yield l) #[] #[], .pointer (some ⟨cb, 0, none⟩)] W0 fun e W' => (∃ v, e = .returned v) ∧ (∃ xs : List Str, xs.map (·.1) = strs t0 ∧ J xs W') := by
  refine callsIn_of_wp Tryd.func63 rfl trivial ?_ rfl
  simp only [Tryd.ntmps63, List.size_toArray, List.length_cons, List.length_nil, Nat.reduceAdd, Nat.reduceSub, Array.replicate_succ, Array.replicate_zero, List.push_toArray, List.append_toArray, List.nil_append, List.cons_append]
  gi_wp2
  gi_loopw [3, 4, 5, 6, 7, 8] (fun _ _ _ _ _ _ wr => ∃ (pre : List Str) (t : List UInt8), pre.map (·.1) ++ strs t = strs t0 ∧ t.length ≤ 1000000 ∧ wr.heap[cb]? = some (.cells #[.string ⟨t.toArray⟩] 9) ∧ J pre wr) (fun _ _ _ _ _ _ wr => leftOfF wr cb)
  case atStart => exact ⟨[], t0, by simp, ht0, hcb, h0⟩
  case round =>
    obtain ⟨pre, t, hpre, htl, hc, hj⟩ := hrel
    have hm := hJG _ _ hj
    have hcell : wr.cell? ⟨cb, 0, none⟩ = some (.string ⟨t.toArray⟩) := by simp [World.cell?, hc]
    have hdr : ∀ (A : World) (k : Nat), J pre A → J pre (A.drewN k) := fun A k h => hJ pre A (A.drewN k) none h (grownBy_drewN (grownBy_refl A none) k) (fun r e => by cases e)
    have Hhpre := Lib.hid hpre
    clear hpre
    have Hhc := Lib.hid hc
    clear hc
    have Hhj := Lib.hid hj
    clear hj
    have Hhm := Lib.hid hm
    clear hm
    have HhY := Lib.hid hY
    clear hY
    have HhJ := Lib.hid hJ
    clear hJ
    have HhJc := Lib.hid hJc
    clear hJc
    have HhJG := Lib.hid hJG
    clear hJG
    have Hhdr := Lib.hid hdr
    clear hdr
    by_cases h1 : (126 : UInt8) ∈ t
    · obtain ⟨a, u, rfl, ha⟩ := split_at 126 t h1
      clear h1
      by_cases h2 : (126 : UInt8) ∈ u
      · obtain ⟨b, rest, rfl, hb⟩ := split_at 126 u h2
        clear h2
        have hfr := strs_front rest ha hb
        have hl2 : (b ++ 126 :: rest).length ≤ 1000000 := by simp only [List.length_append, List.length_cons] at htl ⊢; omega
        have Hhfr := Lib.hid hfr
        clear hfr
        have Hha := Lib.hid ha
        clear ha
        have Hhb := Lib.hid hb
        clear hb
        gi_wp2_with fail
        refine ⟨trivial, ?_⟩
        refine (callsIn_wide.2 (cutYes a (b ++ 126 :: rest) Hha.out m wr Hhm.out htl)).mono ?_
        rintro e w2 ⟨rfl, n1, hw2⟩
        have hj2 : J pre w2 := by rw [hw2]; exact Hhdr.out wr n1 Hhj.out
        have hc2 : w2.heap[cb]? = some (.cells #[.string ⟨(a ++ 126 :: (b ++ 126 :: rest)).toArray⟩] 9) := by rw [hw2]; exact Hhc.out
        clear hw2
        have hm2 := HhJG.out _ _ hj2
        have Hhj2 := Lib.hid hj2
        clear hj2
        have Hhc2 := Lib.hid hc2
        clear hc2
        have Hhm2 := Lib.hid hm2
        clear hm2
        gi_wp2_with fail
        refine ⟨trivial, ?_⟩
        refine (callsIn_wide.2 (cutYes b rest Hhb.out m w2 Hhm2.out hl2)).mono ?_
        rintro e w3 ⟨rfl, n2, hw3⟩
        have hj3 : J pre w3 := by rw [hw3]; exact Hhdr.out w2 n2 Hhj2.out
        have hc3 : w3.heap[cb]? = some (.cells #[.string ⟨(a ++ 126 :: (b ++ 126 :: rest)).toArray⟩] 9) := by rw [hw3]; exact Hhc2.out
        clear hw3
        have hlen : pre.length < (strs t0).length := by
          have := congrArg List.length Hhpre.out
          rw [Hhfr.out] at this
          simp at this
          omega
        have hbl : b.length ≤ 1000000 := by simp only [List.length_append, List.length_cons] at hl2; omega
        obtain ⟨fn, tmps, assign, bodyc, hy, hR⟩ := HhY.out pre ⟨b, Hhb.out, hbl⟩ w3 hj3 hlen
        dsimp only at hy
        have Hhj3 := Lib.hid hj3
        clear hj3
        have Hhc3 := Lib.hid hc3
        clear hc3
        have HhR := Lib.hid hR
        clear hR
        gi_wp2_with fail
        refine HhR.out.mono ?_
        rintro e W4 ⟨rfl, hJ4, hk4⟩
        have hc4 : W4.heap[cb]? = some (.cells #[.string ⟨(a ++ 126 :: (b ++ 126 :: rest)).toArray⟩] 9) := by rw [hk4]; exact Hhc3.out
        have hcell4 : W4.cell? ⟨cb, 0, none⟩ = some (.string ⟨(a ++ 126 :: (b ++ 126 :: rest)).toArray⟩) := by simp [World.cell?, hc4]
        have hfr4 : W4.frozen? ⟨cb, 0, none⟩ = false := by simp [World.frozen?, hc4]
        have hzb := str_size b
        have hzr := str_size (b ++ 126 :: rest)
        have hbz : (b.length : Int) ≤ ((b ++ 126 :: rest).length : Int) := by simp only [List.length_append, List.length_cons]; omega
        have hbz2 : b.length ≤ (b ++ 126 :: rest).length := by omega
        have hex : (ByteArray.mk (b ++ 126 :: rest).toArray).extract b.length (b ++ 126 :: rest).length = ⟨(126 :: rest).toArray⟩ := by
          rw [drop_extract]; simp
        clear hk4
        have hlb : b.length + (rest.length + 1) = (b ++ 126 :: rest).length := by simp
        have HhJ4 := Lib.hid hJ4
        clear hJ4
        have Hhc4 := Lib.hid hc4
        clear hc4
        have Hhlb := Lib.hid hlb
        clear hlb
        have Hhex := Lib.hid hex
        clear hex
        gi_wp2_with fail
        rw [Hhlb.out, Hhex.out]
        refine ⟨⟨pre ++ [⟨b, Hhb.out, hbl⟩], 126 :: rest, ?_, ?_, heap_setCell_same W4 cb 0 _ 9 _ Hhc4.out, HhJc.out _ _ _ HhJ4.out⟩, ?_⟩
        · have h1 := Hhpre.out
          rw [Hhfr.out] at h1
          rw [← h1]
          simp
          rfl
        · simp only [List.length_append, List.length_cons] at hl2 ⊢; omega
        · rw [leftOf_eq (heap_setCell_same W4 cb 0 _ 9 _ Hhc4.out), leftOf_eq Hhc.out]
          simp only [List.length_append, List.length_cons]; omega
      · have hone := strs_one ha h2
        have hul : u.length ≤ 1000000 := by simp only [List.length_append, List.length_cons] at htl; omega
        have Hha := Lib.hid ha
        clear ha
        have Hh2 := Lib.hid h2
        clear h2
        have Hhone := Lib.hid hone
        clear hone
        gi_wp2_with fail
        refine ⟨trivial, ?_⟩
        refine (callsIn_wide.2 (cutYes a u Hha.out m wr Hhm.out htl)).mono ?_
        rintro e w2 ⟨rfl, n1, hw2⟩
        have hj2 : J pre w2 := by rw [hw2]; exact Hhdr.out wr n1 Hhj.out
        clear hw2
        have hm2 := HhJG.out _ _ hj2
        have Hhj2 := Lib.hid hj2
        clear hj2
        have Hhm2 := Lib.hid hm2
        clear hm2
        gi_wp2_with fail
        refine ⟨trivial, ?_⟩
        refine (callsIn_wide.2 (cutNo u Hh2.out m w2 Hhm2.out hul)).mono ?_
        rintro e w3 ⟨rfl, n2, hw3⟩
        have hj3 : J pre w3 := by rw [hw3]; exact Hhdr.out w2 n2 Hhj2.out
        clear hw3
        have Hhj3 := Lib.hid hj3
        clear hj3
        gi_wp2_with fail
        refine ⟨fun _ h => (by cases h), ?_⟩
        gi_wp2_with fail
        refine bodyPost_ret (results_none rfl _ _ _) rfl ?_
        refine ⟨⟨_, rfl⟩, pre, ?_, Hhj3.out⟩
        have h1 := Hhpre.out
        rw [Hhone.out] at h1
        simpa using h1
    · have hone := strs_free h1
      have Hh1 := Lib.hid h1
      clear h1
      have Hhone := Lib.hid hone
      clear hone
      gi_wp2_with fail
      refine ⟨trivial, ?_⟩
      refine (callsIn_wide.2 (cutNo t Hh1.out m wr Hhm.out htl)).mono ?_
      rintro e w2 ⟨rfl, n1, hw2⟩
      have hj2 : J pre w2 := by rw [hw2]; exact Hhdr.out wr n1 Hhj.out
      clear hw2
      have Hhj2 := Lib.hid hj2
      clear hj2
      gi_wp2_with fail
      refine bodyPost_ret (results_none rfl _ _ _) rfl ?_
      refine ⟨⟨_, rfl⟩, pre, ?_, Hhj2.out⟩
      have h1 := Hhpre.out
      rw [Hhone.out] at h1
      simpa using h1
end Go.Proofs.YtibhihobpehpbaaDoor
