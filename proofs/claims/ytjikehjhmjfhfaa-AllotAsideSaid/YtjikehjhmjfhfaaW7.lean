/- The walks of the comparisons and of small functions on rights. -/
import Derived.Test.YtjikehjhmjfhfaaW6
import Derived.Deep.QuietTactic
import Derived.BigQuiet
namespace Go.Proofs.Ytjikehjhmjfhfaa
open Go.RowKit

theorem take_eq_succ {α : Type} {a b : List α} {k : Nat} (ha : k < a.length) (hb : k < b.length) (h : a.take k = b.take k) (e : a[k] = b[k]) : a.take (k + 1) = b.take (k + 1) := by
  rw [take_snoc' a k ha, take_snoc' b k hb, h, e]
theorem ne_of_at {α : Type} {a b : List α} {k : Nat} (ha : k < a.length) (hb : k < b.length) (e : a[k] ≠ b[k]) : a ≠ b := by
  intro h; subst h; exact e rfl

set_option maxHeartbeats 400000 in
theorem SameInts_calls (va vb : Value) (la lb : List Int) (w : World) (ha : IntsAt w va la) (hb : IntsAt w vb lb) :
    Calls Try.prog 12 #[va, vb] w fun e w' => e = .returned (.bool (decide (la = lb))) ∧ Below w.heap.size w w' := by
  have ha0 := ha
  have hb0 := hb
  obtain ⟨oa, cap, rfl, hm, hr, hc⟩ := ha
  obtain ⟨ob, capb, rfl, hmb, hrb, hcb⟩ := hb
  clear hr hrb hc hcb
  have Hha0 := Lib.hid ha0
  clear ha0
  have Hhb0 := Lib.hid hb0
  clear hb0
  by_cases hlen : la.length = lb.length
  · have hlen' : ((la.length : Int) != (lb.length : Int)) = false := by simp [hlen]
    have HLen := Lib.hid hlen
    clear hlen
    go_enter Try.func12, Try.ntmps12
    go_wp2_with fail
    go_loopw [5] (fun s5 wr => ∃ k : Nat, k ≤ la.length ∧ s5 = .int .i64 k ∧ la.take k = lb.take k ∧ Below w.heap.size w wr) (fun s5 _ => la.length - (intOf s5).toNat)
    case atStart => exact ⟨0, by omega, rfl, by simp, Below.refl _ _⟩
    case round =>
      clear hlen'
      obtain ⟨k, hk, rfl, ht, hB⟩ := hrel
      have Hht := Lib.hid ht
      clear ht
      by_cases hlt : k < la.length
      · obtain ⟨oa', capa', hv, _, _, hc⟩ := Hha0.out.below hB (Nat.le_refl _)
        obtain ⟨rfl, _, rfl⟩ := Value.slice.inj hv
        obtain ⟨b1, off1, rfl, _, hc1⟩ := hc (by omega)
        replace hc1 := hc1 k hlt
        clear hv
        have hlb : k < lb.length := by have := HLen.out; omega
        obtain ⟨ob', capb', hv, _, _, hc⟩ := Hhb0.out.below hB (Nat.le_refl _)
        obtain ⟨rfl, _, rfl⟩ := Value.slice.inj hv
        obtain ⟨b2, off2, rfl, _, hc2⟩ := hc (by omega)
        replace hc2 := hc2 k hlb
        clear hv
        go_wp2_with fail
        go_quiet (fail)
        by_cases he : nth la k = nth lb k
        · have he' : (nth la k != nth lb k) = false := by simp [he]
          have HE := Lib.hid he
          clear he
          go_wp2_with fail
          refine ⟨⟨k + 1, by omega, by go_num, take_eq_succ hlt hlb Hht.out (by have := HE.out; rwa [nth_eq _ _ hlt, nth_eq _ _ hlb] at this), below_drewN hB _⟩, by simp [intOf]; omega⟩
        · have he' : (nth la k != nth lb k) = true := by simp [he]
          have HE := Lib.hid he
          clear he
          go_wp2_with fail
          go_ret
          refine ⟨ret_bool ?_, below_drewN hB _⟩
          have := HE.out
          rw [nth_eq _ _ hlt, nth_eq _ _ hlb] at this
          simp [ne_of_at hlt hlb this]
      · go_wp2_with fail
        go_ret
        refine ⟨ret_bool ?_, hB⟩
        have h := Hht.out
        have := HLen.out
        rw [List.take_of_length_le (by omega), List.take_of_length_le (by omega)] at h
        simp [h]
  · have hlen' : ((la.length : Int) != (lb.length : Int)) = true := by simp; omega
    have HLen := Lib.hid hlen
    clear hlen
    go_enter Try.func12, Try.ntmps12
    go_wp2_with fail
    go_ret
    refine ⟨ret_bool ?_, Below.refl _ _⟩
    have : la ≠ lb := fun h => HLen.out (by rw [h])
    simp [this]
end Go.Proofs.Ytjikehjhmjfhfaa
