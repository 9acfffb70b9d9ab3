/- The walks of the small functions. -/
import Derived.Test.YtjikehjhmjfhfaaBase
namespace Go.Proofs.Ytjikehjhmjfhfaa
open Go.RowKit

def has (l : List Int) (n : Int) : Bool := l.any (fun x => x == n)
theorem has_snoc (l : List Int) (x n : Int) : has (l ++ [x]) n = (has l n || (x == n)) := by simp [has]
theorem has_of (l : List Int) (k : Nat) (h : k < l.length) (n : Int) (e : (nth l k == n) = true) : has l n = true := by
  rw [nth_eq l k h] at e
  simp only [has, List.any_eq_true]
  exact ⟨l[k], List.getElem_mem h, e⟩
theorem has_take (l : List Int) (k : Nat) (h : k < l.length) (n : Int) (e : (nth l k == n) = false) (h2 : has (l.take k) n = false) : has (l.take (k + 1)) n = false := by
  rw [nth_eq l k h] at e
  rw [take_snoc' l k h, has_snoc, h2, Bool.false_or]
  exact e

set_option maxHeartbeats 400000 in
theorem Has_calls (v : Value) (l : List Int) (n : Int) (w : World) (h : IntsAt w v l) :
    Calls Try.prog 20 #[v, .int .i64 n] w fun e w' => e = .returned (.bool (has l n)) ∧ w = w' := by
  obtain ⟨oa, cap, rfl, hm, hr, hc⟩ := h
  clear hr
  have HC := Lib.hid hc
  clear hc
  go_enter Try.func20, Try.ntmps20
  go_wp2
  go_loop [5] (fun i => ∃ k : Nat, k ≤ l.length ∧ i = .int .i64 k ∧ has (l.take k) n = false) (fun i => l.length - (intOf i).toNat)
  case atStart => exact ⟨0, by omega, rfl, by simp [has]⟩
  case round =>
    obtain ⟨k, hk, rfl, hh⟩ := hrel
    have HH := Lib.hid hh
    clear hh
    by_cases hlt : k < l.length
    · obtain ⟨b, off, rfl, hb, hcell⟩ := HC.out (by omega)
      have hcell := hcell k hlt
      clear hb
      go_wp2
      · have ht : (nth l k == n) = true := by assumption
        go_ret
        exact ⟨ret_bool (has_of l k hlt n ht).symm, rfl⟩
      · have ht : (nth l k == n) = false := by assumption
        go_round
        case rel => exact ⟨k + 1, by omega, by go_num, has_take l k hlt n ht HH.out⟩
        case measure => simp [intOf]; omega
    · go_wp2
      go_ret
      have hh := HH.out
      rw [List.take_of_length_le (by omega)] at hh
      exact ⟨ret_bool hh.symm, rfl⟩

end Go.Proofs.Ytjikehjhmjfhfaa
