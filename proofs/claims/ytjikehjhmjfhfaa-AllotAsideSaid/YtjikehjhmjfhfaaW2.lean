/- The walks of the small functions on numbers. -/
import Derived.Test.YtjikehjhmjfhfaaPlain2
namespace Go.Proofs.Ytjikehjhmjfhfaa
open Go.RowKit


theorem end_calls (t : Bool) (w : World) : Calls Try.prog 33 #[.bool t] w fun e w' => e = .returned (.int .i64 (if t then -9223372036854775808 else 9223372036854775807)) ∧ w = w' := by
  cases t
  all_goals
    go_enter Try.func33, Try.ntmps33
    go_wp2
    go_ret
    exact ⟨rfl, rfl⟩

set_option maxHeartbeats 400000 in
theorem Add_calls (a b : Int) (w : World) (ha : In64 a) (hb : In64 b) : Calls Try.prog 21 #[.int .i64 a, .int .i64 b] w fun e w' => e = .returned (.int .i64 (addS a b)) ∧ w = w' := by
  unfold In64 at ha hb
  obtain ⟨a1, a2⟩ := ha
  obtain ⟨b1, b2⟩ := hb
  by_cases h1 : a + b < -9223372036854775808
  · have ha : a < 0 := by omega
    have hb : b < 0 := by omega
    have hw : ¬ wrap64 (a + b) < 0 := by unfold wrap64; omega
    have E1 := Lib.hid (addS_lo h1)
    go_enter Try.func21, Try.ntmps21
    go_wp2_with (go_at_call 33; refine (end_calls _ _).mono ?_; rintro e w' ⟨rfl, rfl⟩)
    go_ret
    exact ⟨ret_int E1.out.symm, rfl⟩
  by_cases h2 : 9223372036854775807 < a + b
  · have ha : ¬ a < 0 := by omega
    have hb : ¬ b < 0 := by omega
    have hw : wrap64 (a + b) < 0 := by unfold wrap64; omega
    have E1 := Lib.hid (addS_hi h2)
    go_enter Try.func21, Try.ntmps21
    go_wp2_with (go_at_call 33; refine (end_calls _ _).mono ?_; rintro e w' ⟨rfl, rfl⟩)
    go_ret
    exact ⟨ret_int E1.out.symm, rfl⟩
  · have E1 := Lib.hid (addS_in h1 h2)
    by_cases ha : a < 0 <;> by_cases hb : b < 0 <;> by_cases hc : a + b < 0 <;> (first | (exfalso; omega) | skip)
    all_goals
      go_enter Try.func21, Try.ntmps21
      go_wp2
      go_ret
      exact ⟨ret_int E1.out.symm, rfl⟩

theorem refAdd_calls (a b : Int) (w : World) (ha : In64 a) (hb : In64 b) : Calls Try.prog 32 #[.int .i64 a, .int .i64 b] w fun e w' => e = .returned (.int .i64 (addS a b)) ∧ w = w' := by
  unfold In64 at ha hb
  obtain ⟨a1, a2⟩ := ha
  obtain ⟨b1, b2⟩ := hb
  go_enter Try.func32, Try.ntmps32
  go_wp2
  all_goals go_ret
  all_goals exact ⟨ret_int (by unfold addS; (repeat' split) <;> omega), rfl⟩

theorem Clamp_calls (n lo hi : Int) (w : World) : Calls Try.prog 28 #[.int .i64 n, .int .i64 lo, .int .i64 hi] w fun e w' => e = .returned (.int .i64 (if n < lo then lo else if hi < n then hi else n)) ∧ w = w' := by
  go_enter Try.func28, Try.ntmps28
  go_wp2
  all_goals go_ret
  all_goals exact ⟨ret_int (by simp [*]), rfl⟩
theorem refClamp_calls (n lo hi : Int) (w : World) : Calls Try.prog 31 #[.int .i64 n, .int .i64 lo, .int .i64 hi] w fun e w' => e = .returned (.int .i64 (if n < lo then lo else if hi < n then hi else n)) ∧ w = w' := by
  go_enter Try.func31, Try.ntmps31
  go_wp2
  all_goals go_ret
  all_goals exact ⟨ret_int (by simp [*]), rfl⟩
theorem in_calls (n lo : Int) (w : World) : Calls Try.prog 35 #[.int .i64 n, .int .i64 lo] w fun e w' => e = .returned (.bool (decide (lo ≤ n) && decide (n ≤ 1125899906842624))) ∧ w = w' := by
  go_enter Try.func35, Try.ntmps35
  go_wp2
  all_goals go_ret
  all_goals exact ⟨ret_bool (by simp <;> omega), rfl⟩
end Go.Proofs.Ytjikehjhmjfhfaa
