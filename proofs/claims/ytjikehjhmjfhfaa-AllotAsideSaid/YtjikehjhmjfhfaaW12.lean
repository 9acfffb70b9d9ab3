/- The walks of Scale. -/
import Derived.Test.YtjikehjhmjfhfaaW2
import Derived.Test.YtjikehjhmjfhfaaShelf
import Derived.BigQuiet
namespace Go.Proofs.Ytjikehjhmjfhfaa
open Go.RowKit

/-- Div64 where the high word is 0 -/
theorem Div64_0_calls (lo y : Int) (w : World) (h0 : 0 ≤ lo) (h1 : lo ≤ 18446744073709551615) (hy : 0 < y) (hy2 : y ≤ 18446744073709551615) :
    Calls Try.prog 37 #[.int .u64 0, .int .u64 lo, .int .u64 y] w fun e w' => e = .returned (.tuple #[.int .u64 (lo / y), .int .u64 (lo % y)]) ∧ ∃ n, w' = w.drewN n := by
  have hy0 : (y == 0) = false := by simp; omega
  go_enter Try.func37, Try.ntmps37
  go_wp2_with fail
  go_quiet (fail)
  go_wp2_with fail
  go_ret2
  exact ⟨rfl, _, rfl⟩

theorem scale_bounds {a n : Int} (h0 : 0 ≤ a) (h1 : a ≤ 1125899906842624) (h2 : 0 ≤ n) (h3 : n ≤ 1000) : 0 ≤ a * n ∧ a * n ≤ 1125899906842624000 := by
  have := Int.mul_le_mul h1 h3 h2 (by omega)
  exact ⟨Int.mul_nonneg h0 h2, by omega⟩

/-- Scale by a number of per mille -/
theorem Scale_calls (a n : Int) (w : World) (h0 : 0 ≤ a) (h1 : a ≤ 1125899906842624) (h2 : 0 ≤ n) (h3 : n ≤ 1000) :
    Calls Try.prog 27 #[.int .i64 a, .int .i64 n, .int .i64 1000] w fun e w' => e = .returned (.tuple #[.int .i64 (a * n / 1000), .int .i64 (a * n % 1000), .bool true]) ∧ ∃ n, w' = w.drewN n := by
  obtain ⟨a, rfl⟩ := Int.eq_ofNat_of_zero_le h0
  obtain ⟨n, rfl⟩ := Int.eq_ofNat_of_zero_le h2
  have hb := scale_bounds h0 h1 h2 h3
  have hdiv : (a * n) / 18446744073709551616 = 0 := Nat.div_eq_of_lt (by have := hb.2; rw [← Int.natCast_mul] at this; omega)
  have hmod : (a * n) % 18446744073709551616 = a * n := Nat.mod_eq_of_lt (by have := hb.2; rw [← Int.natCast_mul] at this; omega)
  have hm := Try.bits_Mul64 a n (by omega) (by omega)
  rw [hdiv, hmod] at hm
  rw [← Int.natCast_mul] at hb ⊢
  generalize a * n = m at *
  have Hhdiv := Lib.hid hdiv
  clear hdiv
  have Hhmod := Lib.hid hmod
  clear hmod
  have Hhm := Lib.hid hm
  clear hm
  have d1 : decide ((0 : Int) ≤ (a : Int)) = true := by simp
  go_enter Try.func27, Try.ntmps27
  go_wp2_with (first
    | (go_at_call 35; refine (in_calls _ _ _).mono ?_; rintro e w' ⟨rfl, rfl⟩)
    | (go_at_call 36; refine (Hhm.out _).mono ?_; rintro e w' ⟨rfl, rfl⟩)
    | (go_at_call 37; refine (Div64_0_calls (m : Int) 1000 _ (by omega) (by omega) (by omega) (by omega)).mono ?_; rintro e w' ⟨rfl, nq, rfl⟩))
  go_ret3
  exact ⟨rfl, _, rfl⟩

/-- the bit that the reference looks at, k rounds before its end -/
def bitOf : Nat → Int
  | 0 => 0
  | k + 1 => 2 ^ k
theorem bitOf_half (k : Nat) : bitOf (k + 1) / 2 = bitOf k := by
  cases k with
  | zero => rfl
  | succ k => simp only [bitOf]; rw [Int.pow_succ]; omega
theorem bitOf_pos (k : Nat) : 0 < bitOf (k + 1) := by
  have : (0 : Int) < 2 ^ k := Int.pow_pos (by omega)
  exact this
theorem bitOf_le {k : Nat} (h : k ≤ 50) : bitOf (k + 1) ≤ 1125899906842624 := by
  have := Nat.pow_le_pow_right (n := 2) (by omega) h
  have e : bitOf (k + 1) = ((2 ^ k : Nat) : Int) := by simp [bitOf]
  rw [e]
  have e2 : (2 : Nat) ^ 50 = 1125899906842624 := by decide
  omega
theorem bits_and_i64 (a b : Nat) (ha : a < 9223372036854775808) (hb : b < 9223372036854775808) : bits .and .i64 a b = ((a &&& b : Nat) : Int) :=
  (bits_nat .i64 63 (by decide) (fun n h0 h1 => by rw [IntKind.wrap_i64]; omega) a b (by simpa using ha) (by simpa using hb)).1
theorem and_two_pow (n k : Nat) : n &&& 2 ^ k = if n.testBit k then 2 ^ k else 0 := by
  apply Nat.eq_of_testBit_eq
  intro i
  rw [Nat.testBit_and, Nat.testBit_two_pow]
  by_cases hk : k = i
  · subst hk
    cases h : n.testBit k <;> simp
  · cases h : n.testBit k <;> simp [hk, Nat.testBit_two_pow]
theorem and_bit (n : Nat) (k : Nat) (hn : n ≤ 1000) (hk : k ≤ 50) : (bits .and .i64 (n : Int) (bitOf (k + 1)) != 0) = n.testBit k := by
  have e : bitOf (k + 1) = ((2 ^ k : Nat) : Int) := by simp [bitOf]
  have h := bitOf_le hk
  rw [e] at h ⊢
  rw [bits_and_i64 n (2 ^ k) (by omega) (by omega), and_two_pow]
  have := Nat.two_pow_pos k
  cases n.testBit k
  · simp
  · simp only [if_true]
    rw [bne_iff_ne]
    omega
theorem half_step (n k : Nat) : n / 2 ^ k = 2 * (n / 2 ^ (k + 1)) + (n.testBit k).toNat := by
  rw [Nat.toNat_testBit, Nat.pow_succ, ← Nat.div_div_eq_div_mul]
  omega

/-- one round: what is carried on -/
theorem round_step {a n q r : Nat} (k : Nat) (h : q * 1000 + r = a * (n / 2 ^ (k + 1))) (_hr : r < 1000) :
    (2 * q + (2 * r + (n.testBit k).toNat * a) / 1000) * 1000 + (2 * r + (n.testBit k).toNat * a) % 1000 = a * (n / 2 ^ k) := by
  rw [half_step n k, Nat.mul_add, Nat.mul_comm a (n.testBit k).toNat, Nat.mul_left_comm, ← h]
  generalize (n.testBit k).toNat * a = b
  clear h
  omega
theorem round_le {a n q r : Nat} (k : Nat) (h : q * 1000 + r = a * (n / 2 ^ k)) (hn : n ≤ 1000) : q ≤ a := by
  have h0 : n / 2 ^ k ≤ n := Nat.div_le_self _ _
  generalize n / 2 ^ k = m at *
  have h1 : m ≤ 1000 := by omega
  have h2 := Nat.mul_le_mul_left a h1
  omega

theorem start51 (a : Nat) {n : Nat} (h : n ≤ 1000) : 0 * 1000 + 0 = a * (n / 2 ^ 51) := by
  have e : (2 : Nat) ^ 51 = 2251799813685248 := by decide
  rw [Nat.div_eq_of_lt (by omega)]
  omega

set_option maxHeartbeats 1000000 in
theorem refScale_calls (a n : Int) (w : World) (h0 : 0 ≤ a) (h1 : a ≤ 1125899906842624) (h2 : 0 ≤ n) (h3 : n ≤ 1000) :
    Calls Try.prog 30 #[.int .i64 a, .int .i64 n, .int .i64 1000] w fun e w' => e = .returned (.tuple #[.int .i64 (a * n / 1000), .int .i64 (a * n % 1000), .bool true]) ∧ ∃ n, w' = w.drewN n := by
  obtain ⟨a, rfl⟩ := Int.eq_ofNat_of_zero_le h0
  obtain ⟨n, rfl⟩ := Int.eq_ofNat_of_zero_le h2
  go_enter Try.func30, Try.ntmps30
  go_wp2_with fail
  go_loop [9, 10, 11] (fun s9 s10 s11 => ∃ k q r : Nat, k ≤ 51 ∧ s11 = .int .i64 (bitOf k) ∧ s9 = .int .i64 q ∧ s10 = .int .i64 r ∧ q * 1000 + r = a * (n / 2 ^ k) ∧ r < 1000) (fun _ _ s11 => (intOf s11).toNat)
  case atStart => exact ⟨51, 0, 0, by omega, rfl, rfl, rfl, start51 a (by omega), by omega⟩
  case round =>
    obtain ⟨k, q, r, hk, rfl, rfl, rfl, he, hr⟩ := hrel
    cases k with
    | zero =>
      have hb : bitOf 0 = 0 := rfl
      rw [hb]
      clear hb
      have Hhe := Lib.hid he
      clear he
      go_wp2_with fail
      go_ret3
      have he := Hhe.out
      simp only [Nat.pow_zero, Nat.div_one] at he
      rw [← Int.natCast_mul, ← he]
      have e1 : ((q * 1000 + r : Nat) : Int) / 1000 = q := by omega
      have e2 : ((q * 1000 + r : Nat) : Int) % 1000 = r := by omega
      rw [e1, e2]
      exact ⟨rfl, 0, rfl⟩
    | succ k =>
      have hstep := round_step k he hr
      have hqa := round_le (k + 1) he (by omega)
      have hqa2 := round_le k hstep (by omega)
      have hbit := and_bit n k (by omega) (by omega)
      have hhalf := bitOf_half k
      have hpos := bitOf_pos k
      have hle := bitOf_le (k := k) (by omega)
      generalize bitOf (k + 1) = P at *
      have Hhe := Lib.hid he
      clear he
      have Hhhalf := Lib.hid hhalf
      clear hhalf
      cases ht : n.testBit k
      all_goals
        simp only [ht, Bool.toNat_false, Bool.toNat_true, Nat.zero_mul, Nat.one_mul, Nat.add_zero] at hstep hbit hqa2
        clear ht
        have Hhstep := Lib.hid hstep
        clear hstep
        go_wp2_with fail
        refine ⟨⟨k, _, _, by omega, by rw [Hhhalf.out], ?_, ?_, Hhstep.out, by omega⟩, by simp [intOf]; omega⟩
        · go_num
        · go_num
end Go.Proofs.Ytjikehjhmjfhfaa
