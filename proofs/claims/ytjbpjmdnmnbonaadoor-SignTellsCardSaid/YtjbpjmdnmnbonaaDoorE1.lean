/- The references' walks: group. -/
import Derived.Test.YtjbpjmdnmnbonaaDoorX8
set_option linter.unusedSimpArgs false
set_option linter.unusedVariables false
namespace Go.Proofs.YtjbpjmdnmnbonaaDoor
open Go.RowKit

theorem refMod_calls (a : Int) (y : Nat) (w : World) (hy : Md y) (ha : In64 a) :
    Calls Tryd.prog 45 #[.int .i64 a, .int .i64 y] w fun e w' => e = .returned (.int .i64 (a % (y : Int))) ∧ Below w.heap.size w w' := by
  obtain ⟨hyl, hy0⟩ := hy.lt
  have hyi : ¬ ((y : Int) = 0) := by omega
  have hf := tmod_fix a y (by omega)
  have h1 : -(y : Int) < a.tmod y ∧ a.tmod y < y := by
    have := Int.tmod_lt_of_pos a (show (0 : Int) < y by omega)
    have := Int.lt_tmod_of_pos a (show (0 : Int) < y by omega)
    omega
  rw [← hf]
  clear hf
  obtain ⟨h64a, h64b⟩ := ha
  generalize hz : a.tmod (y : Int) = z at *
  obtain ⟨h1a, h1b⟩ := h1
  by_cases hneg : z < 0
  · rw [if_pos hneg]
    go_enter Tryd.func45, Tryd.ntmps45
    go_wp2_with fail
    go_ret
    exact ⟨rfl, Below.refl _ _⟩
  · rw [if_neg hneg]
    go_enter Tryd.func45, Tryd.ntmps45
    go_wp2_with fail
    go_ret
    exact ⟨rfl, Below.refl _ _⟩
theorem refModP_calls (a : Int) (w : World) (ha : In64 a) : Calls Tryd.prog 45 #[.int .i64 a, .int .i64 2305843009213691579] w fun e w' => e = .returned (.int .i64 (resP a : Int)) ∧ Below w.heap.size w w' :=
  (refMod_calls a 2305843009213691579 w mdP ha).mono fun e w' ⟨h1, h2⟩ => ⟨by rw [h1, resP_c], h2⟩
theorem refModQ_calls (a : Int) (w : World) (ha : In64 a) : Calls Tryd.prog 45 #[.int .i64 a, .int .i64 1152921504606845789] w fun e w' => e = .returned (.int .i64 (resQ a : Int)) ∧ Below w.heap.size w w' :=
  (refMod_calls a 1152921504606845789 w mdQ ha).mono fun e w' ⟨h1, h2⟩ => ⟨by rw [h1, resQ_c], h2⟩

/-- a number below 2 y, less y where it is not below y -/
theorem once_less {u y : Nat} (h : u < 2 * y) : (if y ≤ u then u - y else u) = u % y := by
  split
  · rw [Nat.mod_eq_sub_mod (by assumption), Nat.mod_eq_of_lt (by omega)]
  · rw [Nat.mod_eq_of_lt (by omega)]
theorem times_step {x a k y r : Nat} (hodd : r ≤ 1) : ((x + r * a) % y + (a + a) % y * k) % y = (x + a * (2 * k + r)) % y := by
  rw [Nat.add_mod, Nat.mod_mod, Nat.mod_mul_mod, ← Nat.add_mod]
  congr 1
  rw [Nat.mul_add, Nat.add_mul, Nat.mul_comm r a, ← Nat.mul_assoc, Nat.mul_comm a 2, Nat.mul_assoc]
  omega
set_option maxHeartbeats 2000000 in
theorem times_calls (a b y : Nat) (w : World) (hy : Md y) (ha : a < y) (hb : b < y) :
    Calls Tryd.prog 46 #[.int .i64 a, .int .i64 b, .int .i64 y] w fun e w' => e = .returned (.int .i64 ((a * b % y : Nat) : Int)) ∧ Below w.heap.size w w' := by
  obtain ⟨hyl, hy0⟩ := hy.lt
  clear hy
  go_enter Tryd.func46, Tryd.ntmps46
  go_wp2_with fail
  go_loopw [0, 1, 7] (fun s0 s1 s7 wr => ∃ c d x : Nat, s0 = .int .i64 c ∧ s1 = .int .i64 d ∧ s7 = .int .i64 x ∧ c < y ∧ d < y ∧ x < y ∧ (x + c * d) % y = a * b % y ∧ wr = w) (fun _ s1 _ _ => (intOf s1).toNat)
  case atStart => exact ⟨a, b, 0, rfl, rfl, rfl, ha, hb, hy0, by rw [Nat.zero_add], rfl⟩
  case round =>
    obtain ⟨c, d, x, rfl, rfl, rfl, hc, hd, hx, hinv, rfl⟩ := hrel
    by_cases hd0 : 0 < d
    · have hbit := bit_of d (by omega)
      obtain ⟨k, hk⟩ : ∃ k, k = d / 2 := ⟨_, rfl⟩
      have hkc : (d : Int) / 2 = (k : Int) := by omega
      have hkd : k < d := by omega
      have e2 := once_less (u := c + c) (y := y) (by omega)
      by_cases hodd : d % 2 = 1
      · have hb1 : (bits .and .i64 (d : Int) 1 == 1) = true := by rw [hbit, hodd]; rfl
        have hst := times_step (x := x) (a := c) (k := k) (y := y) (r := 1) (by omega)
        rw [Nat.one_mul, show 2 * k + 1 = d by omega, hinv] at hst
        have e1 := once_less (u := x + c) (y := y) (by omega)
        rw [← e1, ← e2] at hst
        clear hbit hk hinv e1 e2 hodd
        by_cases q1 : y ≤ x + c <;> by_cases q2 : y ≤ c + c
        · rw [if_pos q1, if_pos q2] at hst
          have Hhst := Lib.hid hst
          clear hst
          go_wp2_with fail
          exact ⟨⟨c + c - y, k, x + c - y, by go_num, rfl, by go_num, by omega, by omega, by omega, Hhst.out, trivial⟩, by simp [intOf]; omega⟩
        · rw [if_pos q1, if_neg q2] at hst
          have Hhst := Lib.hid hst
          clear hst
          go_wp2_with fail
          exact ⟨⟨c + c, k, x + c - y, by go_num, rfl, by go_num, by omega, by omega, by omega, Hhst.out, trivial⟩, by simp [intOf]; omega⟩
        · rw [if_neg q1, if_pos q2] at hst
          have Hhst := Lib.hid hst
          clear hst
          go_wp2_with fail
          exact ⟨⟨c + c - y, k, x + c, by go_num, rfl, by go_num, by omega, by omega, by omega, Hhst.out, trivial⟩, by simp [intOf]; omega⟩
        · rw [if_neg q1, if_neg q2] at hst
          have Hhst := Lib.hid hst
          clear hst
          go_wp2_with fail
          exact ⟨⟨c + c, k, x + c, by go_num, rfl, by go_num, by omega, by omega, by omega, Hhst.out, trivial⟩, by simp [intOf]; omega⟩
      · have hb1 : (bits .and .i64 (d : Int) 1 == 1) = false := by rw [hbit, beq_eq_false_iff_ne]; omega
        have hst := times_step (x := x) (a := c) (k := k) (y := y) (r := 0) (by omega)
        rw [Nat.zero_mul, Nat.add_zero, Nat.mod_eq_of_lt hx, show 2 * k + 0 = d by omega, hinv] at hst
        rw [← e2] at hst
        clear hbit hk hinv e2 hodd
        by_cases q2 : y ≤ c + c
        · rw [if_pos q2] at hst
          have Hhst := Lib.hid hst
          clear hst
          go_wp2_with fail
          exact ⟨⟨c + c - y, k, x, by go_num, rfl, rfl, by omega, by omega, by omega, Hhst.out, trivial⟩, by simp [intOf]; omega⟩
        · rw [if_neg q2] at hst
          have Hhst := Lib.hid hst
          clear hst
          go_wp2_with fail
          exact ⟨⟨c + c, k, x, by go_num, rfl, rfl, by omega, by omega, by omega, Hhst.out, trivial⟩, by simp [intOf]; omega⟩
    · obtain rfl : d = 0 := by omega
      rw [Nat.mul_zero, Nat.add_zero, Nat.mod_eq_of_lt hx] at hinv
      have Hhinv := Lib.hid hinv
      clear hinv
      go_wp2_with fail
      go_ret
      exact ⟨by rw [← Hhinv.out]; rfl, Below.refl _ _⟩
end Go.Proofs.YtjbpjmdnmnbonaaDoor
