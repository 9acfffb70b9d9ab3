/- The walks of group. -/
import Derived.Test.YtjbpjmdnmnbonaaDoorX1
set_option linter.unusedSimpArgs false
set_option linter.unusedVariables false
namespace Go.Proofs.YtjbpjmdnmnbonaaDoor
open Go.RowKit

/-- the two moduli -/
def Md (y : Nat) : Prop := y = 2305843009213691579 ∨ y = 1152921504606845789
theorem Md.lt {y : Nat} (h : Md y) : y < 4611686018427387904 ∧ 0 < y := by rcases h with rfl | rfl <;> decide
theorem Div64_calls (hi lo y : Nat) (w : World) (hy : Md y) (hhi : hi < y) (hlo : lo < 18446744073709551616) :
    Calls Tryd.prog 59 #[.int .u64 hi, .int .u64 lo, .int .u64 y] w fun e w' => (∃ q : Int, e = .returned (.tuple #[.int .u64 q, .int .u64 (((hi * 18446744073709551616 + lo) % y : Nat) : Int)])) ∧ Below w.heap.size w w' := by
  rcases hy with rfl | rfl
  · exact Div64_3 hi lo _ w hhi hlo (by decide) (by decide) (by decide +kernel)
  · exact Div64_4 hi lo _ w hhi hlo (by decide) (by decide) (by decide +kernel)
theorem Rem64_calls (hi lo y : Nat) (w : World) (hy : Md y) (hhi : hi < 18446744073709551616) (hlo : lo < 18446744073709551616) :
    Calls Tryd.prog 51 #[.int .u64 hi, .int .u64 lo, .int .u64 y] w fun e w' => e = .returned (.int .u64 (((hi * 18446744073709551616 + lo) % y : Nat) : Int)) ∧ Below w.heap.size w w' := by
  obtain ⟨hyl, hy0⟩ := hy.lt
  have hyi : ¬ ((y : Int) = 0) := by omega
  have hm : (hi : Int).tmod (y : Int) = ((hi % y : Nat) : Int) := rfl
  have hml := Nat.mod_lt hi hy0
  have hw := wr64 (hi % y) (by omega)
  have hc := Div64_calls (hi % y) lo y w hy hml hlo
  have e : (hi % y * 18446744073709551616 + lo) % y = (hi * 18446744073709551616 + lo) % y := by
    rw [Nat.add_mod, Nat.mod_mul_mod, ← Nat.add_mod]
  rw [e] at hc
  clear e
  generalize hi % y = h2 at *
  go_enter Tryd.func51, Tryd.ntmps51
  go_wp2_with fail
  refine hc.mono ?_
  rintro e w' ⟨⟨q, rfl⟩, hB⟩
  have HhB := Lib.hid hB
  clear hB
  go_wp2_with fail
  go_ret
  exact ⟨rfl, HhB.out⟩
theorem product_calls (a b y : Nat) (w : World) (hy : Md y) (ha : a < 9223372036854775808) (hb : b < 9223372036854775808) :
    Calls Tryd.prog 41 #[.int .i64 a, .int .i64 b, .int .i64 y] w fun e w' => e = .returned (.int .i64 ((a * b % y : Nat) : Int)) ∧ Below w.heap.size w w' := by
  obtain ⟨hyl, hy0⟩ := hy.lt
  have h1 := Tryd.bits_Mul64 a b (by omega) (by omega) w
  have hab : a * b ≤ 9223372036854775807 * 9223372036854775807 := Nat.mul_le_mul (by omega) (by omega)
  have hd := Nat.div_add_mod (a * b) 18446744073709551616
  rw [Nat.mul_comm 18446744073709551616] at hd
  have h2 := Rem64_calls (a * b / 18446744073709551616) (a * b % 18446744073709551616) y w hy (by omega) (Nat.mod_lt _ (by decide))
  rw [hd] at h2
  have hr := Nat.mod_lt (a * b) hy0
  generalize a * b / 18446744073709551616 = c at *
  generalize a * b % 18446744073709551616 = d at *
  generalize a * b % y = z at *
  clear hd hab
  have Hh1 := Lib.hid h1
  clear h1
  have Hh2 := Lib.hid h2
  clear h2
  go_enter Tryd.func41, Tryd.ntmps41
  go_wp2_with fail
  refine Hh1.out.mono ?_
  rintro e w' ⟨rfl, rfl⟩
  go_wp2_with fail
  refine Hh2.out.mono ?_
  rintro e w' ⟨rfl, hB⟩
  have HhB := Lib.hid hB
  clear hB
  go_wp2_with fail
  go_ret
  exact ⟨rfl, HhB.out⟩
theorem tmod_fix (a y : Int) (hy : 0 < y) : (if a.tmod y < 0 then a.tmod y + y else a.tmod y) = a % y := by
  rw [Int.tmod_eq_emod]
  have h1 := Int.emod_nonneg a (show y ≠ 0 by omega)
  have h2 := Int.emod_lt_of_pos a hy
  have h3 : ((y.natAbs : Nat) : Int) = y := by omega
  by_cases h : 0 ≤ a ∨ y ∣ a
  · rw [if_pos h]; simp; omega
  · rw [if_neg h]; simp only [h3]
    have h4 : a % y ≠ 0 := fun e => h (.inr (Int.dvd_of_emod_eq_zero e))
    split <;> omega
theorem residue_calls (a : Int) (y : Nat) (w : World) (hy : Md y) (ha : In64 a) :
    Calls Tryd.prog 40 #[.int .i64 a, .int .i64 y] w fun e w' => e = .returned (.int .i64 (a % (y : Int))) ∧ Below w.heap.size w w' := by
  obtain ⟨hyl, hy0⟩ := hy.lt
  have hyi : ¬ ((y : Int) = 0) := by omega
  have hf := tmod_fix a y (by omega)
  have h1 : -(y : Int) < a.tmod y ∧ a.tmod y < y := by
    have := Int.tmod_lt_of_pos a (show (0 : Int) < y by omega)
    have := Int.lt_tmod_of_pos a (show (0 : Int) < y by omega)
    omega
  rw [← hf]
  clear hf
  obtain ⟨h64a, h64b⟩ := ha
  generalize hz : a.tmod (y : Int) = z at *
  obtain ⟨h1a, h1b⟩ := h1
  by_cases hneg : z < 0
  · rw [if_pos hneg]
    go_enter Tryd.func40, Tryd.ntmps40
    go_wp2_with fail
    go_ret
    exact ⟨rfl, Below.refl _ _⟩
  · rw [if_neg hneg]
    go_enter Tryd.func40, Tryd.ntmps40
    go_wp2_with fail
    go_ret
    exact ⟨rfl, Below.refl _ _⟩
end Go.Proofs.YtjbpjmdnmnbonaaDoor
