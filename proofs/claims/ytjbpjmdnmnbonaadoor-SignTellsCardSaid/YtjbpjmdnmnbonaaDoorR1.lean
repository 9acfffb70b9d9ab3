/- The walks of the reference's right and g. -/
import Derived.Test.YtjbpjmdnmnbonaaDoorD3
set_option linter.unusedSimpArgs false
set_option linter.unusedVariables false
namespace Go.Proofs.YtjbpjmdnmnbonaaDoor
open Go.RowKit

theorem rotR_eq {x n k m : Nat} (h : x < 4294967296) (hm : m = 2 ^ (32 - n)) (hk : k = 2 ^ n) : bits .or .u32 ((x : Int) / (k : Int)) ((x : Int) * (m : Int) % 4294967296) = ((rotr x n : Nat) : Int) := by
  subst hm hk
  have e1 : (x : Int) * ((2 ^ (32 - n) : Nat) : Int) % 4294967296 = ((x * 2 ^ (32 - n) % 4294967296 : Nat) : Int) := by rw [Int.natCast_emod, Int.natCast_mul]; rfl
  have e2 : (x : Int) / ((2 ^ n : Nat) : Int) = ((x / 2 ^ n : Nat) : Int) := by rw [Int.natCast_ediv]
  rw [e1, e2, u32_or_nat _ _ (Nat.lt_of_le_of_lt (Nat.div_le_self _ _) h) (Nat.mod_lt _ (by omega)), rotr]
theorem right16 (x : Nat) (w : World) (h : x < 4294967296) : Calls Tryd.prog 80 #[.int .u32 x, .int .u32 16] w fun e w' => e = .returned (.int .u32 (rotr x 16 : Nat)) ∧ w' = w := by
  go_enter Tryd.func80, Tryd.ntmps80
  go_wp2_with fail
  go_ret
  exact ⟨ret_int (rotR_eq (n := 16) (m := 65536) (k := 65536) h (by decide) (by decide)), rfl⟩
theorem right12 (x : Nat) (w : World) (h : x < 4294967296) : Calls Tryd.prog 80 #[.int .u32 x, .int .u32 12] w fun e w' => e = .returned (.int .u32 (rotr x 12 : Nat)) ∧ w' = w := by
  go_enter Tryd.func80, Tryd.ntmps80
  go_wp2_with fail
  go_ret
  exact ⟨ret_int (rotR_eq (n := 12) (m := 1048576) (k := 4096) h (by decide) (by decide)), rfl⟩
theorem right8 (x : Nat) (w : World) (h : x < 4294967296) : Calls Tryd.prog 80 #[.int .u32 x, .int .u32 8] w fun e w' => e = .returned (.int .u32 (rotr x 8 : Nat)) ∧ w' = w := by
  go_enter Tryd.func80, Tryd.ntmps80
  go_wp2_with fail
  go_ret
  exact ⟨ret_int (rotR_eq (n := 8) (m := 16777216) (k := 256) h (by decide) (by decide)), rfl⟩
theorem right7 (x : Nat) (w : World) (h : x < 4294967296) : Calls Tryd.prog 80 #[.int .u32 x, .int .u32 7] w fun e w' => e = .returned (.int .u32 (rotr x 7 : Nat)) ∧ w' = w := by
  go_enter Tryd.func80, Tryd.ntmps80
  go_wp2_with fail
  go_ret
  exact ⟨ret_int (rotR_eq (n := 7) (m := 33554432) (k := 128) h (by decide) (by decide)), rfl⟩
end Go.Proofs.YtjbpjmdnmnbonaaDoor
