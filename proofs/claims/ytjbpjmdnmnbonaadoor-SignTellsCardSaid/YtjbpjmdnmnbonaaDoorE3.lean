/- The references' walks: Short, Challenge, Element. -/
import Derived.Test.YtjbpjmdnmnbonaaDoorE2
set_option linter.unusedSimpArgs false
set_option linter.unusedVariables false
namespace Go.Proofs.YtjbpjmdnmnbonaaDoor
open Go.RowKit

set_option maxRecDepth 100000 in
set_option maxHeartbeats 1000000 in
theorem refShort_of (l : List UInt8) (w : World) (hc : Calls Tryd.prog 44 #[.string ⟨l.toArray⟩] w fun e w' => e = .returned (.string ⟨(digestS l).toArray⟩) ∧ Below w.heap.size w w') :
    Calls Tryd.prog 28 #[.string ⟨l.toArray⟩] w fun e w' => e = .returned (.int .i64 (shortS l : Nat)) ∧ Below w.heap.size w w' := by
  obtain ⟨D, hD⟩ : ∃ D, D = digestS l := ⟨_, rfl⟩
  rw [← hD] at hc
  have hDl : D.length = 32 := by rw [hD]; exact digestS_len32 l
  have hDs := str_size D
  have Hhc := Lib.hid hc
  clear hc
  have HhD := Lib.hid hD
  clear hD
  go_enter Tryd.func28, Tryd.ntmps28
  go_wp2_with fail
  refine Hhc.out.mono ?_
  rintro e w1 ⟨rfl, hB1⟩
  have HhB1 := Lib.hid hB1
  clear hB1
  go_wp2_with fail
  go_loopw [4, 5] (fun s4 s5 wr => ∃ i : Nat, i ≤ 7 ∧ s5 = .int .i64 i ∧ s4 = .int .i64 (beN D i : Nat) ∧ wr = w1) (fun _ s5 _ => 7 - (intOf s5).toNat)
  case atStart => exact ⟨0, by omega, rfl, rfl, rfl⟩
  case round =>
    obtain ⟨i, hi, rfl, rfl, rfl⟩ := hrel
    have hb := beN_lt D i (by omega)
    by_cases hlt : i < 7
    · have hsucc := beN_succ D i (by omega)
      have hb7 : beN D i < 281474976710656 := Nat.lt_of_lt_of_le hb (by have : (256 : Nat) ^ i ≤ 256 ^ 6 := Nat.pow_le_pow_right (by omega) (by omega); omega)
      obtain ⟨X, hX⟩ : ∃ X, X = beN D i := ⟨_, rfl⟩
      have hget : (D[i]'(by omega)).toNat < 256 := UInt8.toNat_lt _
      rw [← hX] at hsucc hb7 ⊢
      clear hb hX
      have Hhsucc := Lib.hid hsucc
      clear hsucc
      go_wp2_with fail
      exact ⟨⟨i + 1, by omega, by go_num, by rw [Hhsucc.out, Int.natCast_add, Int.natCast_mul]; rfl, trivial⟩, by simp [intOf]; omega⟩
    · obtain rfl : i = 7 := by omega
      have hb8 : beN D 7 < 72057594037927936 := hb
      have hsucc := beN_succ D 7 (by omega)
      have hget : (D[7]'(by omega)).toNat < 256 := UInt8.toNat_lt _
      have hfin : shortS l = beN D 7 * 16 + (D[7]'(by omega)).toNat / 16 := by rw [shortS, ← HhD.out, hsucc]; omega
      have hdv : ((D[7]'(by omega)).toNat : Int).tdiv 16 = (((D[7]'(by omega)).toNat / 16 : Nat) : Int) := rfl
      generalize beN D 7 = X at *
      clear hb hsucc
      have Hhfin := Lib.hid hfin
      clear hfin
      go_wp2_with fail
      go_ret
      exact ⟨by rw [Hhfin.out]; rfl, HhB1.out⟩
end Go.Proofs.YtjbpjmdnmnbonaaDoor
