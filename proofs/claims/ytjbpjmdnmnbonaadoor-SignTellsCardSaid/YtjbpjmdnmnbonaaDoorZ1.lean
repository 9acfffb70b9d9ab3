/- Plain: a digit of a long division, as math/bits.Div64 finds it. -/
import Derived.Test.YtjbpjmdnmnbonaaDoorP1
set_option linter.unusedSimpArgs false
set_option linter.unusedVariables false
namespace Go.Proofs.YtjbpjmdnmnbonaaDoor

/-- what is known at the head of the loop that lowers a digit -/
def Dig (u y1 y0 d q r : Nat) : Prop := q * y1 + r = u ∧ (u * 4294967296 + d) / (y1 * 4294967296 + y0) ≤ q ∧ q ≤ 4294967297 ∧ r < 4294967296
theorem dig_lt {u y1 y0 d : Nat} (hu : u < y1 * 4294967296 + y0) (hd : d < 4294967296) : (u * 4294967296 + d) / (y1 * 4294967296 + y0) < 4294967296 := by
  rw [Nat.div_lt_iff_lt_mul (by omega)]
  omega
theorem dig_start {u y1 y0 d : Nat} (hu : u < y1 * 4294967296 + y0) (hd : d < 4294967296) (h1 : 2147483648 ≤ y1) (h1' : y1 < 4294967296) (h0 : y0 < 4294967296) : Dig u y1 y0 d (u / y1) (u % y1) := by
  have e := Nat.div_add_mod u y1
  have hm := Nat.mod_lt u (show 0 < y1 by omega)
  refine ⟨by rw [Nat.mul_comm]; exact e, ?_, ?_, by omega⟩
  · rw [← Nat.lt_succ_iff, Nat.div_lt_iff_lt_mul (by omega), Nat.mul_add]
    have h3 : (u / y1).succ * (y1 * 4294967296) = (y1 * (u / y1)) * 4294967296 + y1 * 4294967296 := by
      rw [Nat.succ_mul, ← Nat.mul_assoc, Nat.mul_comm (u / y1) y1]
    rw [h3]
    generalize y1 * (u / y1) = a at *
    generalize (u / y1).succ * y0 = b at *
    omega
  · have : u / y1 < 4294967298 := by rw [Nat.div_lt_iff_lt_mul (by omega)]; omega
    omega
theorem mul_split (q y1 y0 : Nat) : (y1 * 4294967296 + y0) * q = (q * y1) * 4294967296 + q * y0 := by
  rw [Nat.add_mul, Nat.mul_right_comm, Nat.mul_comm y1 q, Nat.mul_comm y0 q]
/-- the test says no: it is the digit -/
theorem dig_no {u y1 y0 d q r : Nat} (h : Dig u y1 y0 d q r) (hy : 0 < y1 * 4294967296 + y0) (ht : q * y0 ≤ 4294967296 * r + d) : q = (u * 4294967296 + d) / (y1 * 4294967296 + y0) := by
  obtain ⟨e, h1, h2, h3⟩ := h
  refine Nat.le_antisymm ?_ h1
  rw [Nat.le_div_iff_mul_le hy, Nat.mul_comm, mul_split]
  generalize q * y1 = a at *
  generalize q * y0 = b at *
  omega
/-- the test says yes: it is too great -/
theorem dig_yes {u y1 y0 d q r : Nat} (h : Dig u y1 y0 d q r) (hu : u < y1 * 4294967296 + y0) (hd : d < 4294967296) (ht : 4294967296 ≤ q ∨ 4294967296 * r + d < q * y0) : (u * 4294967296 + d) / (y1 * 4294967296 + y0) < q := by
  obtain ⟨e, h1, h2, h3⟩ := h
  rcases ht with ht | ht
  · have := dig_lt hu hd
    omega
  · rw [Nat.div_lt_iff_lt_mul (by omega), Nat.mul_comm q, mul_split]
    generalize q * y1 = a at *
    generalize q * y0 = b at *
    omega
theorem dig_step {u y1 y0 d q r : Nat} (h : Dig u y1 y0 d q r) (hq : (u * 4294967296 + d) / (y1 * 4294967296 + y0) < q) (hr : r + y1 < 4294967296) : Dig u y1 y0 d (q - 1) (r + y1) := by
  obtain ⟨e, h1, h2, h3⟩ := h
  refine ⟨?_, Nat.le_sub_one_of_lt hq, by omega, hr⟩
  have hq0 : 0 < q := Nat.lt_of_le_of_lt (Nat.zero_le _) hq
  obtain ⟨p, rfl⟩ : ∃ p, q = p + 1 := ⟨q - 1, by omega⟩
  rw [Nat.succ_mul] at e
  rw [Nat.add_sub_cancel]
  omega
theorem dig_end {u y1 y0 d q r : Nat} (h : Dig u y1 y0 d q r) (hy : 0 < y1 * 4294967296 + y0) (h0 : y0 < 4294967296) (hq : (u * 4294967296 + d) / (y1 * 4294967296 + y0) < q) (hr : 4294967296 ≤ r + y1) : q - 1 = (u * 4294967296 + d) / (y1 * 4294967296 + y0) := by
  obtain ⟨e, h1, h2, h3⟩ := h
  refine Nat.le_antisymm ?_ (Nat.le_sub_one_of_lt hq)
  have hq0 : 0 < q := Nat.lt_of_le_of_lt (Nat.zero_le _) hq
  obtain ⟨p, rfl⟩ : ∃ p, q = p + 1 := ⟨q - 1, by omega⟩
  rw [Nat.succ_mul] at e
  rw [Nat.add_sub_cancel, Nat.le_div_iff_mul_le hy, Nat.mul_comm, mul_split]
  have h5 : p * y0 ≤ 4294967296 * 4294967295 := Nat.mul_le_mul (by omega) (by omega)
  generalize p * y1 = a at *
  generalize p * y0 = b at *
  omega
/-- what is left, in 64 bits -/
theorem dig_rest {N y q : Nat} (hy : y < 18446744073709551616) (hy0 : 0 < y) (hq : q = N / y) : ((N : Int) - ((q * y : Nat) : Int)) % 18446744073709551616 = ((N % y : Nat) : Int) := by
  have h := Nat.div_add_mod N y
  have hm := Nat.mod_lt N hy0
  rw [← hq, Nat.mul_comm] at h
  generalize q * y = a at *
  generalize N % y = b at *
  omega
/-- the two digits together -/
theorem dig_two (N y d : Nat) : (N % y * 4294967296 + d) % y = (N * 4294967296 + d) % y := by
  rw [Nat.add_mod, Nat.mod_mul_mod, ← Nat.add_mod]
theorem scaled (hi lo y k m : Nat) (hk : k * m = 18446744073709551616) (hk0 : 0 < k) (hm : 0 < m) :
    ((((hi * k + lo / m) * 4294967296 + lo * k % 18446744073709551616 / 4294967296) * 4294967296 + lo * k % 18446744073709551616 % 4294967296) % (y * k)) / k = (hi * 18446744073709551616 + lo) % y := by
  have e1 : lo * k = lo / m * 18446744073709551616 + lo * k % 18446744073709551616 := by
    have h1 : lo * k / 18446744073709551616 = lo / m := by rw [← hk, Nat.mul_comm k m, Nat.mul_div_mul_right _ _ hk0]
    have h2 := Nat.div_add_mod (lo * k) 18446744073709551616
    rw [h1] at h2; omega
  have e2 : ((hi * k + lo / m) * 4294967296 + lo * k % 18446744073709551616 / 4294967296) * 4294967296 + lo * k % 18446744073709551616 % 4294967296 = (hi * 18446744073709551616 + lo) * k := by
    rw [Nat.add_mul (hi * 18446744073709551616), Nat.mul_right_comm]
    generalize lo * k = a at *
    generalize lo / m = b at *
    generalize hi * k = c at *
    omega
  rw [e2, Nat.mul_mod_mul_right, Nat.mul_div_cancel _ hk0]
end Go.Proofs.YtjbpjmdnmnbonaaDoor
