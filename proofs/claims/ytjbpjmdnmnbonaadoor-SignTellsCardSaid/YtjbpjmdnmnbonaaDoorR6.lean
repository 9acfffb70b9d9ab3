/- The reference's words are digest's words. -/
import Derived.Test.YtjbpjmdnmnbonaaDoorR3
set_option linter.unusedSimpArgs false
set_option linter.unusedVariables false
namespace Go.Proofs.YtjbpjmdnmnbonaaDoor
open Go.RowKit

/-- the first t bytes of the word number i, the lowest first -/
def leK (b : List UInt8) (i : Nat) : Nat → Nat
  | 0 => 0
  | t + 1 => leK b i t + byteAt b (4 * i + t) * 256 ^ t
theorem leK_lt (b : List UInt8) (i t : Nat) : leK b i t < 256 ^ t := by
  induction t with
  | zero => simp [leK]
  | succ t ih =>
    have := byteAt_lt b (4 * i + t)
    rw [leK, Nat.pow_succ]
    have h2 : byteAt b (4 * i + t) * 256 ^ t ≤ 255 * 256 ^ t := Nat.mul_le_mul_right _ (by omega)
    omega
theorem or_high (x b t : Nat) (hx : x < 256 ^ t) (hb : b < 256) (ht : t < 4) : x ||| b * 2 ^ (8 * t) % 4294967296 = x + b * 256 ^ t := by
  have e : (256 : Nat) ^ t = 2 ^ (8 * t) := by rw [show (256 : Nat) = 2 ^ 8 from rfl, ← Nat.pow_mul]
  have hlt : b * 2 ^ (8 * t) < 4294967296 := by
    have h : t = 0 ∨ t = 1 ∨ t = 2 ∨ t = 3 := by omega
    rcases h with rfl | rfl | rfl | rfl <;> simp <;> omega
  rw [Nat.mod_eq_of_lt hlt, e]
  rw [e] at hx
  have := Nat.two_pow_add_eq_or_of_lt (i := 8 * t) (b := x) hx b
  rw [Nat.mul_comm b, Nat.or_comm, ← this]; omega
theorem wordsK_nt (b : List UInt8) (k i : Nat) (hk : k ≤ 64) (hi : i < 16) : nt (wordsK b k) i = leK b i (min 4 (k - 4 * i)) := by
  induction k with
  | zero => simp [wordsK, leK]; exact nt_rep 16 i
  | succ k ih =>
    have ih := ih (by omega)
    rw [wordsK, nt_set, wordsK_len]
    by_cases h : k / 4 = i
    · rw [if_pos ⟨h, hi⟩]
      have hi2 : nt (wordsK b k) (k / 4) = leK b i (k % 4) := by rw [h, ih]; congr 1; omega
      rw [hi2, show min 4 (k + 1 - 4 * i) = k % 4 + 1 by omega, leK]
      rw [or_high _ _ _ (leK_lt b i (k % 4)) ((b[k]?.getD 0).toNat_lt) (Nat.mod_lt _ (by omega))]
      congr 2
      rw [byteAt, show 4 * i + k % 4 = k by omega]
    · rw [if_neg (fun e => h e.1), ih]
      congr 1; omega
theorem leK_zero (b : List UInt8) (i t : Nat) (h : b.length ≤ 4 * i + t) : leK b i (t + 1) = leK b i t := by
  rw [leK, byteAt, List.getElem?_eq_none (by omega)]; simp
theorem leK_full (b : List UInt8) (i : Nat) : leK b i (min 4 (b.length - 4 * i)) = leK b i 4 := by
  have h : b.length - 4 * i = 0 ∨ b.length - 4 * i = 1 ∨ b.length - 4 * i = 2 ∨ b.length - 4 * i = 3 ∨ 4 ≤ b.length - 4 * i := by omega
  rcases h with h | h | h | h | h
  · rw [h]
    rw [leK_zero b i 3 (by omega), leK_zero b i 2 (by omega), leK_zero b i 1 (by omega), leK_zero b i 0 (by omega)]; rfl
  · rw [h, leK_zero b i 3 (by omega), leK_zero b i 2 (by omega), leK_zero b i 1 (by omega)]; rfl
  · rw [h, leK_zero b i 3 (by omega), leK_zero b i 2 (by omega)]; rfl
  · rw [h, leK_zero b i 3 (by omega)]; rfl
  · rw [show min 4 (b.length - 4 * i) = 4 by omega]
theorem byteAt_block (l : List UInt8) (a m : Nat) (hm : m < 64) : byteAt ((l.drop a).take 64) m = byteAt l (a + m) := by
  unfold byteAt
  rw [List.getElem?_take, if_pos hm, List.getElem?_drop]
theorem word_eq (l : List UInt8) (a i : Nat) (hi : i < 16) : nt (wordsS ((l.drop a).take 64)) i = wordR l (a + 4 * i) := by
  have hl : ((l.drop a).take 64).length ≤ 64 := by rw [List.length_take]; omega
  rw [wordsS, wordsK_nt _ _ _ hl hi, leK_full]
  simp only [leK, wordR, wr]
  rw [byteAt_block l a _ (by omega), byteAt_block l a _ (by omega), byteAt_block l a _ (by omega), byteAt_block l a _ (by omega)]
  simp only [show a + (4 * i + 0) = a + 4 * i + (3 - 3) by omega, show a + (4 * i + 1) = a + 4 * i + (3 - 2) by omega, show a + (4 * i + 2) = a + 4 * i + (3 - 1) by omega, show a + (4 * i + 3) = a + 4 * i + (3 - 0) by omega]
  omega
theorem words_eq (l : List UInt8) (a : Nat) : ((List.range 16).map fun i => wordR l (a + 4 * i)) = wordsS ((l.drop a).take 64) := by
  refine List.ext_getElem (by rw [wordsS, wordsK_len]; simp) fun i h1 h2 => ?_
  have hi : i < 16 := by simpa using h1
  have := word_eq l a i hi
  have e : (wordsS ((l.drop a).take 64))[i] = nt (wordsS ((l.drop a).take 64)) i := by simp [nt, h2]
  rw [e, this]; simp
end Go.Proofs.YtjbpjmdnmnbonaaDoor
