/- Plain laws of sign. -/
import Derived.Test.YtjbpjmdnmnbonaaDoorX8
set_option linter.unusedSimpArgs false
set_option linter.unusedVariables false
namespace Go.Proofs.YtjbpjmdnmnbonaaDoor
open Go.RowKit

theorem resP_nat {n : Nat} (h : n < PP) : resP (n : Int) = n := by unfold resP; unfold PP at h; omega
theorem resQ_nat (n : Nat) : resQ (n : Int) = n % QQ := by unfold resQ QQ; omega
theorem expE_nat (n : Nat) : expE (n : Int) = n := by unfold expE; rw [if_neg (by omega)]; rfl
theorem expS_nat (a e : Nat) (h : a < PP) : expS (a : Int) (e : Int) = a ^ e % PP := by
  unfold expS; rw [resP_nat h, expE_nat]; rfl
theorem expS_four (n : Nat) : expS 4 (n : Int) = 4 ^ n % PP := expS_nat 4 n (by decide)
/-- the element of an exponent -/
def el (x : Nat) : Nat := 4 ^ x % PP
theorem el_lt (x : Nat) : el x < PP := Nat.mod_lt _ (by decide)
theorem el_pow (x n : Nat) : el x ^ n % PP = 4 ^ (x * n) % PP := by unfold el; rw [← Nat.pow_mod, Nat.pow_mul]
theorem el_mul (x y : Nat) : el x * el y % PP = el (x + y) := by unfold el; rw [← Nat.mul_mod, Nat.pow_add]
theorem el_q (x : Nat) : el x ^ QQ % PP = 1 := by
  rw [el_pow, Nat.mul_comm, pow_one four_q, one_pp]
theorem el_rest (x : Nat) : el x = el (x % QQ) := four_rest x
theorem el_pos (x : Nat) : 0 < el x := by
  rcases Nat.eq_zero_or_pos (el x) with h | h
  · have := el_q x
    rw [h, Nat.zero_pow (by decide)] at this
    exact absurd this (by decide)
  · exact h
theorem el_ne {x : Nat} (h0 : 0 < x) (h1 : x < QQ) : el x ≠ 1 := fun h => four_ne h0 h1 (by rw [one_pp]; exact h)
theorem el_in (x : Nat) : inG (el x : Int) = true := by
  unfold inG
  have h1 := el_pos x
  have h2 := el_lt x
  unfold PP at h2
  rw [decide_eq_true (show (0 : Int) < (el x : Int) by omega), decide_eq_true (show (el x : Int) < 2305843009213691579 by omega), Bool.true_and, Bool.true_and]
  have h3 : expS (el x : Int) 1152921504606845789 = 1 := (expS_nat (el x) QQ (el_lt x)).trans (el_q x)
  rw [h3]; rfl

theorem ofS_nat {x : Nat} (h0 : 0 < x) (h1 : x < QQ) : ofS (x : Int) = ((x : Int), (el x : Int)) := by
  unfold QQ at h1
  unfold ofS; rw [if_neg (by omega), expS_four]; rfl
theorem rightS_of {x : Nat} (h0 : 0 < x) (h1 : x < QQ) : rightS ((x : Int), (el x : Int)) = true := by
  unfold rightS
  simp only
  rw [ofS_nat h0 h1]; simp; omega
theorem rightS_iff (k : Int × Int) : rightS k = true → ∃ x : Nat, 0 < x ∧ x < QQ ∧ k = ((x : Int), (el x : Int)) := by
  intro h
  unfold rightS at h
  simp only [Bool.and_eq_true, decide_eq_true_eq] at h
  obtain ⟨h1, h2⟩ := h
  by_cases hq : k.1 < 1152921504606845789
  · refine ⟨k.1.toNat, by omega, by unfold QQ; omega, ?_⟩
    have h3 := ofS_nat (x := k.1.toNat) (by omega) (by unfold QQ; omega)
    rw [show ((k.1.toNat : Nat) : Int) = k.1 by omega] at h3 ⊢
    rw [← h3]; exact h2
  · unfold ofS at h2
    rw [if_pos (.inr (by omega))] at h2
    rw [h2] at h1; cases h1
theorem rightS_ofS (s : Int) : rightS (ofS s) = (decide (1 ≤ s) && decide (s < 1152921504606845789)) := by
  by_cases h : 1 ≤ s ∧ s < 1152921504606845789
  · obtain ⟨x, rfl⟩ : ∃ x : Nat, s = x := ⟨s.toNat, by omega⟩
    rw [ofS_nat (by omega) (by unfold QQ; omega), rightS_of (by omega) (by unfold QQ; omega)]
    simp; omega
  · have : ofS s = (0, 0) := by unfold ofS; rw [if_pos (by omega)]
    rw [this]
    have h2 : (decide (1 ≤ s) && decide (s < 1152921504606845789)) = false := by simp; omega
    rw [h2]; rfl

/-- the answer to a challenge -/
theorem answer (n e x : Nat) : addQ (n : Int) (mulQ (e : Int) (x : Int) : Nat) = (n + e * x) % QQ := by
  unfold addQ mulQ
  rw [resQ_nat, resQ_nat, resQ_nat, resQ_nat]
  show (n % QQ + e % QQ * (x % QQ) % QQ % QQ) % QQ = _
  rw [Nat.mod_mod, ← Nat.mul_mod, ← Nat.add_mod]
theorem exp_back (n e x : Nat) (he : e ≤ QQ) : ((n + e * x) % QQ + x * (QQ - e)) % QQ = n % QQ := by
  obtain ⟨f, hf⟩ : ∃ f, QQ = e + f := ⟨QQ - e, by omega⟩
  rw [Nat.add_mod, Nat.mod_mod, ← Nat.add_mod, show QQ - e = f by omega, show n + e * x + x * f = n + x * QQ by rw [hf, Nat.mul_add, Nat.mul_comm e x]; omega, Nat.add_mul_mod_self_right]
theorem elemS_nat (e s x : Nat) (he : e < QQ) : elemS (el x : Int) ((e : Int), (s : Int)) = el (s + x * (QQ - e)) := by
  unfold elemS
  simp only
  have h1 : (1152921504606845789 : Int) - (e : Int) = ((QQ - e : Nat) : Int) := by unfold QQ at *; omega
  rw [h1, expS_four, expS_nat _ _ (el_lt x), el_pow]
  unfold mulP
  rw [resP_nat (Nat.mod_lt _ (by decide)), resP_nat (Nat.mod_lt _ (by decide))]
  exact el_mul s (x * (QQ - e))
/-- the element that a signature stands for -/
theorem elem_sig (n e x : Nat) (he : e < QQ) (hn : n < QQ) : elemS (el x : Int) ((e : Int), ((addQ (n : Int) (mulQ (e : Int) (x : Int) : Nat) : Nat) : Int)) = el n := by
  rw [elemS_nat e _ x he, answer, el_rest, exp_back n e x (by omega), ← el_rest]

theorem signS_nat {x : Nat} (h0 : 0 < x) (h1 : x < QQ) (c t : List UInt8) : ∃ n e : Nat, 0 < n ∧ n < QQ ∧ e < QQ ∧ e = chalS (el n : Int) (el x : Int) c t ∧
    signS ((x : Int), (el x : Int)) c t = ((e : Int), ((addQ (n : Int) (mulQ (e : Int) (x : Int) : Nat) : Nat) : Int)) ∧ n = secretS [encText nonceL, numS (x : Int), encText c, encText t] := by
  obtain ⟨n, hn⟩ : ∃ n, n = secretS [encText nonceL, numS (x : Int), encText c, encText t] := ⟨_, rfl⟩
  have hnl := secretS_lt [encText nonceL, numS (x : Int), encText c, encText t]
  rw [← hn] at hnl
  refine ⟨n, chalS (el n : Int) (el x : Int) c t, by omega, by unfold QQ; omega, chalS_lt _ _ _ _, rfl, ?_, hn⟩
  unfold signS
  rw [if_pos (rightS_of h0 h1)]
  simp only
  rw [← hn, expS_four]; rfl
theorem addQ_lt (a b : Int) : addQ a b < QQ := Nat.mod_lt _ (by decide)
theorem range_sig {x : Nat} (h0 : 0 < x) (h1 : x < QQ) {e s : Nat} (he : e < QQ) (hs : s < QQ) : rangeS (el x : Int) ((e : Int), (s : Int)) := by
  have := el_ne h0 h1
  unfold QQ at he hs
  exact ⟨by omega, el_in x, by simp, by simp only; omega, by simp, by simp only; omega⟩
/-- a signature is accepted for another message exactly if the challenges are alike -/
theorem verS_sig {x : Nat} (h0 : 0 < x) (h1 : x < QQ) (c t c2 t2 : List UInt8) :
    verS (el x : Int) c2 t2 (signS ((x : Int), (el x : Int)) c t) = (((chalS (elemS (el x : Int) (signS ((x : Int), (el x : Int)) c t) : Nat) (el x : Int) c2 t2 : Nat) : Int) == (signS ((x : Int), (el x : Int)) c t).1) := by
  obtain ⟨n, e, hn0, hn1, he, he2, hs, -⟩ := signS_nat h0 h1 c t
  unfold verS
  rw [hs, decide_eq_true (range_sig h0 h1 he (addQ_lt _ _)), Bool.true_and]
theorem verS_own {x : Nat} (h0 : 0 < x) (h1 : x < QQ) (c t : List UInt8) : verS (el x : Int) c t (signS ((x : Int), (el x : Int)) c t) = true := by
  rw [verS_sig h0 h1]
  obtain ⟨n, e, hn0, hn1, he, he2, hs, -⟩ := signS_nat h0 h1 c t
  rw [hs, elem_sig n e x he hn1]
  simp only
  rw [← he2]; simp
theorem sig_range {x : Nat} (h0 : 0 < x) (h1 : x < QQ) (c t : List UInt8) : ∃ e s : Nat, e < QQ ∧ s < QQ ∧ signS ((x : Int), (el x : Int)) c t = ((e : Int), (s : Int)) := by
  obtain ⟨n, e, hn0, hn1, he, he2, hs, -⟩ := signS_nat h0 h1 c t
  exact ⟨e, _, he, addQ_lt _ _, hs⟩
theorem key_nat (seed : List UInt8) : ∃ x : Nat, 0 < x ∧ x < QQ ∧ keyS seed = ((x : Int), (el x : Int)) ∧ x = secretS [encText keyL, encText seed] := by
  have h := secretS_lt [encText keyL, encText seed]
  exact ⟨secretS [encText keyL, encText seed], by omega, h.2, ofS_nat (by omega) h.2, rfl⟩
end Go.Proofs.YtjbpjmdnmnbonaaDoor
