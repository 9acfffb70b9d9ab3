/- Plain: powers, primes, the group of 4 modulo P. -/
import Derived.Test.YtjbpjmdnmnbonaaDoorBase
set_option linter.unusedSimpArgs false
set_option linter.unusedVariables false
namespace Go.Proofs.YtjbpjmdnmnbonaaDoor

/-- powers modulo m by squares -/
def pm (m a : Nat) : Nat → Nat → Nat
  | 0, _ => 1 % m
  | f + 1, e => if e = 0 then 1 % m else if e % 2 = 1 then pm m a f (e / 2) * pm m a f (e / 2) % m * a % m else pm m a f (e / 2) * pm m a f (e / 2) % m
theorem pow_half (a e : Nat) : a ^ e = (if e % 2 = 1 then a ^ (e / 2) * a ^ (e / 2) * a else a ^ (e / 2) * a ^ (e / 2)) := by
  split
  · conv => lhs; rw [show e = e / 2 + e / 2 + 1 by omega, Nat.pow_succ, Nat.pow_add]
  · conv => lhs; rw [show e = e / 2 + e / 2 by omega, Nat.pow_add]
theorem pm_eq (m a : Nat) : ∀ (f e : Nat), e < 2 ^ f → pm m a f e = a ^ e % m
  | 0, e, h => by obtain rfl : e = 0 := by simpa using h
                  rfl
  | f + 1, e, h => by
    rw [pm]
    split
    · rename_i h0; subst h0; rfl
    · have ih := pm_eq m a f (e / 2) (by rw [Nat.pow_succ] at h; omega)
      rw [pow_half a e]
      split
      · rw [ih, ← Nat.mul_mod, Nat.mod_mul_mod]
      · rw [ih, ← Nat.mul_mod]

/-- a number that has no divisors but 1 and itself -/
def Pr (n : Nat) : Prop := 1 < n ∧ ∀ d, d ∣ n → d = 1 ∨ d = n

theorem pow_one {p b d : Nat} (h : b ^ d % p = 1 % p) (k : Nat) : b ^ (d * k) % p = 1 % p := by
  rw [Nat.pow_mul, Nat.pow_mod, h, ← Nat.pow_mod, Nat.one_pow]
theorem mul_one_mod {p x y : Nat} (h : x % p = 1 % p) : x * y % p = y % p := by
  rw [Nat.mul_mod, h, ← Nat.mul_mod, Nat.one_mul]
theorem pow_rest {p b d : Nat} (h : b ^ d % p = 1 % p) (n : Nat) : b ^ n % p = b ^ (n % d) % p := by
  conv => lhs; rw [← Nat.div_add_mod n d, Nat.pow_add]
  exact mul_one_mod (pow_one h _)
theorem pow_gcd {p b : Nat} : ∀ m n : Nat, b ^ m % p = 1 % p → b ^ n % p = 1 % p → b ^ (Nat.gcd m n) % p = 1 % p := by
  intro m n
  induction m, n using Nat.gcd.induction with
  | H0 n => intro _ h; simpa using h
  | H1 m n hm ih =>
    intro h1 h2
    rw [Nat.gcd_rec]
    refine ih ?_ h1
    rw [← pow_rest h1]; exact h2
theorem pr_coprime {t d : Nat} (ht : Pr t) (h0 : 0 < d) (h1 : d < t) : Nat.gcd d t = 1 := by
  rcases ht.2 _ (Nat.gcd_dvd_right d t) with h | h
  · exact h
  · have h2 := Nat.gcd_dvd_left d t
    rw [h] at h2
    have := Nat.le_of_dvd h0 h2
    omega
theorem pow_ne {p b t : Nat} (ht : Pr t) (hbt : b ^ t % p = 1 % p) (hb : b % p ≠ 1 % p) {d : Nat} (h0 : 0 < d) (h1 : d < t) : b ^ d % p ≠ 1 % p := by
  intro h
  have := pow_gcd d t h hbt
  rw [pr_coprime ht h0 h1, Nat.pow_one] at this
  exact hb this

/-- no more pigeons than holes -/
theorem holes : ∀ (m n : Nat) (f : Nat → Nat), (∀ i, i < n → f i < m) → (∀ i j, i < j → j < n → f i ≠ f j) → n ≤ m
  | 0, n, f, h, _ => by
    cases n with
    | zero => omega
    | succ n => have := h 0 (by omega); omega
  | m + 1, n, f, h, hi => by
    cases n with
    | zero => omega
    | succ n =>
      -- the last pigeon sits in f n: whoever sits in hole m moves there
      have := holes m n (fun i => if f i = m then f n else f i) (fun i hi1 => by
        have h1 := h i (by omega)
        have h2 := h n (by omega)
        have h3 := hi i n hi1 (by omega)
        split <;> omega) (fun i j hij hj => by
        have h1 := hi i j hij (by omega)
        have h2 := hi i n (by omega) (by omega)
        have h3 := hi j n hj (by omega)
        split <;> split <;> omega)
      omega

theorem poc {N t b : Nat} (ht : Pr t) (hN : 1 < N) (hb1 : 1 ≤ b) (hbt : b ^ t % N = 1) (hg : Nat.gcd (b - 1) N = 1) {p : Nat} (hp : p ∣ N) (hp1 : 1 < p) : t < p := by
  have h1p : 1 % p = 1 := Nat.mod_eq_of_lt hp1
  have hbp : b ^ t % p = 1 % p := by
    rw [← Nat.mod_mod_of_dvd _ hp, hbt]
  have hb : b % p ≠ 1 % p := by
    intro h
    have hd : p ∣ b - 1 := Nat.dvd_of_mod_eq_zero (Nat.sub_mod_eq_zero_of_mod_eq h)
    have := Nat.dvd_gcd hd hp
    rw [hg] at this
    have := Nat.le_of_dvd (by omega) this
    omega
  have hne : ∀ i, i < t → b ^ i % p ≠ 0 := by
    intro i hi h
    have : b ^ t % p = 0 := by
      rw [show t = i + (t - i) by omega, Nat.pow_add, Nat.mul_mod, h, Nat.zero_mul, Nat.zero_mod]
    rw [hbp, h1p] at this
    omega
  have := holes (p - 1) t (fun i => b ^ i % p - 1) (fun i hi => by
    have := hne i hi
    have := Nat.mod_lt (b ^ i) (show 0 < p by omega)
    omega) (fun i j hij hj h => by
    have h1 := hne i (by omega)
    have h2 := hne j hj
    have he : b ^ i % p = b ^ j % p := by omega
    have h3 : b ^ (j - i) % p = 1 % p := by
      have e1 : b ^ i * b ^ (t - i) % p = 1 % p := by rw [← Nat.pow_add, show i + (t - i) = t by omega]; exact hbp
      have e2 : b ^ j * b ^ (t - i) % p = 1 % p := by rw [Nat.mul_mod, ← he, ← Nat.mul_mod]; exact e1
      rw [show b ^ j * b ^ (t - i) = b ^ t * b ^ (j - i) by rw [← Nat.pow_add, ← Nat.pow_add]; congr 1; omega, mul_one_mod hbp] at e2
      exact e2
    exact pow_ne ht hbp hb (by omega) (by omega) h3)
  omega
theorem poc_pr {N t b : Nat} (ht : Pr t) (hN : 1 < N) (hb1 : 1 ≤ b) (hbt : b ^ t % N = 1) (hg : Nat.gcd (b - 1) N = 1) (hs : N < (t + 1) * (t + 1)) : Pr N := by
  refine ⟨hN, fun d hd => ?_⟩
  obtain ⟨e, he⟩ := hd
  have hd0 : d ≠ 0 := by rintro rfl; omega
  have he0 : e ≠ 0 := by rintro rfl; omega
  by_cases hd1 : d = 1
  · exact .inl hd1
  · by_cases he1 : e = 1
    · right; rw [he, he1, Nat.mul_one]
    · have h1 := poc ht hN hb1 hbt hg (p := d) ⟨e, he⟩ (by omega)
      have h2 := poc ht hN hb1 hbt hg (p := e) ⟨d, by rw [he, Nat.mul_comm]⟩ (by omega)
      have := Nat.mul_le_mul (show t + 1 ≤ d by omega) (show t + 1 ≤ e by omega)
      omega

/-- trial division -/
def noDiv (n : Nat) : Nat → Nat → Bool
  | 0, _ => true
  | f + 1, d => (n % d != 0) && noDiv n f (d + 1)
theorem noDiv_spec (n : Nat) : ∀ (f d : Nat), noDiv n f d = true → ∀ c, d ≤ c → c < d + f → n % c ≠ 0
  | 0, d, _, c, h1, h2 => by omega
  | f + 1, d, h, c, h1, h2 => by
    rw [noDiv, Bool.and_eq_true, bne_iff_ne] at h
    by_cases hc : c = d
    · subst hc; exact h.1
    · exact noDiv_spec n f (d + 1) h.2 c (by omega) (by omega)
theorem pr_of_noDiv {n f : Nat} (h1 : 1 < n) (h : noDiv n f 2 = true) (hs : n < (f + 2) * (f + 2)) : Pr n := by
  refine ⟨h1, fun d hd => ?_⟩
  obtain ⟨e, he⟩ := hd
  have hd0 : d ≠ 0 := by rintro rfl; omega
  have he0 : e ≠ 0 := by rintro rfl; omega
  have hn := noDiv_spec n f 2 h
  by_cases hd1 : d = 1
  · exact .inl hd1
  · by_cases he1 : e = 1
    · right; rw [he, he1, Nat.mul_one]
    · exfalso
      by_cases hdf : d < 2 + f
      · exact hn d (by omega) hdf (by rw [he]; exact Nat.mul_mod_right d e)
      · by_cases hef : e < 2 + f
        · exact hn e (by omega) hef (by rw [he]; exact Nat.mul_mod_left d e)
        · have := Nat.mul_le_mul (show f + 2 ≤ d by omega) (show f + 2 ≤ e by omega)
          omega
theorem pr_of_pm {N t b f : Nat} (ht : Pr t) (hN : 1 < N) (hb1 : 1 ≤ b) (hf : t < 2 ^ f) (hbt : pm N b f t = 1) (hg : Nat.gcd (b - 1) N = 1) (hs : N < (t + 1) * (t + 1)) : Pr N :=
  poc_pr ht hN hb1 (by rw [← pm_eq N b f t hf]; exact hbt) hg hs
theorem pr_a : Pr 95189 := pr_of_noDiv (f := 310) (by decide) (by decide +kernel) (by decide)
theorem pr_b : Pr 2835870689 := pr_of_pm (b := 2427300015) (f := 17) pr_a (by decide) (by decide) (by decide) (by decide +kernel) (by decide +kernel) (by decide)
theorem pr_c : Pr 5671741379 := pr_of_pm (b := 4) (f := 32) pr_b (by decide) (by decide) (by decide) (by decide +kernel) (by decide +kernel) (by decide)
theorem pr_d : Pr 288230376151711447 := pr_of_pm (b := 269194018563725675) (f := 33) pr_c (by decide) (by decide) (by decide) (by decide +kernel) (by decide +kernel) (by decide)

def PP : Nat := 2305843009213691579
def QQ : Nat := 1152921504606845789
theorem pr_q : Pr QQ := pr_of_pm (b := 16) (f := 59) pr_d (by decide) (by decide) (by decide) (by decide +kernel) (by decide +kernel) (by decide)
theorem four_pm : pm PP 4 61 QQ = 1 := by decide +kernel
theorem one_pp : 1 % PP = 1 := by decide
theorem four_q : 4 ^ QQ % PP = 1 % PP := by
  have h := pm_eq PP 4 61 QQ (by decide)
  rw [four_pm] at h
  rw [← h]; decide
/-- no power of 4 with an exponent from 1 to Q - 1 is 1 -/
theorem four_ne {s : Nat} (h0 : 0 < s) (h1 : s < QQ) : 4 ^ s % PP ≠ 1 % PP :=
  pow_ne pr_q four_q (by decide) h0 h1
theorem four_rest (n : Nat) : 4 ^ n % PP = 4 ^ (n % QQ) % PP := pow_rest four_q n
end Go.Proofs.YtjbpjmdnmnbonaaDoor
