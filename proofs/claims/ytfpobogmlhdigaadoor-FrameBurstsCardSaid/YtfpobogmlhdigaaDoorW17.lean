/- FrameBursts: plain law. -/
import Derived.Test.YtfpobogmlhdigaaDoorW10
set_option linter.unusedSimpArgs false
set_option linter.unusedVariables false
namespace Go.Proofs.YtfpobogmlhdigaaDoor
open Go.RowKit

theorem crcBit_xor (x y : Nat) : crcBit (x ^^^ y) = crcBit x ^^^ crcBit y := by
  have h : (x ^^^ y) % 2 = (x % 2 + y % 2) % 2 := by
    have := Nat.xor_mod_two_pow (a := x) (b := y) (n := 1)
    rcases Nat.mod_two_eq_zero_or_one x with h1 | h1 <;> rcases Nat.mod_two_eq_zero_or_one y with h2 | h2 <;> rw [Nat.pow_one, h1, h2] at this <;> rw [this, h1, h2] <;> rfl
  have hd : (x ^^^ y) / 2 = x / 2 ^^^ y / 2 := by
    have := Nat.shiftRight_xor_distrib (a := x) (b := y) (i := 1)
    simpa [Nat.shiftRight_eq_div_pow] using this
  unfold crcBit
  rw [h, hd]
  rcases Nat.mod_two_eq_zero_or_one x with h1 | h1 <;> rcases Nat.mod_two_eq_zero_or_one y with h2 | h2 <;> rw [h1, h2] <;> simp
  · rw [Nat.xor_assoc]
  · rw [Nat.xor_assoc, Nat.xor_comm (y / 2), ← Nat.xor_assoc]
  · rw [Nat.xor_assoc, Nat.xor_comm (y / 2) 33800, ← Nat.xor_assoc 33800, Nat.xor_self, Nat.zero_xor]
theorem bitN_xor : ∀ (j x y : Nat), bitN j (x ^^^ y) = bitN j x ^^^ bitN j y
  | 0, _, _ => rfl
  | j + 1, x, y => by
    show crcBit (bitN j (x ^^^ y)) = crcBit (bitN j x) ^^^ crcBit (bitN j y)
    rw [bitN_xor j, crcBit_xor]
theorem bitN_add : ∀ (j k x : Nat), bitN (j + k) x = bitN j (bitN k x)
  | 0, k, x => by rw [Nat.zero_add]; rfl
  | j + 1, k, x => by
    rw [show j + 1 + k = (j + k) + 1 by omega]
    show crcBit (bitN (j + k) x) = crcBit (bitN j (bitN k x))
    rw [bitN_add j]
theorem crcBit_even (y : Nat) : crcBit (2 * y) = y := by unfold crcBit; rw [if_neg (by omega)]; omega
theorem bitN_shift : ∀ (j y : Nat), bitN j (2 ^ j * y) = y
  | 0, y => by simp [bitN]
  | j + 1, y => by
    show crcBit (bitN j (2 ^ (j + 1) * y)) = y
    rw [Nat.pow_succ, Nat.mul_assoc, bitN_shift j, crcBit_even]
theorem crcBit_pos {x : Nat} (h : x < 65536) (h0 : x ≠ 0) : crcBit x ≠ 0 := by
  unfold crcBit
  split
  · intro e
    have h1 : x / 2 ^^^ 33800 ^^^ 33800 = 33800 := by rw [e]; rfl
    rw [Nat.xor_assoc, Nat.xor_self, Nat.xor_zero] at h1
    omega
  · omega
theorem bitN_pos : ∀ (j : Nat) {x : Nat}, x < 65536 → x ≠ 0 → bitN j x ≠ 0
  | 0, _, _, h => h
  | j + 1, x, h, h0 => crcBit_pos (bitN_lt j h) (bitN_pos j h h0)

/-- a row of bytes as a number, the first byte lowest -/
def num : List UInt8 → Nat
  | [] => 0
  | c :: l => c.toNat ^^^ (256 * num l)
theorem fold_num : ∀ (l : List UInt8) (r : Nat), l.foldl crcByte r = bitN (8 * l.length) (r ^^^ num l)
  | [], r => by simp [num, bitN]
  | c :: l, r => by
    rw [List.foldl_cons, fold_num l]
    have e : num l = bitN 8 (256 * num l) := (bitN_shift 8 (num l)).symm
    rw [show 8 * (c :: l).length = 8 * l.length + 8 by simp; omega, bitN_add]
    congr 1
    show bitN 8 (r ^^^ c.toNat) ^^^ num l = bitN 8 (r ^^^ (c.toNat ^^^ (256 * num l)))
    conv => lhs; rw [e]
    rw [← bitN_xor, Nat.xor_assoc]
theorem num_append : ∀ (a b : List UInt8), num (a ++ b) = num a ^^^ (2 ^ (8 * a.length) * num b)
  | [], b => by simp [num]
  | c :: a, b => by
    show c.toNat ^^^ (256 * num (a ++ b)) = (c.toNat ^^^ (256 * num a)) ^^^ _
    have e : ∀ x y : Nat, 256 * (x ^^^ y) = 256 * x ^^^ 256 * y := fun x y => by
      have := Nat.shiftLeft_xor_distrib (a := x) (b := y) (i := 8)
      simpa [Nat.shiftLeft_eq, Nat.mul_comm] using this
    rw [num_append a, e, ← Nat.xor_assoc]
    congr 1
    rw [show 8 * (c :: a).length = 8 * a.length + 8 by simp; omega, Nat.pow_add, ← Nat.mul_assoc, Nat.mul_comm 256, Nat.mul_assoc]

theorem num_set (l : List UInt8) (q : Nat) (hq : q < l.length) (c : UInt8) : num (l.set q (l[q] ^^^ c)) = num l ^^^ (2 ^ (8 * q) * c.toNat) := by
  have e1 : l = l.take q ++ (l[q] :: l.drop (q + 1)) := by
    rw [← List.drop_eq_getElem_cons hq, List.take_append_drop]
  have e2 : l.set q (l[q] ^^^ c) = l.take q ++ ((l[q] ^^^ c) :: l.drop (q + 1)) := List.set_eq_take_append_cons_drop .. |>.trans (by rw [if_pos hq])
  have hlen : (l.take q).length = q := by rw [List.length_take]; omega
  have e : ∀ x y : Nat, 2 ^ (8 * q) * (x ^^^ y) = 2 ^ (8 * q) * x ^^^ 2 ^ (8 * q) * y := fun x y => by
    have := Nat.shiftLeft_xor_distrib (a := x) (b := y) (i := 8 * q)
    simpa [Nat.shiftLeft_eq, Nat.mul_comm] using this
  rw [e2, num_append, hlen]
  conv => rhs; rw [e1, num_append, hlen]
  rw [Nat.xor_assoc]
  congr 1
  rw [← e]
  congr 1
  show (l[q] ^^^ c).toNat ^^^ _ = (l[q].toNat ^^^ _) ^^^ _
  rw [UInt8.toNat_xor, Nat.xor_assoc, Nat.xor_comm c.toNat, ← Nat.xor_assoc]

theorem reg_body (p : List UInt8) : crcReg (body p) = bitN 16 65535 := by
  have hc := crc_lt p
  unfold crcReg body
  rw [List.foldl_append, fold_num]
  have hn : num [UInt8.ofNat (crc p % 256), UInt8.ofNat (crc p / 256)] = crc p := by
    simp only [num, Nat.mul_zero, Nat.xor_zero]
    have h1 : (UInt8.ofNat (crc p % 256)).toNat = crc p % 256 := by simp
    have h2 : (UInt8.ofNat (crc p / 256)).toNat = crc p / 256 := by simp; omega
    rw [h1, h2]
    apply Nat.eq_of_testBit_eq
    intro i
    rw [show (256 : Nat) = 2 ^ 8 from rfl, Nat.testBit_xor, Nat.testBit_mod_two_pow, Nat.testBit_two_pow_mul, Nat.testBit_div_two_pow]
    by_cases hi : i < 8
    · simp [hi, Nat.not_le.2 hi]
    · simp [hi, Nat.le_of_not_lt hi, Nat.sub_add_cancel (Nat.le_of_not_lt hi)]
  rw [hn]
  show bitN 16 (crcReg p ^^^ crc p) = _
  congr 1
  unfold crc
  rw [Nat.xor_comm 65535, ← Nat.xor_assoc, Nat.xor_self, Nat.zero_xor]

theorem shl_xor (k x y : Nat) : 2 ^ k * (x ^^^ y) = 2 ^ k * x ^^^ 2 ^ k * y := by
  have := Nat.shiftLeft_xor_distrib (a := x) (b := y) (i := k)
  simpa [Nat.shiftLeft_eq, Nat.mul_comm] using this

theorem reg_num (l : List UInt8) : crcReg l = bitN (8 * l.length) (65535 ^^^ num l) := fold_num l 65535

/-- a burst shows -/
theorem burst (p q : List UInt8) (a e : Nat) (he : e < 65536) (h0 : e ≠ 0) (ha : a ≤ 8 * (body p).length) (hl : (body q).length = (body p).length)
    (h : num (body q) = num (body p) ^^^ 2 ^ a * e) : False := by
  have h1 := reg_body p
  have h2 := reg_body q
  rw [reg_num] at h1 h2
  rw [hl, h, ← Nat.xor_assoc, bitN_xor, h1] at h2
  have h3 : bitN (8 * (body p).length) (2 ^ a * e) = 0 := by
    have := congrArg (fun x => bitN 16 65535 ^^^ x) h2
    simp only [← Nat.xor_assoc, Nat.xor_self, Nat.zero_xor] at this
    exact this
  rw [show 8 * (body p).length = (8 * (body p).length - a) + a by omega, bitN_add, bitN_shift] at h3
  exact bitN_pos _ he h0 h3

theorem pays_one (b : List UInt8) : pays (126 :: (escaped b ++ [126])) = (pay (escaped b)).toList := by
  have hf := escaped_free b
  unfold pays strs scan
  rw [List.foldl_cons, List.foldl_append, foldl_free _ _ hf]
  have : ((List.foldl step (Option.map (fun l => l ++ escaped b) (step (none, []) 126).fst, (step (none, []) 126).snd) [126]) : St).2 = [escaped b] := by
    simp [step]
  rw [this]
  cases h : pay (escaped b) <;> simp [h]

/-- what the turned body decodes to -/
theorem turned_pays (p b : List UInt8) (a e : Nat) (he : e < 65536) (ha : a ≤ 8 * (body p).length) (hl : b.length = (body p).length)
    (hn : num b = num (body p) ^^^ 2 ^ a * e) (h : e ≠ 0) : pays (126 :: (escaped b ++ [126])) = [] := by
  rw [pays_one]
  cases hp : pay (escaped b) with
  | none => rfl
  | some q =>
    exfalso
    obtain ⟨h1, h2⟩ := pay_esc (escaped_free b) hp
    have hb : b = body q := by
      have := congrArg unesc h1
      rw [unesc_escaped, unesc_escaped] at this
      simpa using this
    subst hb
    exact burst p q a e he h ha hl hn
theorem still_pays (p : List UInt8) (h : p.length ≤ 900) : pays (126 :: (escaped (body p) ++ [126])) = [p] := by
  have h1 := (escaped_le (body p)).1
  rw [body_len] at h1
  rw [pays_one, pay_escaped, if_neg (by omega)]
  rfl
end Go.Proofs.YtfpobogmlhdigaaDoor
