/- Plain laws of the wire encodings: order, reading back. -/
import Derived.Test.YtibhihobpehpbaaDoorD8
set_option linter.unusedSimpArgs false
set_option linter.unusedVariables false
namespace Go.Proofs.YtibhihobpehpbaaDoor
open Go.RowKit

def Lt2 : List UInt8 → List UInt8 → Prop
  | x :: s, y :: t => x.toNat < y.toNat ∨ (x = y ∧ Lt2 s t)
  | _, _ => False
theorem Lt2.head {x y : UInt8} (s t : List UInt8) (h : x.toNat < y.toNat) : Lt2 (x :: s) (y :: t) := .inl h
theorem Lt2.tail {x : UInt8} {s t : List UInt8} (h : Lt2 s t) : Lt2 (x :: s) (x :: t) := .inr ⟨rfl, h⟩
theorem Lt2.pre {s t : List UInt8} (h : Lt2 s t) : ∀ p : List UInt8, Lt2 (p ++ s) (p ++ t)
  | [] => h
  | _ :: p => .inr ⟨rfl, Lt2.pre h p⟩
theorem Lt2.suf : ∀ {s t : List UInt8} (_ : Lt2 s t) (u v : List UInt8), Lt2 (s ++ u) (t ++ v)
  | x :: s, y :: t, h, u, v => by
    rcases h with h | ⟨rfl, h⟩
    · exact .inl h
    · exact .inr ⟨rfl, Lt2.suf h u v⟩
  | [], _, h, _, _ => by cases h
  | _ :: _, [], h, _, _ => by cases h
theorem Lt2.less : ∀ {s t : List UInt8} (_ : Lt2 s t), Op.bytesLess s t = true ∧ Op.bytesLess t s = false ∧ s ≠ t
  | x :: s, y :: t, h => by
    rcases h with h | ⟨rfl, h⟩
    · have h1 : x < y := h
      have h2 : ¬ y < x := by show ¬ y.toNat < x.toNat; omega
      have h3 : x ≠ y := by intro e; subst e; omega
      refine ⟨by simp [Op.bytesLess, h1], ?_, ?_⟩
      · simp [Op.bytesLess, h2, h3.symm]
      · intro e; exact h3 (List.cons.inj e).1
    · obtain ⟨h1, h2, h3⟩ := Lt2.less h
      have h4 : ¬ x < x := by show ¬ x.toNat < x.toNat; omega
      refine ⟨by simp [Op.bytesLess, h1], by simp [Op.bytesLess, h2, h4], ?_⟩
      intro e; exact h3 (List.cons.inj e).2
  | [], _, h => by cases h
  | _ :: _, [], h => by cases h
theorem Lt2.not_pre : ∀ {s t : List UInt8} (_ : Lt2 s t), ¬ (s <+: t) ∧ ¬ (t <+: s)
  | x :: s, y :: t, h => by
    rcases h with h | ⟨rfl, h⟩
    · have h3 : x ≠ y := by intro e; subst e; omega
      constructor
      · intro e; exact h3 (List.cons_prefix_cons.1 e).1
      · intro e; exact h3 (List.cons_prefix_cons.1 e).1.symm
    · obtain ⟨h1, h2⟩ := Lt2.not_pre h
      constructor
      · intro e; exact h1 (List.cons_prefix_cons.1 e).2
      · intro e; exact h2 (List.cons_prefix_cons.1 e).2
  | [], _, h => by cases h
  | _ :: _, [], h => by cases h
theorem digs_lt : ∀ (k m m' : Nat), m % 256 ^ k < m' % 256 ^ k → Lt2 (digs false m k k) (digs false m' k k) ∧ Lt2 (digs true m' k k) (digs true m k k)
  | 0, m, m', h => by simp [Nat.mod_one] at h
  | k + 1, m, m', h => by
    rw [Nat.mod_pow_succ, Nat.mod_pow_succ] at h
    rw [digs_cons, digs_cons, digs_cons, digs_cons]
    have hlt1 := Nat.mod_lt m (Nat.pow_pos (n := k) (show 0 < 256 by omega))
    have hlt2 := Nat.mod_lt m' (Nat.pow_pos (n := k) (show 0 < 256 by omega))
    have hd1 : (dig false m k).toNat = m / 256 ^ k % 256 := by simp [dig]
    have hd2 : (dig false m' k).toNat = m' / 256 ^ k % 256 := by simp [dig]
    have hd3 : (dig true m k).toNat = 255 - m / 256 ^ k % 256 := by simp [dig]; omega
    have hd4 : (dig true m' k).toNat = 255 - m' / 256 ^ k % 256 := by simp [dig]; omega
    by_cases he : m / 256 ^ k % 256 = m' / 256 ^ k % 256
    · have e1 : dig false m k = dig false m' k := by simp [dig, he]
      have e2 : dig true m k = dig true m' k := by simp [dig, he]
      rw [he] at h
      obtain ⟨h1, h2⟩ := digs_lt k m m' (by omega)
      rw [e1, e2]
      exact ⟨h1.tail, h2.tail⟩
    · have hl : m / 256 ^ k % 256 < m' / 256 ^ k % 256 := by
        rcases Nat.lt_or_gt_of_ne he with h3 | h3
        · exact h3
        · exfalso
          have : 256 ^ k * (m' / 256 ^ k % 256 + 1) ≤ 256 ^ k * (m / 256 ^ k % 256) := Nat.mul_le_mul_left _ h3
          rw [Nat.mul_add, Nat.mul_one] at this
          omega
      exact ⟨Lt2.head _ _ (by omega), Lt2.head _ _ (by omega)⟩
theorem sz_mono {m m' : Nat} (h : m ≤ m') (hm : m' ≤ 18446744073709551615) : sz m ≤ sz m' := by
  rcases Nat.lt_or_ge (sz m') (sz m) with hc | hc
  · obtain ⟨h1, -⟩ := sz_bounds m' hm
    obtain ⟨-, h2⟩ := sz_bounds m (by omega)
    have := h2 (sz m') hc
    omega
  · exact hc
theorem encInt_lt {a b : Int} (ha : In64 a) (hb : In64 b) (h : a < b) : Lt2 (encInt a) (encInt b) := by
  have ma := mag_le ha
  have mb := mag_le hb
  have sa := sz_le (mag a) (by omega)
  have sb := sz_le (mag b) (by omega)
  obtain ⟨ba, -⟩ := sz_bounds (mag a) (by omega)
  obtain ⟨bb, -⟩ := sz_bounds (mag b) (by omega)
  have ea : encInt a = (if a < 0 then UInt8.ofNat (127 - sz (mag a)) else UInt8.ofNat (128 + sz (mag a))) :: digs (decide (a < 0)) (mag a) (sz (mag a)) (sz (mag a)) := rfl
  have eb : encInt b = (if b < 0 then UInt8.ofNat (127 - sz (mag b)) else UInt8.ofNat (128 + sz (mag b))) :: digs (decide (b < 0)) (mag b) (sz (mag b)) (sz (mag b)) := rfl
  rw [ea, eb]
  by_cases h1 : a < 0
  · by_cases h2 : b < 0
    · have hm : mag b < mag a := by unfold mag; rw [if_pos h1, if_pos h2]; omega
      have hs := sz_mono (Nat.le_of_lt hm) (by omega)
      rw [if_pos h1, if_pos h2]
      simp only [h1, h2, decide_true]
      by_cases he : sz (mag b) = sz (mag a)
      · rw [he] at bb ⊢
        refine Lt2.tail (digs_lt _ _ _ ?_).2
        rw [Nat.mod_eq_of_lt bb, Nat.mod_eq_of_lt ba]; exact hm
      · refine Lt2.head _ _ ?_
        simp; omega
    · rw [if_pos h1, if_neg h2]
      refine Lt2.head _ _ ?_
      simp; omega
  · have h2 : ¬ b < 0 := by omega
    have hm : mag a < mag b := by unfold mag; rw [if_neg h1, if_neg h2]; omega
    have hs := sz_mono (Nat.le_of_lt hm) (by omega)
    rw [if_neg h1, if_neg h2]
    simp only [h1, h2, decide_false]
    by_cases he : sz (mag a) = sz (mag b)
    · rw [he] at ba ⊢
      refine Lt2.tail (digs_lt _ _ _ ?_).1
      rw [Nat.mod_eq_of_lt bb, Nat.mod_eq_of_lt ba]; exact hm
    · refine Lt2.head _ _ ?_
      simp; omega
theorem encText_lt : ∀ (a b : List UInt8), Op.bytesLess a b = true → Lt2 (encText a) (encText b)
  | [], [], h => by simp [Op.bytesLess] at h
  | [], y :: b, _ => by
    unfold encText
    simp only [List.flatMap_nil, List.nil_append, List.flatMap_cons, List.append_assoc]
    unfold esc
    split
    · exact .inr ⟨rfl, .inl (by decide)⟩
    · rename_i hy
      refine .inl ?_
      have : y.toNat ≠ 0 := fun e => hy (UInt8.toNat_inj.1 e)
      show 0 < y.toNat
      omega
  | _ :: _, [], h => by simp [Op.bytesLess] at h
  | x :: a, y :: b, h => by
    have ex : encText (x :: a) = esc x ++ encText a := by simp [encText]
    have ey : encText (y :: b) = esc y ++ encText b := by simp [encText]
    rw [ex, ey]
    simp only [Op.bytesLess, Bool.or_eq_true, decide_eq_true_eq, Bool.and_eq_true, beq_iff_eq] at h
    rcases h with h | ⟨rfl, h⟩
    · have hlt : x.toNat < y.toNat := h
      have hy : y ≠ 0 := by intro e; subst e; simp at hlt
      have ey2 : esc y = [y] := by unfold esc; rw [if_neg hy]
      rw [ey2]
      unfold esc
      split
      · rename_i hx; subst hx
        exact .inl hlt
      · exact .inl hlt
    · exact (encText_lt a b h).pre _
theorem foldl_num (f : UInt8 → Nat) : ∀ (l : List UInt8) (a : Nat), l.foldl (fun m d => m * 256 + f d) a = a * 256 ^ l.length + l.foldl (fun m d => m * 256 + f d) 0
  | [], a => by simp
  | x :: l, a => by
    simp only [List.foldl_cons, List.length_cons]
    rw [foldl_num f l (a * 256 + f x), foldl_num f l (0 * 256 + f x)]
    rw [Nat.pow_succ, Nat.zero_mul, Nat.zero_add, Nat.add_mul, Nat.mul_assoc, Nat.mul_comm 256, Nat.add_assoc]
theorem num_cons (neg : Bool) (x : UInt8) (l : List UInt8) : num neg (x :: l) = (if neg then 255 - x.toNat else x.toNat) * 256 ^ l.length + num neg l := by
  unfold num
  rw [List.foldl_cons, foldl_num (fun d => if neg then 255 - d.toNat else d.toNat) l]
  simp
theorem digs_len (neg : Bool) (m k j : Nat) : (digs neg m k j).length = j := by simp [digs]
theorem num_digs (neg : Bool) (m : Nat) : ∀ k, num neg (digs neg m k k) = m % 256 ^ k
  | 0 => by simp [digs, num, Nat.mod_one]
  | k + 1 => by
    rw [digs_cons, num_cons, digs_len, num_digs neg m k, Nat.mod_pow_succ]
    have hv : (if neg then 255 - (dig neg m k).toNat else (dig neg m k).toNat) = m / 256 ^ k % 256 := by
      cases neg
      · simp [dig]
      · simp [dig]; omega
    rw [hv, Nat.mul_comm, Nat.add_comm]
theorem rInt_enc (n : Int) (rest : List UInt8) (bad : Bool) (h : In64 n) : rInt (encInt n ++ rest) bad = (n, rest, bad) := by
  have hm := mag_le h
  have hs := sz_le (mag n) (by omega)
  obtain ⟨hb, -⟩ := sz_bounds (mag n) (by omega)
  have he : encInt n = (if n < 0 then UInt8.ofNat (127 - sz (mag n)) else UInt8.ofNat (128 + sz (mag n))) :: digs (decide (n < 0)) (mag n) (sz (mag n)) (sz (mag n)) := rfl
  rw [he, List.cons_append]
  have hc1 : decide ((if n < 0 then UInt8.ofNat (127 - sz (mag n)) else UInt8.ofNat (128 + sz (mag n))).toNat < 128) = decide (n < 0) := by
    by_cases hn : n < 0
    · rw [if_pos hn]; simp [hn]; omega
    · rw [if_neg hn]; simp [hn]; omega
  have hc2 : cnt8 (if n < 0 then UInt8.ofNat (127 - sz (mag n)) else UInt8.ofNat (128 + sz (mag n))) = sz (mag n) := by
    unfold cnt8
    by_cases hn : n < 0
    · simp only [if_pos hn]; rw [if_pos (by simp; omega)]; simp; omega
    · simp only [if_neg hn]; rw [if_neg (by simp; omega)]; simp; omega
  have htake : (digs (decide (n < 0)) (mag n) (sz (mag n)) (sz (mag n)) ++ rest).take (sz (mag n)) = digs (decide (n < 0)) (mag n) (sz (mag n)) (sz (mag n)) := by
    rw [List.take_append_of_le_length (by rw [digs_len]; omega), List.take_of_length_le (by rw [digs_len]; omega)]
  have hdrop : (digs (decide (n < 0)) (mag n) (sz (mag n)) (sz (mag n)) ++ rest).drop (sz (mag n)) = rest := by
    rw [List.drop_append_of_le_length (by rw [digs_len]; omega), List.drop_of_length_le (by rw [digs_len]; omega)]; simp
  have hnum : num (decide (n < 0)) (digs (decide (n < 0)) (mag n) (sz (mag n)) (sz (mag n))) = mag n := by rw [num_digs, Nat.mod_eq_of_lt hb]
  generalize (if n < 0 then UInt8.ofNat (127 - sz (mag n)) else UInt8.ofNat (128 + sz (mag n))) = c at *
  simp only [rInt]
  rw [hc2, hc1, htake, hnum, hdrop, if_neg (by simp [digs_len]; omega), if_neg (by omega)]
  by_cases hn : n < 0
  · have : c.toNat < 128 := by simpa [hn] using hc1
    rw [if_pos this]
    simp only [hn, decide_true] at hnum ⊢
    simp only [Prod.mk.injEq, and_true]
    rw [hnum]
    unfold mag; rw [if_pos hn]; omega
  · have : ¬ c.toNat < 128 := by simpa [hn] using hc1
    rw [if_neg this]
    simp only [hn, decide_false] at hnum ⊢
    simp only [Prod.mk.injEq, and_true]
    rw [hnum]
    unfold mag; rw [if_neg hn]; omega
theorem rTextGo_enc (bad : Bool) (rest : List UInt8) : ∀ (s acc : List UInt8), rTextGo bad (encText s ++ rest) acc = (acc ++ s, rest, bad)
  | [], acc => by
    have : encText [] ++ rest = 0 :: 1 :: rest := rfl
    rw [this, rTextGo_stop]; simp
  | x :: s, acc => by
    have e : encText (x :: s) ++ rest = esc x ++ (encText s ++ rest) := by simp [encText]
    rw [e]
    unfold esc
    split
    · rename_i hx
      subst hx
      show rTextGo bad (0 :: 255 :: (encText s ++ rest)) acc = _
      rw [rTextGo_esc, rTextGo_enc bad rest s (acc ++ [0])]
      simp
    · rename_i hx
      show rTextGo bad (x :: (encText s ++ rest)) acc = _
      rw [rTextGo_other _ _ _ _ hx, rTextGo_enc bad rest s (acc ++ [x])]
      simp
theorem rText_enc (s rest : List UInt8) (bad : Bool) : rText (encText s ++ rest) bad = (s, rest, bad) := by
  unfold rText; rw [rTextGo_enc]; simp
theorem rInt_in64 (s : List UInt8) (bad : Bool) : In64 (rInt s bad).1 := by
  unfold rInt
  rcases s with _ | ⟨c, t⟩
  · simp [In64]
  · simp only
    split
    · simp [In64]
    · split
      · simp [In64]
      · rename_i h1 h2
        simp only
        by_cases hc : c.toNat < 128
        · simp only [hc, decide_true] at h2
          rw [if_pos hc]; unfold In64; omega
        · simp only [hc, decide_false] at h2
          rw [if_neg hc]; unfold In64; omega
theorem rInt_back {s : List UInt8} (h : (rInt s false).2.2 = false) : s = encInt (rInt s false).1 ++ (rInt s false).2.1 := by
  rcases s with _ | ⟨c, t⟩
  · simp [rInt] at h
  · have hin := rInt_in64 (c :: t) false
    by_cases h1 : 8 < cnt8 c ∨ t.length < cnt8 c
    · simp [rInt, h1] at h
    · by_cases h2 : sz (num (decide (c.toNat < 128)) (t.take (cnt8 c))) ≠ cnt8 c ∨ 9223372036854775808 ≤ num (decide (c.toNat < 128)) (t.take (cnt8 c))
      · simp only [rInt, if_neg h1, if_pos h2] at h
        simp at h
      · have e : rInt (c :: t) false = (if c.toNat < 128 then -(num true (t.take (cnt8 c)) : Int) - 1 else num false (t.take (cnt8 c)), t.drop (cnt8 c), false) := by simp only [rInt, if_neg h1, if_neg h2]
        rw [e] at hin ⊢
        simp only at hin ⊢
        have hn : decide ((if c.toNat < 128 then -(num true (t.take (cnt8 c)) : Int) - 1 else (num false (t.take (cnt8 c)) : Int)) < 0) = decide (c.toNat < 128) := by
          by_cases hc : c.toNat < 128
          · rw [if_pos hc]; simp [hc]; omega
          · rw [if_neg hc]; simp [hc]
        have hm : mag (if c.toNat < 128 then -(num true (t.take (cnt8 c)) : Int) - 1 else (num false (t.take (cnt8 c)) : Int)) = num (decide (c.toNat < 128)) (t.take (cnt8 c)) := by
          by_cases hc : c.toNat < 128
          · rw [if_pos hc]; simp only [hc, decide_true]; unfold mag; rw [if_pos (by omega)]; omega
          · rw [if_neg hc]; simp only [hc, decide_false]; unfold mag; rw [if_neg (by omega)]; omega
        have h8 := sz_le (mag (if c.toNat < 128 then -(num true (t.take (cnt8 c)) : Int) - 1 else (num false (t.take (cnt8 c)) : Int))) (by have := mag_le hin; omega)
        have := (encInt_num c t (cnt8 c) rfl (by omega) (by omega) _ hn hm h8).2 (by rw [hm]; omega)
        rw [this, List.cons_append, List.take_append_drop]
theorem rTextGo_back : ∀ (n : Nat) (s acc : List UInt8), s.length ≤ n → (rTextGo false s acc).2.2 = false → ∃ v, (rTextGo false s acc).1 = acc ++ v ∧ s = encText v ++ (rTextGo false s acc).2.1
  | 0, s, acc, h, hb => by
    obtain rfl := List.eq_nil_of_length_eq_zero (Nat.le_zero.1 h)
    simp [rTextGo] at hb
  | n + 1, s, acc, h, hb => by
    rcases s with _ | ⟨x, _ | ⟨y, t⟩⟩
    · simp [rTextGo] at hb
    · simp [rTextGo] at hb
    · simp only [List.length_cons] at h
      by_cases hx : x = 0
      · subst hx
        by_cases hy : y = 255
        · subst hy
          rw [rTextGo_esc] at hb ⊢
          obtain ⟨v, h1, h2⟩ := rTextGo_back n t (acc ++ [0]) (by omega) hb
          refine ⟨0 :: v, by rw [h1]; simp, ?_⟩
          have e : encText (0 :: v) = 0 :: 255 :: encText v := rfl
          rw [e, List.cons_append, List.cons_append, ← h2]
        · by_cases hy1 : y = 1
          · subst hy1
            rw [rTextGo_stop] at hb ⊢
            exact ⟨[], by simp, rfl⟩
          · rw [rTextGo_fail _ _ _ _ hy hy1] at hb; simp at hb
      · rw [rTextGo_other _ _ _ _ hx] at hb ⊢
        obtain ⟨v, h1, h2⟩ := rTextGo_back n (y :: t) (acc ++ [x]) (by simp; omega) hb
        refine ⟨x :: v, by rw [h1]; simp, ?_⟩
        have e : encText (x :: v) = x :: encText v := by simp [encText, esc, hx]
        rw [e, List.cons_append, ← h2]
theorem rText_back {s : List UInt8} (h : (rText s false).2.2 = false) : s = encText (rText s false).1 ++ (rText s false).2.1 := by
  obtain ⟨v, h1, h2⟩ := rTextGo_back s.length s [] (Nat.le_refl _) h
  unfold rText
  rw [h1]
  exact h2
end Go.Proofs.YtibhihobpehpbaaDoor
