/- The plain laws of reading what was written, and of writing what was read. -/
import Derived.Test.YtiopehgghlfmgaaDoorW17
set_option linter.unusedSimpArgs false
set_option linter.unusedVariables false
namespace Go.Proofs.YtiopehgghlfmgaaDoor
open Go.RowKit

theorem foldl_num (f : UInt8 → Nat) : ∀ (l : List UInt8) (a : Nat), l.foldl (fun m d => m * 256 + f d) a = a * 256 ^ l.length + l.foldl (fun m d => m * 256 + f d) 0
  | [], a => by simp
  | x :: l, a => by
    simp only [List.foldl_cons, List.length_cons]
    rw [foldl_num f l (a * 256 + f x), foldl_num f l (0 * 256 + f x)]
    rw [Nat.pow_succ, Nat.zero_mul, Nat.zero_add, Nat.add_mul, Nat.mul_assoc, Nat.mul_comm 256, Nat.add_assoc]
theorem num_cons (neg : Bool) (x : UInt8) (l : List UInt8) : num neg (x :: l) = (if neg then 255 - x.toNat else x.toNat) * 256 ^ l.length + num neg l := by
  unfold num
  rw [List.foldl_cons, foldl_num (fun d => if neg then 255 - d.toNat else d.toNat) l]
  simp
theorem digs_len (neg : Bool) (m k j : Nat) : (digs neg m k j).length = j := by simp [digs]
theorem num_digs (neg : Bool) (m : Nat) : ∀ k, num neg (digs neg m k k) = m % 256 ^ k
  | 0 => by simp [digs, num, Nat.mod_one]
  | k + 1 => by
    rw [digs_cons, num_cons, digs_len, num_digs neg m k, Nat.mod_pow_succ]
    have hv : (if neg then 255 - (dig neg m k).toNat else (dig neg m k).toNat) = m / 256 ^ k % 256 := by
      cases neg
      · simp [dig]
      · simp [dig]; omega
    rw [hv, Nat.mul_comm, Nat.add_comm]

theorem rInt_enc (n : Int) (rest : List UInt8) (bad : Bool) (h : In64 n) : rInt (encInt n ++ rest) bad = (n, rest, bad) := by
  have hm := mag_le h
  have hs := sz_le (mag n) (by omega)
  obtain ⟨hb, -⟩ := sz_bounds (mag n) (by omega)
  have he : encInt n = (if n < 0 then UInt8.ofNat (127 - sz (mag n)) else UInt8.ofNat (128 + sz (mag n))) :: digs (decide (n < 0)) (mag n) (sz (mag n)) (sz (mag n)) := rfl
  rw [he, List.cons_append]
  have hc1 : decide ((if n < 0 then UInt8.ofNat (127 - sz (mag n)) else UInt8.ofNat (128 + sz (mag n))).toNat < 128) = decide (n < 0) := by
    by_cases hn : n < 0
    · rw [if_pos hn]; simp [hn]; omega
    · rw [if_neg hn]; simp [hn]; omega
  have hc2 : cnt8 (if n < 0 then UInt8.ofNat (127 - sz (mag n)) else UInt8.ofNat (128 + sz (mag n))) = sz (mag n) := by
    unfold cnt8
    by_cases hn : n < 0
    · simp only [if_pos hn]; rw [if_pos (by simp; omega)]; simp; omega
    · simp only [if_neg hn]; rw [if_neg (by simp; omega)]; simp; omega
  have htake : (digs (decide (n < 0)) (mag n) (sz (mag n)) (sz (mag n)) ++ rest).take (sz (mag n)) = digs (decide (n < 0)) (mag n) (sz (mag n)) (sz (mag n)) := by
    rw [List.take_append_of_le_length (by rw [digs_len]; omega), List.take_of_length_le (by rw [digs_len]; omega)]
  have hdrop : (digs (decide (n < 0)) (mag n) (sz (mag n)) (sz (mag n)) ++ rest).drop (sz (mag n)) = rest := by
    rw [List.drop_append_of_le_length (by rw [digs_len]; omega), List.drop_of_length_le (by rw [digs_len]; omega)]; simp
  have hnum : num (decide (n < 0)) (digs (decide (n < 0)) (mag n) (sz (mag n)) (sz (mag n))) = mag n := by rw [num_digs, Nat.mod_eq_of_lt hb]
  generalize (if n < 0 then UInt8.ofNat (127 - sz (mag n)) else UInt8.ofNat (128 + sz (mag n))) = c at *
  simp only [rInt]
  rw [hc2, hc1, htake, hnum, hdrop, if_neg (by simp [digs_len]; omega), if_neg (by omega)]
  by_cases hn : n < 0
  · have : c.toNat < 128 := by simpa [hn] using hc1
    rw [if_pos this]
    simp only [hn, decide_true] at hnum ⊢
    simp only [Prod.mk.injEq, and_true]
    rw [hnum]
    unfold mag; rw [if_pos hn]; omega
  · have : ¬ c.toNat < 128 := by simpa [hn] using hc1
    rw [if_neg this]
    simp only [hn, decide_false] at hnum ⊢
    simp only [Prod.mk.injEq, and_true]
    rw [hnum]
    unfold mag; rw [if_neg hn]; omega

theorem rTextGo_enc (bad : Bool) (rest : List UInt8) : ∀ (s acc : List UInt8), rTextGo bad (encText s ++ rest) acc = (acc ++ s, rest, bad)
  | [], acc => by
    have : encText [] ++ rest = 0 :: 1 :: rest := rfl
    rw [this, rTextGo_stop]; simp
  | x :: s, acc => by
    have e : encText (x :: s) ++ rest = esc x ++ (encText s ++ rest) := by simp [encText]
    rw [e]
    unfold esc
    split
    · rename_i hx
      subst hx
      show rTextGo bad (0 :: 255 :: (encText s ++ rest)) acc = _
      rw [rTextGo_esc, rTextGo_enc bad rest s (acc ++ [0])]
      simp
    · rename_i hx
      show rTextGo bad (x :: (encText s ++ rest)) acc = _
      rw [rTextGo_other _ _ _ _ hx, rTextGo_enc bad rest s (acc ++ [x])]
      simp
theorem rText_enc (s rest : List UInt8) (bad : Bool) : rText (encText s ++ rest) bad = (s, rest, bad) := by
  unfold rText; rw [rTextGo_enc]; simp

theorem rList_enc {α : Type} {one : List UInt8 → α × List UInt8 × Bool} {enc : α → List UInt8} {P : α → Prop} (h : ∀ x r, P x → one (enc x ++ r) = (x, r, false)) (rest : List UInt8) :
    ∀ (l : List α) (f : Nat) (acc : List α), (∀ x ∈ l, P x) → l.length < f → rList one f (l.flatMap (fun x => 1 :: enc x) ++ [0] ++ rest) acc = (acc ++ l, rest, false)
  | [], f, acc, _, hf => by
    obtain ⟨f, rfl⟩ : ∃ f', f = f' + 1 := ⟨f - 1, by simp at hf; omega⟩
    have : ([] : List α).flatMap (fun x => 1 :: enc x) ++ [0] ++ rest = 0 :: rest := rfl
    rw [this, rList_last]; simp
  | x :: l, f, acc, hP, hf => by
    obtain ⟨f, rfl⟩ : ∃ f', f = f' + 1 := ⟨f - 1, by simp at hf; omega⟩
    have e : (x :: l).flatMap (fun x => 1 :: enc x) ++ [0] ++ rest = 1 :: (enc x ++ (l.flatMap (fun x => 1 :: enc x) ++ [0] ++ rest)) := by simp
    have h1 := h x (l.flatMap (fun x => 1 :: enc x) ++ [0] ++ rest) (hP x (by simp))
    rw [e, rList_more one f _ acc (by rw [h1]), h1]
    simp only
    rw [rList_enc h rest l f (acc ++ [x]) (fun y hy => hP y (by simp [hy])) (by simp at hf; omega)]
    simp
theorem flat_len {α : Type} (enc : α → List UInt8) : ∀ l : List α, l.length ≤ (l.flatMap (fun x => 1 :: enc x)).length
  | [] => by simp
  | x :: l => by
    have := flat_len enc l
    simp only [List.flatMap_cons, List.length_append, List.length_cons]; omega
theorem rNums_enc (l : List Int) (rest : List UInt8) (h : ∀ x ∈ l, In64 x) : rNums (encNums l ++ rest) false = (l, rest, false) := by
  have h1 := flat_len encInt l
  have := rList_enc (one := fun t => rInt t false) (enc := encInt) (P := In64) (fun x r hx => rInt_enc x r false hx) rest l ((encNums l ++ rest).length + 1) [] h (by unfold encNums; simp only [List.length_append]; omega)
  unfold rNums rLists
  rw [if_neg (by simp)]
  rw [List.nil_append] at this
  exact this
theorem rTexts_enc (l : List ByteArray) (rest : List UInt8) : rTexts (encTexts l ++ rest) false = (l.map fun x => x.data.toList, rest, false) := by
  have e : encTexts l = (l.map fun x => x.data.toList).flatMap (fun x => 1 :: encText x) ++ [0] := by
    unfold encTexts
    rw [List.flatMap_map]
  have h1 := flat_len encText (l.map fun x => x.data.toList)
  have := rList_enc (one := fun t => rText t false) (enc := encText) (P := fun _ => True) (fun x r hx => rText_enc x r false) rest (l.map fun x => x.data.toList) ((encTexts l ++ rest).length + 1) [] (fun _ _ => trivial) (by rw [e]; simp only [List.length_append]; omega)
  unfold rTexts rLists
  rw [if_neg (by simp)]
  rw [← e] at this
  simpa using this

/-! what was read is what was written -/
theorem rInt_back {s : List UInt8} (h : (rInt s false).2.2 = false) : s = encInt (rInt s false).1 ++ (rInt s false).2.1 := by
  rcases s with _ | ⟨c, t⟩
  · simp [rInt] at h
  · have hin := rInt_in64 (c :: t) false
    by_cases h1 : 8 < cnt8 c ∨ t.length < cnt8 c
    · simp [rInt, h1] at h
    · by_cases h2 : sz (num (decide (c.toNat < 128)) (t.take (cnt8 c))) ≠ cnt8 c ∨ 9223372036854775808 ≤ num (decide (c.toNat < 128)) (t.take (cnt8 c))
      · simp only [rInt, if_neg h1, if_pos h2] at h
        simp at h
      · have e : rInt (c :: t) false = (if c.toNat < 128 then -(num true (t.take (cnt8 c)) : Int) - 1 else num false (t.take (cnt8 c)), t.drop (cnt8 c), false) := by simp only [rInt, if_neg h1, if_neg h2]
        rw [e] at hin ⊢
        simp only at hin ⊢
        have hn : decide ((if c.toNat < 128 then -(num true (t.take (cnt8 c)) : Int) - 1 else (num false (t.take (cnt8 c)) : Int)) < 0) = decide (c.toNat < 128) := by
          by_cases hc : c.toNat < 128
          · rw [if_pos hc]; simp [hc]; omega
          · rw [if_neg hc]; simp [hc]
        have hm : mag (if c.toNat < 128 then -(num true (t.take (cnt8 c)) : Int) - 1 else (num false (t.take (cnt8 c)) : Int)) = num (decide (c.toNat < 128)) (t.take (cnt8 c)) := by
          by_cases hc : c.toNat < 128
          · rw [if_pos hc]; simp only [hc, decide_true]; unfold mag; rw [if_pos (by omega)]; omega
          · rw [if_neg hc]; simp only [hc, decide_false]; unfold mag; rw [if_neg (by omega)]; omega
        have h8 := sz_le (mag (if c.toNat < 128 then -(num true (t.take (cnt8 c)) : Int) - 1 else (num false (t.take (cnt8 c)) : Int))) (by have := mag_le hin; omega)
        have := (encInt_num c t (cnt8 c) rfl (by omega) (by omega) _ hn hm h8).2 (by rw [hm]; omega)
        rw [this, List.cons_append, List.take_append_drop]
theorem rNum_back {s : List UInt8} (h : (rNum s false).2.2 = false) : s = encNum (rNum s false).1 ++ (rNum s false).2.1 := by
  unfold rNum at *
  by_cases hn : (rInt s false).1 < 0
  · rw [if_pos hn] at h; simp at h
  · rw [if_neg hn] at h ⊢
    unfold encNum
    rw [if_neg hn]
    exact rInt_back h
theorem rTextGo_back : ∀ (n : Nat) (s acc : List UInt8), s.length ≤ n → (rTextGo false s acc).2.2 = false → ∃ v, (rTextGo false s acc).1 = acc ++ v ∧ s = encText v ++ (rTextGo false s acc).2.1
  | 0, s, acc, h, hb => by
    obtain rfl := List.eq_nil_of_length_eq_zero (Nat.le_zero.1 h)
    simp [rTextGo] at hb
  | n + 1, s, acc, h, hb => by
    rcases s with _ | ⟨x, _ | ⟨y, t⟩⟩
    · simp [rTextGo] at hb
    · simp [rTextGo] at hb
    · simp only [List.length_cons] at h
      by_cases hx : x = 0
      · subst hx
        by_cases hy : y = 255
        · subst hy
          rw [rTextGo_esc] at hb ⊢
          obtain ⟨v, h1, h2⟩ := rTextGo_back n t (acc ++ [0]) (by omega) hb
          refine ⟨0 :: v, by rw [h1]; simp, ?_⟩
          have e : encText (0 :: v) = 0 :: 255 :: encText v := rfl
          rw [e, List.cons_append, List.cons_append, ← h2]
        · by_cases hy1 : y = 1
          · subst hy1
            rw [rTextGo_stop] at hb ⊢
            exact ⟨[], by simp, rfl⟩
          · rw [rTextGo_fail _ _ _ _ hy hy1] at hb; simp at hb
      · rw [rTextGo_other _ _ _ _ hx] at hb ⊢
        obtain ⟨v, h1, h2⟩ := rTextGo_back n (y :: t) (acc ++ [x]) (by simp; omega) hb
        refine ⟨x :: v, by rw [h1]; simp, ?_⟩
        have e : encText (x :: v) = x :: encText v := by simp [encText, esc, hx]
        rw [e, List.cons_append, ← h2]
theorem rText_back {s : List UInt8} (h : (rText s false).2.2 = false) : s = encText (rText s false).1 ++ (rText s false).2.1 := by
  obtain ⟨v, h1, h2⟩ := rTextGo_back s.length s [] (Nat.le_refl _) h
  unfold rText
  rw [h1]
  exact h2
theorem rList_back {α : Type} {one : List UInt8 → α × List UInt8 × Bool} {enc : α → List UInt8} (h : ∀ s, (one s).2.2 = false → s = enc (one s).1 ++ (one s).2.1) :
    ∀ (f : Nat) (s : List UInt8) (acc : List α), (rList one f s acc).2.2 = false → ∃ v, (rList one f s acc).1 = acc ++ v ∧ s = v.flatMap (fun x => 1 :: enc x) ++ [0] ++ (rList one f s acc).2.1
  | 0, s, acc, hb => by simp [rList] at hb
  | f + 1, [], acc, hb => by simp [rList] at hb
  | f + 1, x :: t, acc, hb => by
    by_cases hx : x = 0
    · subst hx
      rw [rList_last] at hb ⊢
      exact ⟨[], by simp, by simp⟩
    · by_cases hx1 : x = 1
      · subst hx1
        by_cases ho : (one t).2.2 = true
        · rw [rList_stop _ _ _ _ ho] at hb; simp at hb
        · have ho' : (one t).2.2 = false := by simpa using ho
          rw [rList_more _ _ _ _ ho'] at hb ⊢
          obtain ⟨v, h1, h2⟩ := rList_back h f (one t).2.1 (acc ++ [(one t).1]) hb
          refine ⟨(one t).1 :: v, by rw [h1]; simp, ?_⟩
          have h3 := h t ho'
          have e : ((one t).1 :: v).flatMap (fun x => 1 :: enc x) ++ [0] = 1 :: (enc (one t).1 ++ (v.flatMap (fun x => 1 :: enc x) ++ [0])) := by simp
          rw [e, List.cons_append, List.append_assoc, ← h2, ← h3]
      · rw [rList_fail _ _ _ _ _ hx hx1] at hb; simp at hb
theorem rNums_back {s : List UInt8} (h : (rNums s false).2.2 = false) : s = encNums (rNums s false).1 ++ (rNums s false).2.1 := by
  unfold rNums rLists at *
  rw [if_neg (by simp)] at h ⊢
  obtain ⟨v, h1, h2⟩ := rList_back (one := fun t => rInt t false) (enc := encInt) (fun s hs => rInt_back hs) _ _ _ h
  rw [List.nil_append] at h1
  rw [h1]
  exact h2
theorem rTexts_back {s : List UInt8} (h : (rTexts s false).2.2 = false) : s = encTexts ((rTexts s false).1.map bytesOf) ++ (rTexts s false).2.1 := by
  unfold rTexts rLists at *
  rw [if_neg (by simp)] at h ⊢
  obtain ⟨v, h1, h2⟩ := rList_back (one := fun t => rText t false) (enc := encText) (fun s hs => rText_back hs) _ _ _ h
  rw [List.nil_append] at h1
  rw [h1]
  have e : encTexts (v.map bytesOf) = v.flatMap (fun x => 1 :: encText x) ++ [0] := by
    unfold encTexts
    rw [List.flatMap_map]
    simp [bytesOf]
  rw [e]
  exact h2
end Go.Proofs.YtiopehgghlfmgaaDoor
