/- Frame: plain laws (a list of frames; a stream in two portions). -/
import Derived.Test.YtibhihobpehpbaaDoorF8
set_option linter.unusedSimpArgs false
set_option linter.unusedVariables false
namespace Go.Proofs.YtibhihobpehpbaaDoor
open Go.RowKit

theorem escaped_free : ∀ l : List UInt8, (126 : UInt8) ∉ escaped l
  | [] => by simp [escaped]
  | c :: l => by
    have ih := escaped_free l
    have e : escaped (c :: l) = escB c ++ escaped l := by simp [escaped]
    rw [e, List.mem_append]
    rintro (h | h)
    · unfold escB at h
      split at h
      · revert h; decide
      · split at h
        · revert h; decide
        · rename_i h1 h2
          exact h2 (by simpa using h : (126 : UInt8) = c).symm
    · exact ih h

theorem foldl_frees : ∀ (l : List UInt8) (x : St), (∀ c, x.1 = some c → (126 : UInt8) ∉ c) → (∀ c ∈ x.2, (126 : UInt8) ∉ c) →
    (∀ c, (l.foldl step x).1 = some c → (126 : UInt8) ∉ c) ∧ (∀ c ∈ (l.foldl step x).2, (126 : UInt8) ∉ c)
  | [], x, h1, h2 => ⟨h1, h2⟩
  | d :: l, x, h1, h2 => by
    rw [List.foldl_cons]
    refine foldl_frees l _ ?_ ?_
    · intro c hc
      unfold step at hc
      split at hc
      · simp at hc; subst hc; simp
      · rename_i hd
        simp only [Option.map_eq_some_iff] at hc
        obtain ⟨y, hy, rfl⟩ := hc
        have := h1 y hy
        simp [this, Ne.symm hd]
    · intro c hc
      unfold step at hc
      split at hc
      · simp only [List.mem_append] at hc
        rcases hc with hc | hc
        · exact h2 c hc
        · exact h1 c (by simpa using hc)
      · exact h2 c hc
theorem strs_frees (l : List UInt8) : ∀ c ∈ strs l, (126 : UInt8) ∉ c := (foldl_frees l (none, []) (by simp) (by simp)).2
theorem cur_frees (l : List UInt8) : ∀ c, cur l = some c → (126 : UInt8) ∉ c := (foldl_frees l (none, []) (by simp) (by simp)).1

theorem body_take (p : List UInt8) : (body p).take ((body p).length - 2) = p := by
  rw [body_len]; simp [body]
theorem pay_iff {s p : List UInt8} (h : s.length ≤ 2048) : pay s = some p ↔ unesc s = some (body p) := by
  unfold pay
  rw [if_neg (by omega)]
  cases hu : unesc s with
  | none => simp
  | some b =>
    simp only [Option.some.injEq]
    constructor
    · intro h
      split at h
      · rename_i hb
        have : b.take (b.length - 2) = p := by simpa using h
        rw [← this]; exact hb.2.symm
      · simp at h
    · intro hb
      subst hb
      rw [body_take, if_pos ⟨by rw [body_len]; omega, rfl⟩]
theorem pay_esc {s p : List UInt8} (hf : (126 : UInt8) ∉ s) (h : pay s = some p) : s = escaped (body p) ∧ s.length ≤ 2048 := by
  have hl : s.length ≤ 2048 := by
    by_cases h2 : 2048 < s.length
    · rw [pay_long h2] at h; simp at h
    · omega
  exact ⟨(escaped_unesc s _ hf ((pay_iff hl).1 h)).symm, hl⟩
theorem pay_escaped (p : List UInt8) : pay (escaped (body p)) = if 2048 < (escaped (body p)).length then none else some p := by
  split
  · rename_i h; exact pay_long h
  · rename_i h; exact (pay_iff (by omega)).2 (unesc_escaped _)
theorem pay_le {s p : List UInt8} (hf : (126 : UInt8) ∉ s) (h : pay s = some p) : p.length + 2 ≤ 2048 := by
  obtain ⟨h1, h2⟩ := pay_esc hf h
  have := (escaped_le (body p)).2
  rw [body_len] at this
  rw [h1] at h2
  omega
theorem pay_nil : pay [] = none := by decide +kernel
theorem encode_eq (p : List UInt8) (h : (escaped (body p)).length ≤ 2048) : encode p = 126 :: (escaped (body p) ++ [126]) := by
  unfold encode; rw [if_neg (by omega)]
theorem encode_nil (p : List UInt8) (h : 2048 < (escaped (body p)).length) : encode p = [] := by
  unfold encode; rw [if_pos h]
theorem encode_len (p : List UInt8) : (encode p).length ≤ 2050 := by
  unfold encode; split
  · simp
  · simp only [List.length_cons, List.length_append, List.length_nil]; omega

theorem bytesOf_inj {a b : List UInt8} (h : bytesOf a = bytesOf b) : a = b := by
  have := congrArg (fun x : ByteArray => x.data.toList) h
  simpa [bytesOf] using this
theorem map_bytesOf (a b : List (List UInt8)) : decide (a.map bytesOf = b.map bytesOf) = decide (a = b) := by
  apply decide_eq_decide.2
  constructor
  · intro h
    exact (List.map_inj_right (fun x y => bytesOf_inj)).1 h
  · intro h; rw [h]
theorem pays_short (l : List UInt8) : ∀ x ∈ pays l, x.length ≤ 9223372036854775807 := by
  intro x hx
  unfold pays at hx
  obtain ⟨s, hm, hs⟩ := List.mem_filterMap.1 hx
  have := pay_le (strs_frees l s hm) hs
  omega


/-- the frames of the packets that have one; and the packets -/
def wireOf : List (List UInt8) → List UInt8
  | [] => []
  | p :: ps => encode p ++ wireOf ps
def wants (ps : List (List UInt8)) : List (List UInt8) := ps.filter (fun p => !(encode p).isEmpty)
theorem wireOf_snoc (ps : List (List UInt8)) (p : List UInt8) : wireOf (ps ++ [p]) = wireOf ps ++ encode p := by
  induction ps with
  | nil => simp [wireOf]
  | cons q ps ih => simp [wireOf, ih]
theorem wants_snoc (ps : List (List UInt8)) (p : List UInt8) : wants (ps ++ [p]) = wants ps ++ (if encode p = [] then [] else [p]) := by
  unfold wants
  rw [List.filter_append]
  congr 1
  by_cases h : encode p = [] <;> simp [h]

theorem scan_frame (p : List UInt8) (c : Option (List UInt8)) (hc : c = none ∨ c = some []) (h : (escaped (body p)).length ≤ 2048) :
    ((encode p).foldl step (c, [])).1 = some [] ∧ ((encode p).foldl step (c, [])).2.filterMap pay = [p] := by
  have hf := escaped_free (body p)
  have hp : pay (escaped (body p)) = some p := by rw [pay_escaped, if_neg (by omega)]
  rw [encode_eq p h, List.foldl_cons, List.foldl_append, foldl_free _ _ hf]
  rcases hc with rfl | rfl
  · simp [step, hp]
  · simp [step, hp, pay_nil]

theorem scan_wire : ∀ (ps : List (List UInt8)) (c : Option (List UInt8)), (c = none ∨ c = some []) →
    (((wireOf ps).foldl step (c, [])).1 = if wants ps = [] then c else some []) ∧ ((wireOf ps).foldl step (c, [])).2.filterMap pay = wants ps
  | [], c, _ => by simp [wireOf, wants]
  | p :: ps, c, hc => by
    show (((encode p ++ wireOf ps).foldl step (c, [])).1 = _) ∧ ((encode p ++ wireOf ps).foldl step (c, [])).2.filterMap pay = _
    by_cases h : 2048 < (escaped (body p)).length
    · have he := encode_nil p h
      have hw : wants (p :: ps) = wants ps := by simp [wants, he]
      rw [he, hw]
      exact scan_wire ps c hc
    · have he := encode_eq p (by omega)
      have hw : wants (p :: ps) = p :: wants ps := by simp [wants, he]
      obtain ⟨h1, h2⟩ := scan_frame p c hc (by omega)
      obtain ⟨h3, h4⟩ := scan_wire ps (some []) (.inr rfl)
      rw [hw, List.foldl_append]
      generalize (encode p).foldl step (c, []) = st at *
      obtain ⟨s1, s2⟩ := st
      simp only at h1 h2
      subst h1
      rw [foldl_out, List.filterMap_append, h2, h4, h3]
      simp

theorem back_all (junk : List UInt8) (hj : (126 : UInt8) ∉ junk) (ps : List (List UInt8)) :
    pays (junk ++ wireOf ps) = wants ps ∧ restV (cur (junk ++ wireOf ps)) = if wants ps = [] then [] else [126] := by
  unfold pays strs cur scan
  rw [List.foldl_append, foldl_free _ _ hj]
  obtain ⟨h1, h2⟩ := scan_wire ps none (.inl rfl)
  show (((wireOf ps).foldl step (none, [])).2.filterMap pay = _) ∧ restV ((wireOf ps).foldl step (none, [])).1 = _
  refine ⟨h2, ?_⟩
  rw [h1]
  split <;> simp [restV]

theorem encode_short (p : List UInt8) (h : encode p = []) : 1000 < p.length := by
  have h1 := (escaped_le (body p)).1
  rw [body_len] at h1
  by_cases h2 : 2048 < (escaped (body p)).length
  · omega
  · rw [encode_eq p (by omega)] at h; simp at h
theorem encode_long (p : List UInt8) (h : encode p ≠ []) : p.length ≤ 2046 := by
  have h1 := (escaped_le (body p)).2
  rw [body_len] at h1
  by_cases h2 : 2048 < (escaped (body p)).length
  · exact absurd (encode_nil p h2) h
  · omega
theorem wire_len : ∀ ps : List (List UInt8), (wireOf ps).length ≤ 2050 * ps.length
  | [] => by simp [wireOf]
  | p :: ps => by
    have h1 := wire_len ps
    have h2 := encode_len p
    simp only [wireOf, List.length_append, List.length_cons]
    omega
theorem wants_len (ps : List (List UInt8)) : (wants ps).length ≤ ps.length := List.length_filter_le _ _


/-- what a text decoded whole has behind the last flag, and what a text has that was fed in pieces: alike, or the one is too long -/
def Like (c d : Option (List UInt8)) : Prop := c = d ∨ (d = none ∧ ∃ x, c = some x ∧ 2048 < x.length)
theorem like_fold : ∀ (l : List UInt8) (c d : Option (List UInt8)), Like c d →
    Like (l.foldl step (c, [])).1 (l.foldl step (d, [])).1 ∧ (l.foldl step (c, [])).2.filterMap pay = (l.foldl step (d, [])).2.filterMap pay
  | [], c, d, h => ⟨h, rfl⟩
  | b :: l, c, d, h => by
    rcases h with rfl | ⟨rfl, x, rfl, hx⟩
    · exact ⟨.inl rfl, rfl⟩
    · rw [List.foldl_cons, List.foldl_cons]
      by_cases hb : b = 126
      · have e1 : step (some x, []) b = (some [], [x]) := by simp [step, hb]
        have e2 : step (none, []) b = (some [], []) := by simp [step, hb]
        rw [e1, e2, foldl_out]
        refine ⟨.inl rfl, ?_⟩
        show (x :: (l.foldl step (some [], [])).2).filterMap pay = _
        rw [List.filterMap_cons_none (pay_long hx)]
      · have e1 : step (some x, []) b = (some (x ++ [b]), []) := by simp [step, hb]
        have e2 : step (none, []) b = (none, []) := by simp [step, hb]
        rw [e1, e2]
        exact like_fold l _ _ (.inr ⟨rfl, _, rfl, by simp; omega⟩)
theorem like_rest {c d : Option (List UInt8)} (h : Like c d) : restV c = restV d := by
  rcases h with rfl | ⟨rfl, x, rfl, hx⟩
  · rfl
  · simp [restV, hx]
theorem scan_rest (l : List UInt8) : (scan (restV (cur l))).2 = [] ∧ Like (cur l) (scan (restV (cur l))).1 := by
  cases hc : cur l with
  | none => exact ⟨rfl, .inl rfl⟩
  | some x =>
    have hf := cur_frees l x hc
    by_cases hx : 2048 < x.length
    · have e : restV (some x) = [] := by simp [restV, hx]
      rw [e]
      exact ⟨rfl, .inr ⟨rfl, x, rfl, hx⟩⟩
    · have e : restV (some x) = 126 :: x := by simp [restV, hx]
      rw [e]
      unfold scan
      rw [List.foldl_cons, foldl_free x _ hf]
      exact ⟨rfl, .inl (by simp [step])⟩

/-- a further piece -/
theorem pays_piece (a b : List UInt8) : pays (a ++ b) = pays a ++ pays (restV (cur a) ++ b) ∧ restV (cur (a ++ b)) = restV (cur (restV (cur a) ++ b)) := by
  obtain ⟨h1, h2⟩ := scan_rest a
  unfold pays strs
  have e1 : scan (a ++ b) = b.foldl step (scan a) := by unfold scan; rw [List.foldl_append]
  have e2 : scan (restV (cur a) ++ b) = b.foldl step (scan (restV (cur a))) := by unfold scan; rw [List.foldl_append]
  have e3 : scan a = (cur a, strs a) := rfl
  generalize hr : scan (restV (cur a)) = sr at *
  obtain ⟨d, o⟩ := sr
  simp only at h1 h2
  subst h1
  obtain ⟨h4, h5⟩ := like_fold b _ _ h2
  refine ⟨?_, ?_⟩
  · rw [e1, e2, e3, foldl_out, List.filterMap_append, h5]
  · unfold cur
    show restV (scan (a ++ b)).1 = restV (scan (restV (cur a) ++ b)).1
    rw [e1, e2, e3, foldl_out]
    exact like_rest h4
theorem rest_len (l : List UInt8) : (restV (cur l)).length ≤ 2049 := by
  cases cur l with
  | none => simp [restV]
  | some x =>
    unfold restV
    simp only
    split
    · simp
    · simp; omega
theorem pays_nil : pays [] = [] := rfl
theorem rest_nil : restV (cur []) = [] := rfl
end Go.Proofs.YtibhihobpehpbaaDoor
