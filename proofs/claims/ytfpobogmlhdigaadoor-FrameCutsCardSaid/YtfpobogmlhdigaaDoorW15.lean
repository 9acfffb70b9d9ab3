/- FrameCuts: plain law. -/
import Derived.Test.YtfpobogmlhdigaaDoorW10
set_option linter.unusedSimpArgs false
set_option linter.unusedVariables false
namespace Go.Proofs.YtfpobogmlhdigaaDoor
open Go.RowKit

/-- what a text decoded whole has behind the last flag, and what a text has that was fed in pieces: alike, or the one is too long -/
def Like (c d : Option (List UInt8)) : Prop := c = d ∨ (d = none ∧ ∃ x, c = some x ∧ 2048 < x.length)
theorem like_fold : ∀ (l : List UInt8) (c d : Option (List UInt8)), Like c d →
    Like (l.foldl step (c, [])).1 (l.foldl step (d, [])).1 ∧ (l.foldl step (c, [])).2.filterMap pay = (l.foldl step (d, [])).2.filterMap pay
  | [], c, d, h => ⟨h, rfl⟩
  | b :: l, c, d, h => by
    rcases h with rfl | ⟨rfl, x, rfl, hx⟩
    · exact ⟨.inl rfl, rfl⟩
    · rw [List.foldl_cons, List.foldl_cons]
      by_cases hb : b = 126
      · have e1 : step (some x, []) b = (some [], [x]) := by simp [step, hb]
        have e2 : step (none, []) b = (some [], []) := by simp [step, hb]
        rw [e1, e2, foldl_out]
        refine ⟨.inl rfl, ?_⟩
        show (x :: (l.foldl step (some [], [])).2).filterMap pay = _
        rw [List.filterMap_cons_none (pay_long hx)]
      · have e1 : step (some x, []) b = (some (x ++ [b]), []) := by simp [step, hb]
        have e2 : step (none, []) b = (none, []) := by simp [step, hb]
        rw [e1, e2]
        exact like_fold l _ _ (.inr ⟨rfl, _, rfl, by simp; omega⟩)
theorem like_rest {c d : Option (List UInt8)} (h : Like c d) : restV c = restV d := by
  rcases h with rfl | ⟨rfl, x, rfl, hx⟩
  · rfl
  · simp [restV, hx]
theorem scan_rest (l : List UInt8) : (scan (restV (cur l))).2 = [] ∧ Like (cur l) (scan (restV (cur l))).1 := by
  cases hc : cur l with
  | none => exact ⟨rfl, .inl rfl⟩
  | some x =>
    have hf := cur_frees l x hc
    by_cases hx : 2048 < x.length
    · have e : restV (some x) = [] := by simp [restV, hx]
      rw [e]
      exact ⟨rfl, .inr ⟨rfl, x, rfl, hx⟩⟩
    · have e : restV (some x) = 126 :: x := by simp [restV, hx]
      rw [e]
      unfold scan
      rw [List.foldl_cons, foldl_free x _ hf]
      exact ⟨rfl, .inl (by simp [step])⟩

/-- a further piece -/
theorem pays_piece (a b : List UInt8) : pays (a ++ b) = pays a ++ pays (restV (cur a) ++ b) ∧ restV (cur (a ++ b)) = restV (cur (restV (cur a) ++ b)) := by
  obtain ⟨h1, h2⟩ := scan_rest a
  unfold pays strs
  have e1 : scan (a ++ b) = b.foldl step (scan a) := by unfold scan; rw [List.foldl_append]
  have e2 : scan (restV (cur a) ++ b) = b.foldl step (scan (restV (cur a))) := by unfold scan; rw [List.foldl_append]
  have e3 : scan a = (cur a, strs a) := rfl
  generalize hr : scan (restV (cur a)) = sr at *
  obtain ⟨d, o⟩ := sr
  simp only at h1 h2
  subst h1
  obtain ⟨h4, h5⟩ := like_fold b _ _ h2
  refine ⟨?_, ?_⟩
  · rw [e1, e2, e3, foldl_out, List.filterMap_append, h5]
  · unfold cur
    show restV (scan (a ++ b)).1 = restV (scan (restV (cur a) ++ b)).1
    rw [e1, e2, e3, foldl_out]
    exact like_rest h4
theorem rest_len (l : List UInt8) : (restV (cur l)).length ≤ 2049 := by
  cases cur l with
  | none => simp [restV]
  | some x =>
    unfold restV
    simp only
    split
    · simp
    · simp; omega
theorem pays_nil : pays [] = [] := rfl
theorem rest_nil : restV (cur []) = [] := rfl
end Go.Proofs.YtfpobogmlhdigaaDoor
