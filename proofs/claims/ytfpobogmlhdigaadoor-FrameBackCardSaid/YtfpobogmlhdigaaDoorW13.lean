/- FrameBack: walk. -/
import Derived.Test.YtfpobogmlhdigaaDoorW10
set_option linter.unusedSimpArgs false
set_option linter.unusedVariables false
namespace Go.Proofs.YtfpobogmlhdigaaDoor
open Go.RowKit

/-- the frames of the packets that have one; and the packets -/
def wireOf : List (List UInt8) → List UInt8
  | [] => []
  | p :: ps => encode p ++ wireOf ps
def wants (ps : List (List UInt8)) : List (List UInt8) := ps.filter (fun p => !(encode p).isEmpty)
theorem wireOf_snoc (ps : List (List UInt8)) (p : List UInt8) : wireOf (ps ++ [p]) = wireOf ps ++ encode p := by
  induction ps with
  | nil => simp [wireOf]
  | cons q ps ih => simp [wireOf, ih]
theorem wants_snoc (ps : List (List UInt8)) (p : List UInt8) : wants (ps ++ [p]) = wants ps ++ (if encode p = [] then [] else [p]) := by
  unfold wants
  rw [List.filter_append]
  congr 1
  by_cases h : encode p = [] <;> simp [h]

theorem scan_frame (p : List UInt8) (c : Option (List UInt8)) (hc : c = none ∨ c = some []) (h : (escaped (body p)).length ≤ 2048) :
    ((encode p).foldl step (c, [])).1 = some [] ∧ ((encode p).foldl step (c, [])).2.filterMap pay = [p] := by
  have hf := escaped_free (body p)
  have hp : pay (escaped (body p)) = some p := by rw [pay_escaped, if_neg (by omega)]
  rw [encode_eq p h, List.foldl_cons, List.foldl_append, foldl_free _ _ hf]
  rcases hc with rfl | rfl
  · simp [step, hp]
  · simp [step, hp, pay_nil]

theorem scan_wire : ∀ (ps : List (List UInt8)) (c : Option (List UInt8)), (c = none ∨ c = some []) →
    (((wireOf ps).foldl step (c, [])).1 = if wants ps = [] then c else some []) ∧ ((wireOf ps).foldl step (c, [])).2.filterMap pay = wants ps
  | [], c, _ => by simp [wireOf, wants]
  | p :: ps, c, hc => by
    show (((encode p ++ wireOf ps).foldl step (c, [])).1 = _) ∧ ((encode p ++ wireOf ps).foldl step (c, [])).2.filterMap pay = _
    by_cases h : 2048 < (escaped (body p)).length
    · have he := encode_nil p h
      have hw : wants (p :: ps) = wants ps := by simp [wants, he]
      rw [he, hw]
      exact scan_wire ps c hc
    · have he := encode_eq p (by omega)
      have hw : wants (p :: ps) = p :: wants ps := by simp [wants, he]
      obtain ⟨h1, h2⟩ := scan_frame p c hc (by omega)
      obtain ⟨h3, h4⟩ := scan_wire ps (some []) (.inr rfl)
      rw [hw, List.foldl_append]
      generalize (encode p).foldl step (c, []) = st at *
      obtain ⟨s1, s2⟩ := st
      simp only at h1 h2
      subst h1
      rw [foldl_out, List.filterMap_append, h2, h4, h3]
      simp

theorem back_all (junk : List UInt8) (hj : (126 : UInt8) ∉ junk) (ps : List (List UInt8)) :
    pays (junk ++ wireOf ps) = wants ps ∧ restV (cur (junk ++ wireOf ps)) = if wants ps = [] then [] else [126] := by
  unfold pays strs cur scan
  rw [List.foldl_append, foldl_free _ _ hj]
  obtain ⟨h1, h2⟩ := scan_wire ps none (.inl rfl)
  show (((wireOf ps).foldl step (none, [])).2.filterMap pay = _) ∧ restV ((wireOf ps).foldl step (none, [])).1 = _
  refine ⟨h2, ?_⟩
  rw [h1]
  split <;> simp [restV]

theorem encode_short (p : List UInt8) (h : encode p = []) : 1000 < p.length := by
  have h1 := (escaped_le (body p)).1
  rw [body_len] at h1
  by_cases h2 : 2048 < (escaped (body p)).length
  · omega
  · rw [encode_eq p (by omega)] at h; simp at h
theorem encode_long (p : List UInt8) (h : encode p ≠ []) : p.length ≤ 2046 := by
  have h1 := (escaped_le (body p)).2
  rw [body_len] at h1
  by_cases h2 : 2048 < (escaped (body p)).length
  · exact absurd (encode_nil p h2) h
  · omega
theorem wire_len : ∀ ps : List (List UInt8), (wireOf ps).length ≤ 2050 * ps.length
  | [] => by simp [wireOf]
  | p :: ps => by
    have h1 := wire_len ps
    have h2 := encode_len p
    simp only [wireOf, List.length_append, List.length_cons]
    omega
theorem wants_len (ps : List (List UInt8)) : (wants ps).length ≤ ps.length := List.length_filter_le _ _
end Go.Proofs.YtfpobogmlhdigaaDoor
