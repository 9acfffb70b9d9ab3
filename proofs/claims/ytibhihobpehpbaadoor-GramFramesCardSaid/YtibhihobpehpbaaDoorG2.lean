/- Plain laws of gram: what is read back, what is genuine. -/
import Derived.Test.YtibhihobpehpbaaDoorG1
set_option linter.unusedSimpArgs false
set_option linter.unusedVariables false
namespace Go.Proofs.YtibhihobpehpbaaDoor
open Go.RowKit

def g0 : Gr := ⟨3, 1, 600, -5, []⟩
theorem tag_ne : tagS [116] g0 ≠ tagS [115] g0 := by decide +kernel
theorem inI_in64 {n lo hi : Int} (h : inI n lo hi = true) (h1 : -9223372036854775808 ≤ lo) (h2 : hi ≤ 9223372036854775807) : In64 n := by
  simp [inI] at h; unfold In64; omega
theorem Gr.ok_wf {x : Gr} (h : x.ok = true) : x.wf := by
  simp only [Gr.ok, Gr.inB, Bool.and_eq_true] at h
  obtain ⟨⟨⟨⟨h1, h2⟩, h3⟩, h4⟩, h5⟩ := h
  exact ⟨inI_in64 h1 (by omega) (by omega), inI_in64 h2 (by omega) (by omega), inI_in64 h3 (by omega) (by omega), inI_in64 h4 (by omega) (by omega)⟩
theorem Gr.ok_tag {x : Gr} (h : x.ok = true) : x.tag.length = 8 := by
  simp only [Gr.ok, Bool.and_eq_true, decide_eq_true_eq] at h; exact h.2
theorem zeroGr_wf : zeroGr.wf := by simp [Gr.wf, zeroGr, In64]
theorem zeroGr_ok : zeroGr.ok = false := by decide
theorem readAll_enc (x : Gr) (h : x.wf) (rest : List UInt8) : readAll (coreS x ++ encText x.tag ++ rest) = (x, rest, false) := by
  have e : coreS x ++ encText x.tag ++ rest = encInt x.g ++ (encInt x.q ++ (encInt x.c ++ (encInt x.v ++ (encText x.tag ++ rest)))) := by simp [coreS]
  rw [e]
  unfold readAll
  simp only [rInt_enc _ _ _ h.1, rInt_enc _ _ _ h.2.1, rInt_enc _ _ _ h.2.2.1, rInt_enc _ _ _ h.2.2.2, rText_enc]
theorem read_bytes {x : Gr} (h : x.ok = true) : readS (bytesS x) = (x, true) := by
  have e := readAll_enc x (Gr.ok_wf h) []
  rw [List.append_nil] at e
  rw [bytesS, if_pos h, readS, e]; simp [h]
theorem read_more {x : Gr} (h : x.ok = true) (c : UInt8) : readS (bytesS x ++ [c]) = (zeroGr, false) := by
  rw [bytesS, if_pos h, readS, readAll_enc x (Gr.ok_wf h)]; simp
theorem read_nil : readS [] = (zeroGr, false) := by decide
theorem read_x : readS [120] = (zeroGr, false) := by decide +kernel
theorem bytes_not {x : Gr} (h : x.ok = false) : bytesS x = [] := by rw [bytesS, if_neg (by simp [h])]
theorem encInt_ne (n : Int) : encInt n ≠ [] := by simp [encInt]
theorem bytes_ne {x : Gr} (h : x.ok = true) : bytesS x ≠ [] := by
  rw [bytesS, if_pos h]; simp [coreS, encInt_ne]
theorem rInt_flag {s : List UInt8} {bad : Bool} (h : (rInt s bad).2.2 = false) : bad = false := by
  unfold rInt at h
  cases s with
  | nil => simp at h
  | cons c t =>
    dsimp only at h
    split at h
    · simp at h
    · split at h
      · simp at h
      · simpa using h
theorem rTextGo_flag (bad : Bool) : ∀ (n : Nat) (s acc : List UInt8), s.length ≤ n → (rTextGo bad s acc).2.2 = false → bad = false := by
  intro n
  induction n with
  | zero => intro s acc h h2; rw [List.eq_nil_of_length_eq_zero (l := s) (by omega)] at h2; simp [rTextGo] at h2
  | succ n ih =>
    intro s acc hl h
    match s with
    | [] => simp [rTextGo] at h
    | [_] => simp [rTextGo] at h
    | x :: y :: t =>
      rw [rTextGo] at h
      split at h
      · split at h
        · exact ih _ _ (by simp at hl; omega) h
        · split at h
          · exact h
          · simp at h
      · exact ih _ _ (by simp at hl ⊢; omega) h
theorem rText_flag {s : List UInt8} {bad : Bool} (h : (rText s bad).2.2 = false) : bad = false := rTextGo_flag bad _ s [] (Nat.le_refl _) h
theorem rInt_back' {s : List UInt8} {bad : Bool} (h : (rInt s bad).2.2 = false) : s = encInt (rInt s bad).1 ++ (rInt s bad).2.1 := by
  obtain rfl := rInt_flag h; exact rInt_back h
theorem rText_back' {s : List UInt8} {bad : Bool} (h : (rText s bad).2.2 = false) : s = encText (rText s bad).1 ++ (rText s bad).2.1 := by
  obtain rfl := rText_flag h; exact rText_back h
theorem readAll_back {s : List UInt8} (h : (readAll s).2.2 = false) : s = coreS (readAll s).1 ++ encText (readAll s).1.tag ++ (readAll s).2.1 := by
  unfold readAll at *
  dsimp only at *
  have h5 := rText_back' h
  have f4 := rText_flag h
  have h4 := rInt_back' f4
  have f3 := rInt_flag f4
  have h3 := rInt_back' f3
  have f2 := rInt_flag f3
  have h2 := rInt_back' f2
  have f1 := rInt_flag f2
  have h1 := rInt_back' f1
  conv => lhs; rw [h1, h2, h3, h4, h5]
  simp [coreS]
theorem readS_cases (s : List UInt8) : ((readS s).2 = true ∧ (readS s).1.ok = true ∧ bytesS (readS s).1 = s) ∨ readS s = (zeroGr, false) := by
  by_cases h : ((!(readAll s).2.2 && (readAll s).2.1.isEmpty) && (readAll s).1.ok) = true
  · left
    have e : readS s = ((readAll s).1, true) := by rw [readS, if_pos h]
    simp only [Bool.and_eq_true, Bool.not_eq_true', List.isEmpty_iff] at h
    rw [e]
    refine ⟨rfl, h.2, ?_⟩
    have hb := readAll_back h.1.1
    rw [h.1.2, List.append_nil] at hb
    rw [bytesS, if_pos h.2]; exact hb.symm
  · right; rw [readS, if_neg h]
theorem seal_wf {s : List UInt8} {x : Gr} (h : x.wf) : (sealS s x).wf := h
theorem seal_seal (s : List UInt8) (x : Gr) : sealS s (sealS s x) = sealS s x := rfl
theorem seal_ok (s : List UInt8) (x : Gr) : (sealS s x).ok = x.inB := by
  have : (sealS s x).inB = x.inB := rfl
  rw [Gr.ok, this]
  have h2 : (sealS s x).tag.length = 8 := tagS_len s x
  rw [h2]; simp
theorem gen_seal (s : List UInt8) (x : Gr) : genS s (sealS s x) = x.inB := by
  rw [genS, seal_seal, seal_ok]; simp
end Go.Proofs.YtibhihobpehpbaaDoor
