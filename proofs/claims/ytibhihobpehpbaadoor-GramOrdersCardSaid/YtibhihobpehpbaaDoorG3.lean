/- Plain laws of gram: the order of the encodings. -/
import Derived.Test.YtibhihobpehpbaaDoorG2
set_option linter.unusedSimpArgs false
set_option linter.unusedVariables false
namespace Go.Proofs.YtibhihobpehpbaaDoor
open Go.RowKit

/-- the four numbers of a telegram -/
def numK (x : Gr) : Nat → Int
  | 0 => x.g
  | 1 => x.q
  | 2 => x.c
  | _ => x.v
theorem bytesS_eq {x : Gr} (h : x.ok = true) : bytesS x = encInt x.g ++ (encInt x.q ++ (encInt x.c ++ (encInt x.v ++ encText x.tag))) := by
  rw [bytesS, if_pos h]; simp [coreS]
theorem num_in64 {x : Gr} (h : x.wf) (i : Nat) : In64 (numK x i) := by
  match i with
  | 0 => exact h.1
  | 1 => exact h.2.1
  | 2 => exact h.2.2.1
  | n + 3 => exact h.2.2.2
theorem bytes_num_lt {x y : Gr} (hx : x.ok = true) (hy : y.ok = true) {i : Nat} (hi : i < 4) (he : ∀ j, j < i → numK x j = numK y j) (hlt : numK x i < numK y i) : Lt2 (bytesS x) (bytesS y) := by
  have wx := Gr.ok_wf hx
  have wy := Gr.ok_wf hy
  rw [bytesS_eq hx, bytesS_eq hy]
  match i, hi with
  | 0, _ => exact (encInt_lt wx.1 wy.1 hlt).suf _ _
  | 1, _ =>
    rw [show x.g = y.g from he 0 (by omega)]
    exact ((encInt_lt wx.2.1 wy.2.1 hlt).suf _ _).pre _
  | 2, _ =>
    rw [show x.g = y.g from he 0 (by omega), show x.q = y.q from he 1 (by omega)]
    exact (((encInt_lt wx.2.2.1 wy.2.2.1 hlt).suf _ _).pre _).pre _
  | 3, _ =>
    rw [show x.g = y.g from he 0 (by omega), show x.q = y.q from he 1 (by omega), show x.c = y.c from he 2 (by omega)]
    exact ((((encInt_lt wx.2.2.2 wy.2.2.2 hlt).suf _ _).pre _).pre _).pre _
theorem bytes_num {x y : Gr} (hx : x.ok = true) (hy : y.ok = true) {i : Nat} (hi : i < 4) (he : ∀ j, j < i → numK x j = numK y j) (hne : numK x i ≠ numK y i) :
    Op.bytesLess (bytesS x) (bytesS y) = decide (numK x i < numK y i) ∧ bytesS x ≠ bytesS y := by
  by_cases h : numK x i < numK y i
  · have := (bytes_num_lt hx hy hi he h).less
    exact ⟨by rw [this.1]; simp [h], this.2.2⟩
  · have := (bytes_num_lt hy hx hi (fun j hj => (he j hj).symm) (by omega)).less
    exact ⟨by rw [this.2.1]; simp [h], fun e => this.2.2 e.symm⟩
theorem less_total : ∀ (a b : List UInt8), Op.bytesLess a b = true ∨ a = b ∨ Op.bytesLess b a = true
  | [], [] => .inr (.inl rfl)
  | [], _ :: _ => .inl rfl
  | _ :: _, [] => .inr (.inr rfl)
  | x :: a, y :: b => by
    by_cases h : x = y
    · subst h
      rcases less_total a b with h | h | h
      · exact .inl (by simp [Op.bytesLess, h])
      · exact .inr (.inl (by rw [h]))
      · exact .inr (.inr (by simp [Op.bytesLess, h]))
    · have : x.toNat ≠ y.toNat := fun e => h (UInt8.toNat_inj.1 e)
      by_cases hl : x.toNat < y.toNat
      · exact .inl (by have : x < y := hl; simp [Op.bytesLess, this])
      · exact .inr (.inr (by have : y < x := by show y.toNat < x.toNat; omega
                             simp [Op.bytesLess, this]))
theorem less_irrefl : ∀ a : List UInt8, Op.bytesLess a a = false := by
  intro a
  induction a with
  | nil => rfl
  | cons x a ih => simp [Op.bytesLess, ih]
theorem bytes_tag {x y : Gr} (hx : x.ok = true) (hy : y.ok = true) (he : ∀ j, j < 4 → numK x j = numK y j) :
    Op.bytesLess (bytesS x) (bytesS y) = Op.bytesLess x.tag y.tag ∧ (decide (bytesS x = bytesS y) = decide (x = y)) := by
  have e0 : x.g = y.g := he 0 (by omega)
  have e1 : x.q = y.q := he 1 (by omega)
  have e2 : x.c = y.c := he 2 (by omega)
  have e3 : x.v = y.v := he 3 (by omega)
  have hb : ∀ s t : List UInt8, Op.bytesLess s t = true → Lt2 (encInt y.g ++ (encInt y.q ++ (encInt y.c ++ (encInt y.v ++ encText s)))) (encInt y.g ++ (encInt y.q ++ (encInt y.c ++ (encInt y.v ++ encText t)))) := fun s t h =>
    ((((encText_lt s t h).pre _).pre _).pre _).pre _
  have hxy : x = y ↔ x.tag = y.tag := by
    constructor
    · intro h; rw [h]
    · intro h
      obtain ⟨a0, a1, a2, a3, a4⟩ := x
      obtain ⟨b0, b1, b2, b3, b4⟩ := y
      simp only at e0 e1 e2 e3 h
      subst e0 e1 e2 e3 h; rfl
  rw [bytesS_eq hx, bytesS_eq hy, e0, e1, e2, e3]
  rcases less_total x.tag y.tag with h | h | h
  · have := (hb _ _ h).less
    refine ⟨by rw [this.1, h], ?_⟩
    rw [decide_eq_decide, hxy]
    exact ⟨fun e => absurd e this.2.2, fun e => by rw [e] at h; rw [less_irrefl] at h; cases h⟩
  · rw [h]
    refine ⟨by rw [less_irrefl, less_irrefl], ?_⟩
    rw [decide_eq_decide, hxy]; simp [h]
  · have := (hb _ _ h).less
    have hl := (Lt2.less (encText_lt _ _ h))
    refine ⟨?_, ?_⟩
    · rw [this.2.1]
      cases hc : Op.bytesLess x.tag y.tag
      · rfl
      · have h2 := (hb _ _ hc).less
        rw [h2.1] at this; cases this.2.1
    · rw [decide_eq_decide, hxy]
      exact ⟨fun e => absurd e.symm this.2.2, fun e => by rw [e] at h; rw [less_irrefl] at h; cases h⟩
end Go.Proofs.YtibhihobpehpbaaDoor
