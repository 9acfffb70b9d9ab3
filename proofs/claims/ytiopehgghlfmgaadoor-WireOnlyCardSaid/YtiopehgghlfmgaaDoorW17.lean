/- What the readers do to what is left; slices of bytes. -/
import Derived.Test.YtiopehgghlfmgaaDoorW13
set_option linter.unusedSimpArgs false
set_option linter.unusedVariables false
namespace Go.Proofs.YtiopehgghlfmgaaDoor
open Go.RowKit

/-- a failed reader has nothing left; never more is left than before -/
def Okk {α : Type} (s : List UInt8) (x : α × List UInt8 × Bool) : Prop := (x.2.2 = true → x.2.1 = []) ∧ x.2.1.length ≤ s.length

theorem ok_rInt (s : List UInt8) (bad : Bool) (hb : bad = true → s = []) : Okk s (rInt s bad) := by
  refine ⟨fun h => ?_, rInt_le s bad⟩
  cases bad
  · rw [rInt_bad s h]
  · rw [hb rfl]; rfl
theorem ok_rNum (s : List UInt8) (bad : Bool) (hb : bad = true → s = []) : Okk s (rNum s bad) := by
  unfold rNum
  split
  · exact ⟨fun _ => rfl, by simp⟩
  · exact ok_rInt s bad hb
theorem ok_rText (s : List UInt8) (bad : Bool) (hb : bad = true → s = []) : Okk s (rText s bad) := by
  refine ⟨fun h => ?_, rText_le s bad⟩
  cases bad
  · rw [rText_bad s h]
  · rw [hb rfl]; simp [rText, rTextGo]
theorem rList_ok {α : Type} {one : List UInt8 → α × List UInt8 × Bool} (hone : ∀ t, (one t).2.1.length ≤ t.length) (P : α → Prop) (hP : ∀ t, P (one t).1) :
    ∀ (f : Nat) (s : List UInt8) (acc : List α), (∀ x ∈ acc, P x) → ((rList one f s acc).2.2 = true → (rList one f s acc).2.1 = []) ∧ (rList one f s acc).2.1.length ≤ s.length ∧ (rList one f s acc).1.length ≤ acc.length + s.length ∧ ∀ x ∈ (rList one f s acc).1, P x
  | 0, s, acc, h => by simp [rList]
  | f + 1, [], acc, h => by simp [rList]
  | f + 1, x :: t, acc, h => by
    by_cases hx : x = 0
    · subst hx
      rw [rList_last]
      exact ⟨by simp, by simp, by simp, h⟩
    · by_cases hx1 : x = 1
      · subst hx1
        by_cases hb : (one t).2.2 = true
        · rw [rList_stop _ _ _ _ hb]; simp
        · have hb' : (one t).2.2 = false := by simpa using hb
          rw [rList_more _ _ _ _ hb']
          have hl := hone t
          obtain ⟨h1, h2, h3, h4⟩ := rList_ok hone P hP f (one t).2.1 (acc ++ [(one t).1]) (fun y hy => by
            rcases List.mem_append.1 hy with hy | hy
            · exact h y hy
            · simp at hy; subst hy; exact hP t)
          refine ⟨h1, by simp; omega, ?_, h4⟩
          simp at h3 ⊢; omega
      · rw [rList_fail _ _ _ _ _ hx hx1]; simp
theorem ok_rNums (s : List UInt8) (bad : Bool) : Okk s (rNums s bad) ∧ (rNums s bad).1.length ≤ s.length ∧ ∀ x ∈ (rNums s bad).1, In64 x := by
  unfold rNums rLists
  split
  · exact ⟨⟨fun _ => rfl, by simp⟩, by simp, by simp⟩
  · obtain ⟨h1, h2, h3, h4⟩ := rList_ok (one := fun t => rInt t false) (fun t => rInt_le t false) In64 (fun t => rInt_in64 t false) (s.length + 1) s [] (by simp)
    exact ⟨⟨h1, h2⟩, by simpa using h3, h4⟩
theorem ok_rTexts (s : List UInt8) (bad : Bool) : Okk s (rTexts s bad) ∧ (rTexts s bad).1.length ≤ s.length := by
  unfold rTexts rLists
  split
  · exact ⟨⟨fun _ => rfl, by simp⟩, by simp⟩
  · obtain ⟨h1, h2, h3, h4⟩ := rList_ok (one := fun t => rText t false) (fun t => rText_le t false) (fun _ => True) (fun t => trivial) (s.length + 1) s [] (by simp)
    exact ⟨⟨h1, h2⟩, by simpa using h3⟩
theorem rTexts_short (s : List UInt8) (bad : Bool) (hs : s.length ≤ 1000000) : ∀ x ∈ (rTexts s bad).1, x.length ≤ 1000000 := by
  unfold rTexts rLists
  split
  · simp
  · have : ∀ (f : Nat) (s : List UInt8) (acc : List (List UInt8)), s.length ≤ 1000000 → (∀ x ∈ acc, x.length ≤ 1000000) → ∀ x ∈ (rList (fun t => rText t false) f s acc).1, x.length ≤ 1000000 := by
      intro f
      induction f with
      | zero => intro s acc _ _; simp [rList]
      | succ f ih =>
        intro s acc hs h
        rcases s with _ | ⟨x, t⟩
        · simp [rList]
        · by_cases hx : x = 0
          · subst hx; rw [rList_last]; exact h
          · by_cases hx1 : x = 1
            · subst hx1
              simp at hs
              by_cases hb : (rText t false).2.2 = true
              · rw [rList_stop (fun t => rText t false) f t acc hb]; simp
              · have hb' : (rText t false).2.2 = false := by simpa using hb
                rw [rList_more (fun t => rText t false) f t acc hb']
                have h1 := rText_le t false
                have h2 := rText_short t false
                refine ih _ _ (by omega) (fun y hy => ?_)
                rcases List.mem_append.1 hy with hy | hy
                · exact h y hy
                · simp at hy; subst hy; omega
            · rw [rList_fail _ _ _ _ _ hx hx1]; simp
    exact this _ _ _ hs (by simp)

def bytesOf (l : List UInt8) : ByteArray := ⟨l.toArray⟩
theorem StrsAt.of_owned {w : World} {base : Nat} {e : TypeId} {v : Value} {l : List (List UInt8)} (h : w.ownsRow base e 1 v l.length (l.map strV)) (hr : ∀ x ∈ l, x.length ≤ 9223372036854775807)
    (hm : l.length ≤ 9223372036854775807) : StrsAt w v (l.map bytesOf) := by
  have hlt := h.lt
  have h2 := h.2
  rcases h2 with ⟨rfl, hn⟩ | ⟨g, cap, cur, rfl, hb, hg, hnc, hcm, hcs, htake⟩
  · have hn' := List.eq_nil_of_length_eq_zero hn
    subst hn'
    exact ⟨none, 0, rfl, by simp, by simp, by simp⟩
  · refine ⟨_, cap, by simp, by simpa using hm, ?_, fun h0 => ⟨g, 0, rfl, (Array.getElem?_eq_some_iff.1 hg).1, fun k hk => ?_⟩⟩
    · intro x hx
      simp only [List.mem_map] at hx
      obtain ⟨y, hy, rfl⟩ := hx
      have := hr y hy
      simpa [bytesOf, ByteArray.size] using this
    · simp only [List.length_map] at hk
      have := h.cellAt (g := g) (cap := cap) k (by omega)
      rw [Nat.zero_add, this]
      simp [hk, strV, bytesOf]

/-- a slice value reads as the bytes l -/
def U8sAt (w : World) (v : Value) (l : List UInt8) : Prop :=
  ∃ oa cap, v = .slice oa l.length cap ∧ l.length ≤ 9223372036854775807 ∧
   (0 < l.length → ∃ b off, oa = some ⟨b, off, none⟩ ∧ b < w.heap.size ∧ ∀ k (hk : k < l.length), w.cell? ⟨b, off + k, none⟩ = some (.int .u8 (l[k].toNat : Int)))
theorem U8sAt.below {w w' : World} {v : Value} {l : List UInt8} {B : Nat} (h : U8sAt w v l) (hb : Below B w w') (hB : w.heap.size ≤ B) : U8sAt w' v l := by
  obtain ⟨oa, cap, rfl, hm, hc⟩ := h
  refine ⟨oa, cap, rfl, hm, fun h0 => ?_⟩
  obtain ⟨b, off, rfl, hb1, hc1⟩ := hc h0
  refine ⟨b, off, rfl, Nat.lt_of_lt_of_le hb1 hb.size, fun k hk => ?_⟩
  rw [← hc1 k hk]
  exact hb.cell (p := ⟨b, off + k, none⟩) (Nat.lt_of_lt_of_le hb1 hB)
theorem U8sAt.at' {w : World} {oa : Option Addr} {n cap : Nat} {l : List UInt8} (h : U8sAt w (.slice oa n cap) l) {k : Nat} (hk : k < l.length) :
    n = l.length ∧ ∃ b off, oa = some ⟨b, off, none⟩ ∧ b < w.heap.size ∧ w.cell? ⟨b, off + k, none⟩ = some (.int .u8 (l[k].toNat : Int)) := by
  obtain ⟨oa', cap', hv, _, hc⟩ := h
  obtain ⟨rfl, rfl, rfl⟩ := Value.slice.inj hv
  obtain ⟨b, off, rfl, hb, hc⟩ := hc (by omega)
  exact ⟨rfl, b, off, rfl, hb, hc k hk⟩

theorem QAt.grown {w w' : World} {b c : Nat} {s : List UInt8} {bad : Bool} (h : QAt w b s bad) (hg : w.grownBy w' (some c)) (hne : b ≠ c) : QAt w' b s bad := by
  unfold QAt at *
  rw [hg.block b (Array.getElem?_eq_some_iff.1 h).1 (by intro e; simp at e; omega)]; exact h
theorem ReaderAt.grown {w w' : World} {b c : Nat} {s : List UInt8} {bad : Bool} (h : ReaderAt w b s bad) (hg : w.grownBy w' (some c)) (hne : b ≠ c) : ReaderAt w' b s bad := by
  unfold ReaderAt at *
  rw [hg.block b (Array.getElem?_eq_some_iff.1 h).1 (by intro e; simp at e; omega)]; exact h
end Go.Proofs.YtiopehgghlfmgaaDoor
