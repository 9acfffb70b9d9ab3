/- The plain functions of the layer: what a place reaches within a day. -/
namespace Go.Proofs.Ytjikehjhmjfhfaa

/-- a place: the one downstream, and the delay -/
structure Pl where
  down : Int
  delay : Int

/-- the loop of Reach, with fuel -/
def reachGo (pl : List Pl) : Nat → List Int → Int → List Int
  | 0, out, _ => out
  | f + 1, out, p =>
    if h : 0 ≤ p ∧ p.toNat < pl.length then
      if out.any (fun x => x == p) then out
      else if 24 ≤ (pl[p.toNat]'h.2).delay then out ++ [p] else reachGo pl f (out ++ [p]) (pl[p.toNat]'h.2).down
    else out
def reach (pl : List Pl) (p : Int) : List Int := reachGo pl (pl.length + 1) [] p

/-- different numbers of places -/
def Ways (n : Nat) (l : List Int) : Prop := l.Nodup ∧ ∀ x ∈ l, 0 ≤ x ∧ x < n

theorem Ways.le {n : Nat} : ∀ {l : List Int}, Ways n l → l.length ≤ n := by
  induction n with
  | zero =>
    intro l h
    cases l with
    | nil => simp
    | cons x l => have := h.2 x (by simp); omega
  | succ n ih =>
    intro l h
    have h1 : Ways n (l.erase (n : Int)) := by
      refine ⟨h.1.erase _, fun x hx => ?_⟩
      have hm := List.mem_of_mem_erase hx
      have hne : x ≠ (n : Int) := by
        intro e; subst e
        exact (List.Nodup.not_mem_erase h.1) hx
      have := h.2 x hm
      omega
    have := ih h1
    by_cases hm : (n : Int) ∈ l
    · rw [List.length_erase_of_mem hm] at this; omega
    · rw [List.erase_of_not_mem hm] at this; omega

theorem Ways.snoc {n : Nat} {l : List Int} {p : Int} (h : Ways n l) (h0 : 0 ≤ p) (h1 : p < n) (hn : l.any (fun x => x == p) = false) : Ways n (l ++ [p]) := by
  refine ⟨?_, ?_⟩
  · rw [List.nodup_append]
    refine ⟨h.1, by simp, ?_⟩
    intro a ha b hb
    simp at hb
    subst hb
    intro e
    subst e
    simp only [List.any_eq_false] at hn
    exact hn a ha (by simp)
  · intro x hx
    simp at hx
    rcases hx with hx | rfl
    · exact h.2 x hx
    · omega

theorem Ways.nil (n : Nat) : Ways n [] := ⟨by simp, by simp⟩

/-- enough fuel: one step -/
theorem reachGo_go {pl : List Pl} {out : List Int} {p : Int} (h : Ways pl.length out) (h0 : 0 ≤ p) (h1 : p.toNat < pl.length) (hn : out.any (fun x => x == p) = false) (hd : ¬ 24 ≤ (pl[p.toNat]'h1).delay) :
    reachGo pl (pl.length + 1 - out.length) out p = reachGo pl (pl.length + 1 - (out ++ [p]).length) (out ++ [p]) (pl[p.toNat]'h1).down := by
  have := (h.snoc h0 (by omega) hn).le
  simp only [List.length_append, List.length_cons, List.length_nil] at this ⊢
  rw [show pl.length + 1 - out.length = (pl.length + 1 - (out.length + (0 + 1))) + 1 by omega]
  rw [reachGo, dif_pos ⟨h0, h1⟩, hn, if_neg (by simp), if_neg hd]
theorem reachGo_break {pl : List Pl} {out : List Int} {p : Int} (h : Ways pl.length out) (h0 : 0 ≤ p) (h1 : p.toNat < pl.length) (hn : out.any (fun x => x == p) = false) (hd : 24 ≤ (pl[p.toNat]'h1).delay) :
    reachGo pl (pl.length + 1 - out.length) out p = out ++ [p] := by
  have := h.le
  rw [show pl.length + 1 - out.length = (pl.length - out.length) + 1 by omega]
  rw [reachGo, dif_pos ⟨h0, h1⟩, hn, if_neg (by simp), if_pos hd]
theorem reachGo_has {pl : List Pl} {out : List Int} {p : Int} (h : Ways pl.length out) (hn : out.any (fun x => x == p) = true) :
    reachGo pl (pl.length + 1 - out.length) out p = out := by
  have := h.le
  rw [show pl.length + 1 - out.length = (pl.length - out.length) + 1 by omega]
  unfold reachGo
  simp [hn]
theorem reachGo_out {pl : List Pl} {out : List Int} {p : Int} (h : Ways pl.length out) (hn : ¬ (0 ≤ p ∧ p.toNat < pl.length)) :
    reachGo pl (pl.length + 1 - out.length) out p = out := by
  have := h.le
  rw [show pl.length + 1 - out.length = (pl.length - out.length) + 1 by omega]
  rw [reachGo, dif_neg hn]

end Go.Proofs.Ytjikehjhmjfhfaa
