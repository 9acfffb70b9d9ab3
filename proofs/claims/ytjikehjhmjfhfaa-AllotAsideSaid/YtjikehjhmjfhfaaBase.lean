/- Plain predicates on slices of integers in memory, and how they are carried from world to world. -/
import Derived.Test.YtjikehjhmjfhfaaRows
import Derived.WalkKit
import Derived.WalkSpells
import Derived.WalkLawsBesides
import Derived.Lib.Hide
namespace Go.Proofs.Ytjikehjhmjfhfaa
open Go.RowKit

theorem ret_bool {a b : Bool} (h : a = b) : Ending.returned (.bool a) = .returned (.bool b) := by rw [h]
theorem ret_int {k : IntKind} {a b : Int} (h : a = b) : Ending.returned (.int k a) = .returned (.int k b) := by rw [h]

/-- the range of an int -/
def In64 (x : Int) : Prop := -9223372036854775808 ≤ x ∧ x ≤ 9223372036854775807

/-- the element number k, 0 behind the end -/
def nth (l : List Int) (k : Nat) : Int := l[k]?.getD 0
theorem nth_eq (l : List Int) (k : Nat) (h : k < l.length) : nth l k = l[k] := by simp [nth, h]

/-- a slice value reads as the integers l -/
def IntsAt (w : World) (v : Value) (l : List Int) : Prop :=
  ∃ oa cap, v = .slice oa l.length cap ∧ l.length ≤ 9223372036854775807 ∧ (∀ x ∈ l, In64 x) ∧
   (0 < l.length → ∃ b off, oa = some ⟨b, off, none⟩ ∧ b < w.heap.size ∧ ∀ k, k < l.length → w.cell? ⟨b, off + k, none⟩ = some (.int .i64 (nth l k)))

theorem IntsAt.below {w w' : World} {v : Value} {l : List Int} {B : Nat} (h : IntsAt w v l) (hb : Below B w w') (hB : w.heap.size ≤ B) : IntsAt w' v l := by
  obtain ⟨oa, cap, rfl, hm, hr, hc⟩ := h
  refine ⟨oa, cap, rfl, hm, hr, fun h0 => ?_⟩
  obtain ⟨b, off, rfl, hb1, hc1⟩ := hc h0
  refine ⟨b, off, rfl, Nat.lt_of_lt_of_le hb1 hb.size, fun k hk => ?_⟩
  rw [← hc1 k hk]
  exact hb.cell (p := ⟨b, off + k, none⟩) (Nat.lt_of_lt_of_le hb1 hB)

theorem IntsAt.nil (w : World) (oa : Option Addr) (cap : Nat) : IntsAt w (.slice oa 0 cap) [] :=
  ⟨oa, cap, rfl, by simp, by simp, by simp⟩

theorem getD_in {l : List Int} (h : ∀ x ∈ l, In64 x) (k : Nat) : In64 (nth l k) := by
  by_cases hk : k < l.length
  · rw [nth_eq l k hk]; exact h _ (List.getElem_mem hk)
  · rw [nth, List.getElem?_eq_none (by omega)]; simp [In64]

theorem take_snoc' {α : Type} (l : List α) (k : Nat) (h : k < l.length) : l.take (k + 1) = l.take k ++ [l[k]] := by
  rw [List.take_succ_eq_append_getElem h]

/-- an owned row of integers reads as them -/
theorem IntsAt.of_owned {w : World} {base : Nat} {e : TypeId} {v : Value} {l : List Int} (h : w.ownsRow base e 1 v l.length (l.map (.int .i64))) (hr : ∀ x ∈ l, In64 x)
    (hm : l.length ≤ 9223372036854775807) : IntsAt w v l := by
  have hlt := h.lt
  have h2 := h.2
  rcases h2 with ⟨rfl, hn⟩ | ⟨g, cap, cur, rfl, hb, hg, hnc, hcm, hcs, htake⟩
  · have hn' := List.eq_nil_of_length_eq_zero hn
    subst hn'
    exact IntsAt.nil w none 0
  · refine ⟨_, cap, rfl, hm, hr, fun h0 => ⟨g, 0, rfl, (Array.getElem?_eq_some_iff.1 hg).1, fun k hk => ?_⟩⟩
    have := h.cellAt (g := g) (cap := cap) k (by omega)
    rw [Nat.zero_add, this, nth_eq l k hk]
    simp [hk]

end Go.Proofs.Ytjikehjhmjfhfaa
