/- How a slice of uint16s reads. -/
import Derived.Test.YtfpobogmlhdigaaDoorW16
import Derived.Test.YtfpobogmlhdigaaDoorOpen
set_option linter.unusedSimpArgs false
set_option linter.unusedVariables false
namespace Go.Proofs.YtfpobogmlhdigaaDoor
open Go.ChangeShapes Go.WideShapes Go.ChangeAt Go.RowKit Go.Deep

theorem open_u16sAt {H : Type} {enc : TypeId × Value → H} {P : Program} {W : World} {t e : TypeId} {v : Value} {d : DataW H} {ps : List MemPlace} (ht : P.underlying t = some (.slice e)) (he : P.underlying e = some (.int .u16)) (hc : P.cellsOf e = 1)
    (hv : ∃ a len cap, v = .slice a len cap) (h : DataW.Trod enc P W 0 (fun _ => true) true t v d ps) : ∃ n, U16sAt W v n := by
  obtain ⟨fuel, hf⟩ := h
  obtain ⟨a, len, cap, rfl⟩ := hv
  rcases open_slice1 ht hc hf with ⟨hcs, _⟩ | ⟨x, l, c, m, n, V, D, Pl, hcs, _, hl, hm, hmm, _, hx⟩
  · simp [Value.cells] at hcs
    obtain ⟨rfl, rfl, rfl⟩ := hcs
    exact ⟨0, none, 0, rfl, by simp, by simp⟩
  · simp [Value.cells] at hcs
    obtain ⟨rfl, rfl, rfl⟩ := hcs
    simp only [if_true] at hmm
    subst hmm
    have hex : ∀ k, k < len → ∃ z : Int, 0 ≤ z ∧ z ≤ 65535 ∧ W.cell? (x.add k) = some (.int .u16 z) := by
      intro k hk
      obtain ⟨h1, h2⟩ := hx k (by omega)
      obtain ⟨z, hs, _, hw⟩ := DataW.trod_int he h2
      simp only [List.cons.injEq, and_true] at hs
      have hz : 0 ≤ z ∧ z ≤ 65535 := by simpa [Lit.wf, IntKind.min, IntKind.max, IntKind.signed, IntKind.bits] using hw
      exact ⟨z, hz.1, hz.2, by rw [h1, hs]⟩
    refine ⟨len, some x, _, rfl, by unfold maxLen at hm; omega, fun h0 => ?_⟩
    obtain ⟨z0, _, _, hc0⟩ := hex 0 h0
    have hspot := World.cell?_spot hc0
    obtain ⟨b, off, spot⟩ := x
    simp [Addr.add] at hspot
    subst hspot
    refine ⟨b, off, rfl, ?_, fun k hk => ?_⟩
    · have := World.block_lt_of_cell? W _ hc0
      simpa [Addr.add] using this
    · obtain ⟨z, a, b, h1⟩ := hex k hk
      rw [Addr.add_lit] at h1
      exact ⟨z, a, b, h1⟩
end Go.Proofs.YtfpobogmlhdigaaDoor
