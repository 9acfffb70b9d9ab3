/- How a slice of bytes reads. -/
import Derived.Test.YtiopehgghlfmgaaDoorW17
import Derived.Test.YtiopehgghlfmgaaDoorVals
namespace Go.Proofs.YtiopehgghlfmgaaDoor
open Go.ChangeShapes Go.WideShapes Go.ChangeAt Go.RowKit Go.Deep

/-- a slice of bytes -/
theorem open_u8sAt {H : Type} {enc : TypeId × Value → H} {P : Program} {W : World} {t e : TypeId} {v : Value} {d : DataW H} {ps : List MemPlace} (ht : P.underlying t = some (.slice e)) (he : P.underlying e = some (.int .u8)) (hc : P.cellsOf e = 1)
    (hv : ∃ a len cap, v = .slice a len cap) (h : DataW.Trod enc P W 0 (fun _ => true) true t v d ps) : ∃ l, U8sAt W v l := by
  obtain ⟨fuel, hf⟩ := h
  obtain ⟨a, len, cap, rfl⟩ := hv
  rcases open_slice1 ht hc hf with ⟨hcs, _⟩ | ⟨x, l, c, m, n, V, D, Pl, hcs, _, hl, hm, hmm, _, hx⟩
  · simp [Value.cells] at hcs
    obtain ⟨rfl, rfl, rfl⟩ := hcs
    exact ⟨[], none, 0, rfl, by simp, by simp⟩
  · simp [Value.cells] at hcs
    obtain ⟨rfl, rfl, rfl⟩ := hcs
    simp only [if_true] at hmm
    subst hmm
    have hex : ∀ k, k < len → ∃ s : UInt8, W.cell? (x.add k) = some (.int .u8 (s.toNat : Int)) := by
      intro k hk
      obtain ⟨h1, h2⟩ := hx k (by omega)
      obtain ⟨z, hs, _, hw⟩ := DataW.trod_int he h2
      simp only [List.cons.injEq, and_true] at hs
      have hz : 0 ≤ z ∧ z ≤ 255 := by simpa [Lit.wf, IntKind.min, IntKind.max, IntKind.signed, IntKind.bits] using hw
      refine ⟨UInt8.ofNat z.toNat, ?_⟩
      rw [h1, hs]
      congr 2
      simp; omega
    haveI : Inhabited UInt8 := ⟨0⟩
    obtain ⟨f, hf'⟩ := choose_lt hex
    have hlen : ((List.range len).map f).length = len := by simp
    refine ⟨(List.range len).map f, some x, _, by rw [hlen], by rw [hlen]; unfold maxLen at hm; omega, fun h0 => ?_⟩
    rw [hlen] at h0
    have hc0 := hf' 0 h0
    have hspot := World.cell?_spot hc0
    obtain ⟨b, off, spot⟩ := x
    simp [Addr.add] at hspot
    subst hspot
    refine ⟨b, off, rfl, ?_, fun k hk => ?_⟩
    · have := World.block_lt_of_cell? W _ hc0
      simpa [Addr.add] using this
    · rw [hlen] at hk
      have h1 := hf' k hk
      rw [Addr.add_lit] at h1
      rw [h1]
      simp
end Go.Proofs.YtiopehgghlfmgaaDoor
