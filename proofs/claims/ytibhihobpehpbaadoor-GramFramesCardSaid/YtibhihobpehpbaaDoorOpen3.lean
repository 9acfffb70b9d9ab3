/- A slice of telegrams as an argument. -/
import Derived.Test.YtibhihobpehpbaaDoorOpen2
import Derived.Test.YtibhihobpehpbaaDoorF10
set_option linter.unusedSimpArgs false
set_option linter.unusedVariables false
namespace Go.Proofs.YtibhihobpehpbaaDoor
open Go.ChangeShapes Go.WideShapes Go.ChangeAt Go.RowKit Go.Deep

section
variable {H : Type} {enc : TypeId × Value → H} {W : World} {v : Value} {d : DataW H} {ps : List MemPlace}
theorem choose_each {α : Type} [Inhabited α] {n : Nat} {p : Nat → α → Prop} (h : ∀ k, k < n → ∃ a, p k a) : ∃ f : Nat → α, ∀ k, k < n → p k (f k) := by
  refine ⟨fun k => if hk : k < n then (h k hk).choose else default, fun k hk => ?_⟩
  simp only [hk, dif_pos]
  exact (h k hk).choose_spec
theorem open_grs (hv : ∃ a len cap, v = .slice a len cap) (h : DataW.Trod enc Tryd.prog W 0 (fun _ => true) true 47 v d ps) : ∃ l, GrsAt W v l := by
  obtain ⟨oa, len, cap, rfl, hl, hm, hrow⟩ := open_rows Tryd.underlying47 Tryd.underlying23 (by rw [cells23]; omega) hv h
  have hex : ∀ k, k < len → ∃ r : Gr, r.wf ∧ (∀ b off, oa = some ⟨b, off, none⟩ → GrO W b (off + k * 5) r) := by
    intro k hk
    obtain ⟨b, off, rfl, hb, hr⟩ := hrow (by omega)
    obtain ⟨cs, hcl, hce, hf⟩ := hr k hk
    rw [cells23] at hcl hce
    obtain ⟨n0, y0, g0⟩ := hf 0 _ rfl
    obtain ⟨n1, y1, g1⟩ := hf 1 _ rfl
    obtain ⟨n2, y2, g2⟩ := hf 2 _ rfl
    obtain ⟨n3, y3, g3⟩ := hf 3 _ rfl
    obtain ⟨n4, y4, g4⟩ := hf 4 _ rfl
    obtain ⟨z0, c0, w0⟩ := int_cell Tryd.underlying3 cells3 g0
    obtain ⟨z1, c1, w1⟩ := int_cell Tryd.underlying3 cells3 g1
    obtain ⟨z2, c2, w2⟩ := int_cell Tryd.underlying3 cells3 g2
    obtain ⟨z3, c3, w3⟩ := int_cell Tryd.underlying3 cells3 g3
    obtain ⟨s, c4, w4⟩ := str_cell Tryd.underlying9 cells9 g4
    refine ⟨⟨z0, z1, z2, z3, s.data.toList⟩, ⟨wf_In64 w0, wf_In64 w1, wf_In64 w2, wf_In64 w3⟩, ?_⟩
    intro b' off' he
    simp only [Option.some.injEq, Addr.mk.injEq, and_true] at he
    obtain ⟨rfl, rfl⟩ := he
    have e : (⟨s.data.toList.toArray⟩ : ByteArray) = s := by apply ByteArray.ext; simp
    refine ⟨hce 0 _ c0, hce 1 _ c1, hce 2 _ c2, hce 3 _ c3, ?_⟩
    rw [e]; exact hce 4 _ c4
  haveI : Inhabited Gr := ⟨⟨0, 0, 0, 0, []⟩⟩
  obtain ⟨f, hf⟩ := choose_each hex
  have hlen : ((List.range len).map f).length = len := by simp
  refine ⟨(List.range len).map f, oa, cap, by rw [hlen], by rw [hlen]; unfold maxLen at hm; omega, ?_, fun h0 => ?_⟩
  · intro r hr
    simp only [List.mem_map, List.mem_range] at hr
    obtain ⟨k, hk, rfl⟩ := hr
    exact (hf k hk).1
  · rw [hlen] at h0
    obtain ⟨b, off, rfl, hb, -⟩ := hrow h0
    refine ⟨b, off, rfl, hb, fun k hk => ?_⟩
    simp only [List.getElem_map, List.getElem_range]
    exact (hf k (by simpa using hk)).2 b off rfl
end
end Go.Proofs.YtibhihobpehpbaaDoor
