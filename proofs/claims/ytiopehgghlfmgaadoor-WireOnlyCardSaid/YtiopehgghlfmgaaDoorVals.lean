/- How a slice of values reads. -/
import Derived.Test.YtiopehgghlfmgaaDoorW13
import Derived.Test.YtiopehgghlfmgaaDoorOpen
namespace Go.Proofs.YtiopehgghlfmgaaDoor
open Go.ChangeShapes Go.WideShapes Go.ChangeAt Go.RowKit Go.Deep

theorem cells28 : Tryd.prog.cellsOf 28 = 5 := by kernel_rfl
theorem cells3 : Tryd.prog.cellsOf 3 = 1 := by kernel_rfl
theorem cells9 : Tryd.prog.cellsOf 9 = 1 := by kernel_rfl
theorem cells25 : Tryd.prog.cellsOf 25 = 1 := by kernel_rfl
theorem cells26 : Tryd.prog.cellsOf 26 = 1 := by kernel_rfl

section
variable {H : Type} {enc : TypeId × Value → H} {W : World} {v : Value} {d : DataW H} {ps : List MemPlace}

theorem open_vals (hv : ∃ a len cap, v = .slice a len cap) (h : DataW.Trod enc Tryd.prog W 0 (fun _ => true) true 22 v d ps) : ∃ l, ValsAt W v l := by
  obtain ⟨oa, len, cap, rfl, hl, hm, hrow⟩ := open_rows Tryd.underlying22 Tryd.underlying28 (by rw [cells28]; omega) hv h
  have hex : ∀ k, k < len → ∃ r : Val, ∀ b off, oa = some ⟨b, off, none⟩ → ValCells W b (off + k * 5) r := by
    intro k hk
    obtain ⟨b, off, rfl, hb, hr⟩ := hrow (by omega)
    obtain ⟨cs, hcl, hce, hf⟩ := hr k hk
    rw [cells28] at hcl hce
    obtain ⟨n0, y0, g0⟩ := hf 0 _ rfl
    obtain ⟨n1, y1, g1⟩ := hf 1 _ rfl
    obtain ⟨n2, y2, g2⟩ := hf 2 _ rfl
    obtain ⟨n3, y3, g3⟩ := hf 3 _ rfl
    obtain ⟨n4, y4, g4⟩ := hf 4 _ rfl
    obtain ⟨z0, c0, w0⟩ := int_cell Tryd.underlying3 cells3 g0
    obtain ⟨z1, c1, w1⟩ := int_cell Tryd.underlying3 cells3 g1
    obtain ⟨s2, c2, w2⟩ := str_cell Tryd.underlying9 cells9 g2
    obtain ⟨a3, l3, p3, c3, t3⟩ := slice_cell Tryd.underlying25 cells25 g3
    obtain ⟨a4, l4, p4, c4, t4⟩ := slice_cell Tryd.underlying26 cells26 g4
    obtain ⟨il, hil⟩ := open_intsAt Tryd.underlying25 Tryd.underlying3 cells3 ⟨_, _, _, rfl⟩ t3
    obtain ⟨sl, hsl⟩ := open_strsAt Tryd.underlying26 Tryd.underlying9 cells9 ⟨_, _, _, rfl⟩ t4
    refine ⟨⟨z0, z1, s2, il, sl⟩, ?_⟩
    intro b' off' he
    simp only [Option.some.injEq, Addr.mk.injEq, and_true] at he
    obtain ⟨rfl, rfl⟩ := he
    exact ⟨_, _, hce 0 _ c0, hce 1 _ c1, hce 2 _ c2, hce 3 _ c3, hce 4 _ c4, hil, hsl, wf_In64 w0, wf_In64 w1, by unfold maxLen at w2; simp only; omega⟩
  haveI : Inhabited Val := ⟨⟨0, 0, ⟨#[]⟩, [], []⟩⟩
  obtain ⟨f, hf⟩ := choose_lt hex
  have hlen : ((List.range len).map f).length = len := by simp
  refine ⟨(List.range len).map f, oa, cap, by rw [hlen], by rw [hlen]; unfold maxLen at hm; omega, fun h0 => ?_⟩
  rw [hlen] at h0
  obtain ⟨b, off, rfl, hb, -⟩ := hrow h0
  refine ⟨b, off, rfl, hb, fun k hk => ?_⟩
  simp only [List.getElem_map, List.getElem_range]
  exact hf k (by simpa using hk) b off rfl
end
end Go.Proofs.YtiopehgghlfmgaaDoor
