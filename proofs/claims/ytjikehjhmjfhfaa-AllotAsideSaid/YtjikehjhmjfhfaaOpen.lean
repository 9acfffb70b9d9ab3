/- How the arguments' readings give what the walks ask: slices of structs, structs by value. -/
import Derived.Test.YtjikehjhmjfhfaaW14
import Derived.ProofKit
import Derived.OpenShut
import Derived.ChangeOld
import Derived.Deep.Slices
namespace Go.Proofs.Ytjikehjhmjfhfaa
open Go.ChangeShapes Go.WideShapes Go.ChangeAt Go.RowKit Go.Deep

section
variable {H : Type} {enc : TypeId × Value → H} {P : Program} {W : World}

theorem cells_each {w : World} {base : Nat} {a : Addr} {n : Nat} {cs : List Value} (h : w.cells? base a n = some cs) : cs.length = n ∧ ∀ j u, cs[j]? = some u → w.cell? (a.add j) = some u := by
  obtain ⟨_, h1, h2⟩ := World.cells?_some h
  exact ⟨h1, fun j u hu => by rw [h2 j (by rw [← h1]; exact (List.getElem?_eq_some_iff.1 hu).1), hu]⟩

/-- a slice of structs, opened -/
theorem open_rows {t e : TypeId} {fs : Array Field} {v : Value} {d : DataW H} {ps : List MemPlace} (ht : P.underlying t = some (.slice e)) (he : P.underlying e = some (.struct fs)) (hpos : 0 < P.cellsOf e)
    (hv : ∃ a len cap, v = .slice a len cap) (h : DataW.Trod enc P W 0 (fun _ => true) true t v d ps) :
    ∃ oa len cap, v = .slice oa len cap ∧ len ≤ cap ∧ cap ≤ maxLen ∧ (0 < len → ∃ b off, oa = some ⟨b, off, none⟩ ∧ b < W.heap.size ∧ ∀ k, k < len → ∃ cs : List Value, cs.length = P.cellsOf e ∧
      (∀ j u, cs[j]? = some u → W.cell? ⟨b, off + k * P.cellsOf e + j, none⟩ = some u) ∧
      ∀ (i : Nat) (f : Field), fs[i]? = some f → ∃ n x, DataW.trod enc P W 0 (fun _ => true) true n f.type ((cs.drop f.offset).take (P.cellsOf f.type)) = some x) := by
  obtain ⟨fuel, hf⟩ := h
  obtain ⟨a, len, cap, rfl⟩ := hv
  rcases open_slice ht hf with ⟨hcs, _⟩ | ⟨x, len', cap', m, n, D, Pl, hcs, _, hl, hm, hmm, _, hx⟩
  · simp [Value.cells] at hcs
    obtain ⟨rfl, rfl, rfl⟩ := hcs
    exact ⟨none, 0, 0, rfl, by omega, by unfold maxLen; omega, by omega⟩
  · simp [Value.cells] at hcs
    obtain ⟨rfl, rfl, rfl⟩ := hcs
    simp only [if_true] at hmm
    subst hmm
    refine ⟨some x, _, _, rfl, hl, hm, fun h0 => ?_⟩
    have hspot : x.spot = none := by
      obtain ⟨cs', h1, _⟩ := hx 0 (by omega)
      obtain ⟨hlen, hc⟩ := cells_each h1
      obtain ⟨u, hu⟩ : ∃ u, cs'[0]? = some u := ⟨cs'[0]'(by omega), List.getElem?_eq_getElem (by omega)⟩
      have := World.cell?_spot (hc 0 u hu)
      simpa [Addr.add] using this
    obtain ⟨b, off, spot⟩ := x
    simp only at hspot
    subst hspot
    refine ⟨b, off, rfl, ?_, fun k hk => ?_⟩
    · obtain ⟨cs', h1, _⟩ := hx 0 (by omega)
      have := World.cells?_block h1 hpos
      simpa [Addr.add] using this
    · obtain ⟨cs', h1, h2⟩ := hx k (by omega)
      obtain ⟨hlen, hc⟩ := cells_each h1
      refine ⟨cs', hlen, fun j u hu => ?_, ?_⟩
      · have := hc j u hu
        rw [add_add, Addr.add_lit] at this
        rw [Nat.add_assoc]
        exact this
      · obtain ⟨xs, n', _, _, _, hxs, hfld⟩ := DataW.trod_struct he h2
        intro i f hfi
        have hi : i < xs.length := by rw [hxs]; exact (Array.getElem?_eq_some_iff.1 hfi).1
        exact ⟨n', xs[i], by rw [hfld i f hfi, List.getElem?_eq_getElem hi]⟩

/-- a field that is an int, out of a struct's cells -/
theorem int_cell {t : TypeId} {k : IntKind} {cs : List Value} {off n : Nat} {x : DataW H × List MemPlace} (ht : P.underlying t = some (.int k)) (hc : P.cellsOf t = 1)
    (h : DataW.trod enc P W 0 (fun _ => true) true n t ((cs.drop off).take (P.cellsOf t)) = some x) : ∃ z, cs[off]? = some (.int k z) ∧ (Lit.int k z).wf = true := by
  obtain ⟨z, hz, _, hw⟩ := DataW.trod_int ht h
  rw [hc] at hz
  refine ⟨z, ?_, hw⟩
  have := congrArg (fun l : List Value => l[0]?) hz
  simpa using this

theorem wf_In64 {z : Int} (h : (Lit.int .i64 z).wf = true) : In64 z := by
  simpa [Lit.wf, IntKind.min, IntKind.max, IntKind.signed, IntKind.bits, In64] using h

/-- a slice of ints -/
theorem open_intsAt {t e : TypeId} {v : Value} {d : DataW H} {ps : List MemPlace} (ht : P.underlying t = some (.slice e)) (he : P.underlying e = some (.int .i64)) (hc : P.cellsOf e = 1)
    (hv : ∃ a len cap, v = .slice a len cap) (h : DataW.Trod enc P W 0 (fun _ => true) true t v d ps) : ∃ l, IntsAt W v l := by
  obtain ⟨fuel, hf⟩ := h
  obtain ⟨a, len, cap, rfl⟩ := hv
  rcases open_ints ht he hc hf with ⟨hcs, _⟩ | ⟨x, l, c, zs, hcs, _, hl, hm, hz, _, hcell, hwz⟩
  · simp [Value.cells] at hcs
    obtain ⟨rfl, rfl, rfl⟩ := hcs
    exact ⟨[], IntsAt.nil _ _ _⟩
  · simp [Value.cells] at hcs
    obtain ⟨rfl, rfl, rfl⟩ := hcs
    simp at hz
    have hlen : (zs.take len).length = len := by rw [List.length_take]; omega
    refine ⟨zs.take len, some x, cap, by rw [hlen], by rw [hlen]; unfold maxLen at hm; omega, fun y hy => wf_In64 (hwz y (List.mem_of_mem_take hy)), fun h0 => ?_⟩
    rw [hlen] at h0
    have hc0 := hcell 0 (by omega)
    have hspot := World.cell?_spot hc0
    obtain ⟨b, off, spot⟩ := x
    simp [Addr.add] at hspot
    subst hspot
    refine ⟨b, off, rfl, ?_, fun k hk => ?_⟩
    · have := World.block_lt_of_cell? W _ hc0
      simpa [Addr.add] using this
    · have h1 := hcell k (by omega)
      rw [Addr.add_lit] at h1
      rw [h1, nth, List.getElem?_take, if_pos (by omega)]
      simp
end

theorem cells45 : Try.prog.cellsOf 45 = 9 := by kernel_rfl
theorem cells47 : Try.prog.cellsOf 47 = 2 := by kernel_rfl
theorem cells58 : Try.prog.cellsOf 58 = 12 := by kernel_rfl
theorem cells31 : Try.prog.cellsOf 31 = 11 := by kernel_rfl
theorem cells3 : Try.prog.cellsOf 3 = 1 := by kernel_rfl
theorem cells23 : Try.prog.cellsOf 23 = 1 := by kernel_rfl

section
variable {H : Type} {enc : TypeId × Value → H} {W : World} {v : Value} {d : DataW H} {ps : List MemPlace}

theorem open_rights (hv : ∃ a len cap, v = .slice a len cap) (h : DataW.Trod enc Try.prog W 0 (fun _ => true) true 32 v d ps) : ∃ rs, RightsAt W v rs := by
  obtain ⟨oa, len, cap, rfl, hl, hm, hrow⟩ := open_rows Try.underlying32 Try.underlying45 (by rw [cells45]; omega) hv h
  have hex : ∀ k, k < len → ∃ r : Rt, r.in64 ∧ (∀ b off, oa = some ⟨b, off, none⟩ → ∀ j u, r.cells[j]? = some u → W.cell? ⟨b, off + k * 9 + j, none⟩ = some u) := by
    intro k hk
    obtain ⟨b, off, rfl, hb, hr⟩ := hrow (by omega)
    obtain ⟨cs, hcl, hce, hf⟩ := hr k hk
    rw [cells45] at hcl hce
    obtain ⟨n0, y0, g0⟩ := hf 0 _ rfl
    obtain ⟨n1, y1, g1⟩ := hf 1 _ rfl
    obtain ⟨n2, y2, g2⟩ := hf 2 _ rfl
    obtain ⟨n3, y3, g3⟩ := hf 3 _ rfl
    obtain ⟨n4, y4, g4⟩ := hf 4 _ rfl
    obtain ⟨n5, y5, g5⟩ := hf 5 _ rfl
    obtain ⟨n6, y6, g6⟩ := hf 6 _ rfl
    obtain ⟨n7, y7, g7⟩ := hf 7 _ rfl
    obtain ⟨n8, y8, g8⟩ := hf 8 _ rfl
    obtain ⟨z0, c0, w0⟩ := int_cell Try.underlying3 cells3 g0
    obtain ⟨z1, c1, w1⟩ := int_cell Try.underlying3 cells3 g1
    obtain ⟨z2, c2, w2⟩ := int_cell Try.underlying3 cells3 g2
    obtain ⟨z3, c3, w3⟩ := int_cell Try.underlying3 cells3 g3
    obtain ⟨z4, c4, w4⟩ := int_cell Try.underlying3 cells3 g4
    obtain ⟨z5, c5, w5⟩ := int_cell Try.underlying3 cells3 g5
    obtain ⟨z6, c6, w6⟩ := int_cell Try.underlying3 cells3 g6
    obtain ⟨z7, c7, w7⟩ := int_cell Try.underlying3 cells3 g7
    obtain ⟨z8, c8, w8⟩ := int_cell Try.underlying3 cells3 g8
    refine ⟨⟨z0, z1, z2, z3, z4, z5, z6, z7, z8⟩, ⟨wf_In64 w0, wf_In64 w1, wf_In64 w2, wf_In64 w3, wf_In64 w4, wf_In64 w5, wf_In64 w6, wf_In64 w7, wf_In64 w8⟩, ?_⟩
    intro b' off' he j u hu
    simp only [Option.some.injEq, Addr.mk.injEq, and_true] at he
    obtain ⟨rfl, rfl⟩ := he
    refine hce j u ?_
    have hj : j < 9 := (List.getElem?_eq_some_iff.1 hu).1
    rw [← hu]
    have hj9 : j = 0 ∨ j = 1 ∨ j = 2 ∨ j = 3 ∨ j = 4 ∨ j = 5 ∨ j = 6 ∨ j = 7 ∨ j = 8 := by omega
    rcases hj9 with rfl | rfl | rfl | rfl | rfl | rfl | rfl | rfl | rfl <;> first | exact c0 | exact c1 | exact c2 | exact c3 | exact c4 | exact c5 | exact c6 | exact c7 | exact c8
  have hex' : ∀ k, k < len → ∃ r : Rt, r.in64 ∧ (∀ b off, oa = some ⟨b, off, none⟩ → ∀ j u, r.cells[j]? = some u → W.cell? ⟨b, off + k * 9 + j, none⟩ = some u) := hex
  haveI : Inhabited Rt := ⟨⟨0, 0, 0, 0, 0, 0, 0, 0, 0⟩⟩
  obtain ⟨f, hf⟩ := choose_lt hex'
  have hlen : ((List.range len).map f).length = len := by simp
  refine ⟨(List.range len).map f, oa, cap, by rw [hlen], by rw [hlen]; unfold maxLen at hm; omega, ?_, fun h0 => ?_⟩
  · intro r hr
    simp only [List.mem_map, List.mem_range] at hr
    obtain ⟨k, hk, rfl⟩ := hr
    exact (hf k hk).1
  · rw [hlen] at h0
    obtain ⟨b, off, rfl, hb, -⟩ := hrow h0
    refine ⟨b, off, rfl, hb, fun k hk j u hu => ?_⟩
    simp only [List.getElem_map, List.getElem_range] at hu
    exact (hf k (by simpa using hk)).2 b off rfl j u hu

theorem open_grants (hv : ∃ a len cap, v = .slice a len cap) (h : DataW.Trod enc Try.prog W 0 (fun _ => true) true 33 v d ps) : ∃ gs, GrantsAt W v gs := by
  obtain ⟨oa, len, cap, rfl, hl, hm, hrow⟩ := open_rows Try.underlying33 Try.underlying47 (by rw [cells47]; omega) hv h
  have hex : ∀ k, k < len → ∃ r : Int × Int, (In64 r.1 ∧ In64 r.2) ∧ (∀ b off, oa = some ⟨b, off, none⟩ → W.cell? ⟨b, off + k * 2, none⟩ = some (.int .i64 r.1) ∧ W.cell? ⟨b, off + k * 2 + 1, none⟩ = some (.int .i64 r.2)) := by
    intro k hk
    obtain ⟨b, off, rfl, hb, hr⟩ := hrow (by omega)
    obtain ⟨cs, hcl, hce, hf⟩ := hr k hk
    rw [cells47] at hcl hce
    obtain ⟨n0, y0, g0⟩ := hf 0 _ rfl
    obtain ⟨n1, y1, g1⟩ := hf 1 _ rfl
    obtain ⟨z0, c0, w0⟩ := int_cell Try.underlying3 cells3 g0
    obtain ⟨z1, c1, w1⟩ := int_cell Try.underlying3 cells3 g1
    refine ⟨(z0, z1), ⟨wf_In64 w0, wf_In64 w1⟩, ?_⟩
    intro b' off' he
    simp only [Option.some.injEq, Addr.mk.injEq, and_true] at he
    obtain ⟨rfl, rfl⟩ := he
    exact ⟨hce 0 _ c0, hce 1 _ c1⟩
  haveI : Inhabited (Int × Int) := ⟨(0, 0)⟩
  obtain ⟨f, hf⟩ := choose_lt hex
  have hlen : ((List.range len).map f).length = len := by simp
  refine ⟨(List.range len).map f, oa, cap, by rw [hlen], by rw [hlen]; unfold maxLen at hm; omega, ?_, fun h0 => ?_⟩
  · intro r hr
    simp only [List.mem_map, List.mem_range] at hr
    obtain ⟨k, hk, rfl⟩ := hr
    exact (hf k hk).1
  · rw [hlen] at h0
    obtain ⟨b, off, rfl, hb, -⟩ := hrow h0
    refine ⟨b, off, rfl, hb, fun k hk => ?_⟩
    simp only [List.getElem_map, List.getElem_range]
    exact (hf k (by simpa using hk)).2 b off rfl

theorem open_places (hv : ∃ a len cap, v = .slice a len cap) (h : DataW.Trod enc Try.prog W 0 (fun _ => true) true 23 v d ps) : ∃ oa cap, ∃ pl : List Pl, v = .slice oa pl.length cap ∧ pl.length ≤ 9223372036854775807 ∧ PlacesAt W oa pl := by
  obtain ⟨oa, len, cap, rfl, hl, hm, hrow⟩ := open_rows Try.underlying23 Try.underlying58 (by rw [cells58]; omega) hv h
  have hex : ∀ k, k < len → ∃ r : Pl, (In64 r.down ∧ In64 r.delay) ∧ (∀ b off, oa = some ⟨b, off, none⟩ → W.cell? ⟨b, off + k * 12 + 8, none⟩ = some (.int .i64 r.down) ∧ W.cell? ⟨b, off + k * 12 + 9, none⟩ = some (.int .i64 r.delay)) := by
    intro k hk
    obtain ⟨b, off, rfl, hb, hr⟩ := hrow (by omega)
    obtain ⟨cs, hcl, hce, hf⟩ := hr k hk
    rw [cells58] at hcl hce
    obtain ⟨n0, y0, g0⟩ := hf 8 _ rfl
    obtain ⟨n1, y1, g1⟩ := hf 9 _ rfl
    obtain ⟨z0, c0, w0⟩ := int_cell Try.underlying3 cells3 g0
    obtain ⟨z1, c1, w1⟩ := int_cell Try.underlying3 cells3 g1
    refine ⟨⟨z0, z1⟩, ⟨wf_In64 w0, wf_In64 w1⟩, ?_⟩
    intro b' off' he
    simp only [Option.some.injEq, Addr.mk.injEq, and_true] at he
    obtain ⟨rfl, rfl⟩ := he
    exact ⟨hce 8 _ c0, hce 9 _ c1⟩
  haveI : Inhabited Pl := ⟨⟨0, 0⟩⟩
  obtain ⟨f, hf⟩ := choose_lt hex
  have hlen : ((List.range len).map f).length = len := by simp
  refine ⟨oa, cap, (List.range len).map f, by rw [hlen], by rw [hlen]; unfold maxLen at hm; omega, ?_, fun h0 => ?_⟩
  · intro r hr
    simp only [List.mem_map, List.mem_range] at hr
    obtain ⟨k, hk, rfl⟩ := hr
    exact (hf k hk).1
  · rw [hlen] at h0
    obtain ⟨b, off, rfl, hb, -⟩ := hrow h0
    refine ⟨b, off, rfl, hb, fun k hk => ?_⟩
    simp only [List.getElem_map, List.getElem_range]
    exact (hf k (by simpa using hk)).2 b off rfl

theorem arr11 {α : Type} {cs : Array α} (h : cs.size = 11) : ∃ c0 c1 c2 c3 c4 c5 c6 c7 c8 c9 c10, cs = #[c0, c1, c2, c3, c4, c5, c6, c7, c8, c9, c10] := by
  obtain ⟨l⟩ := cs
  match l, h with
  | [c0, c1, c2, c3, c4, c5, c6, c7, c8, c9, c10], _ => exact ⟨c0, c1, c2, c3, c4, c5, c6, c7, c8, c9, c10, rfl⟩

theorem open_basin {base : Nat} (hv : Value.okWide Try.prog W .any base 31 v) (h : DataW.Trod enc Try.prog W 0 (fun _ => true) true 31 v d ps) : ∃ pl, BasinAt W v pl := by
  obtain ⟨cs, rfl, hsz⟩ := okWide_struct Try.underlying31 hv
  obtain ⟨x0, x1, x2, x3, x4, x5, x6, x7, x8, x9, x10, rfl⟩ := arr11 (hsz.trans cells31)
  obtain ⟨fuel, hf⟩ := h
  obtain ⟨xs, n', _, _, _, hxs, hfld⟩ := DataW.trod_struct Try.underlying31 hf
  have h3 : DataW.trod enc Try.prog W 0 (fun _ => true) true n' 23 (([x0, x1, x2, x3, x4, x5, x6, x7, x8, x9, x10].drop 3).take (Try.prog.cellsOf 23)) = xs[3]? := hfld 3 _ rfl
  have hx3 : 3 < xs.length := by rw [hxs]; decide
  rw [List.getElem?_eq_getElem hx3] at h3
  rw [cells23] at h3
  simp only [Value.cells, List.drop_succ_cons, List.drop_zero, List.take_succ_cons, List.take_zero] at h3
  have hsl : ∃ a len cap, x3 = .slice a len cap := by
    rcases open_slice Try.underlying23 h3 with ⟨hcs, _⟩ | ⟨x, len', cap', m, n, D, Pl, hcs, _⟩
    · simp at hcs; exact ⟨_, _, _, hcs⟩
    · simp at hcs; exact ⟨_, _, _, hcs⟩
  obtain ⟨a, len, c, rfl⟩ := hsl
  obtain ⟨oa, cap, pl, hv3, hm, hp⟩ := open_places ⟨a, len, c, rfl⟩ ⟨n', h3⟩
  obtain ⟨rfl, rfl, rfl⟩ := Value.slice.inj hv3
  exact ⟨pl, hm, x0, x1, x2, a, c, x4, x5, x6, x7, x8, x9, x10, rfl, hp⟩
end
end Go.Proofs.Ytjikehjhmjfhfaa
