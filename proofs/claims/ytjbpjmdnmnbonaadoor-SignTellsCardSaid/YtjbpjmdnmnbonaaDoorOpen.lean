/- How the arguments' readings give what the walks ask. -/
import Derived.Test.YtjbpjmdnmnbonaaDoorBase
import Derived.ProofKit
import Derived.OpenShut
import Derived.ChangeOld
import Derived.Deep.Slices
import Derived.LaidMore
import Derived.Lay
import Derived.HandedShaped
import Derived.Handed
import Derived.Shelf.Vars
namespace Go.Proofs.YtjbpjmdnmnbonaaDoor
open Go.ChangeShapes Go.WideShapes Go.ChangeAt Go.RowKit Go.Deep

section
variable {H : Type} {enc : TypeId × Value → H} {P : Program} {W : World}

/-- the wrap with a condition on the first world, and that world's shape -/
theorem returnsInHanded_of_both {a : Assume} {C : Checked} {os : Os} {f : FuncId} {fn : Func} {s : ChangeSpec} {conds : List PathCond} {apart fresh handsOn again : Bool} {X : World → Array Value → Prop}
    (hX : ∀ (w w' : World) (args : Array Value), w.heap = w'.heap → X w args → X w' args)
    (own : ownKnob C.prog.godebug = none) (started : os.Started) (noInit : C.prog.inits.idxOf? f = none) (hfn : C.prog.funcs[f]? = some fn)
    (witness : ∃ (w : World) (tape : Tape) (i : Input), w.os = os ∧ (w.forCall tape i).Shaped C.prog ∧ i.vars = [] ∧ Input.okWide C.prog (w.forCall tape i) .any w.heap.size f i ∧
      ((s.pre enc C.prog fn conds apart (w.forCall tape i).memory i.args ∧ X (w.forCall tape i).memory i.args) ∧ sizedMet enc C.prog fn (OpenSpec.ofChange s) apart (w.forCall tape i).memory i.args) ∧ a.holds C.prog (lone (Frame.enter C.prog f i.args .normal) [] (w.forCall tape i)))
    (contract : ∀ (W : World) (base : Nat) (args : Array Value) (ds gs : List (DataW H)) (before : List MemPlace),
      (∀ (j : Nat) t v, fn.params[j]? = some t → args[j]? = some v → Value.okWide C.prog W .any base t v) →
      DataW.Whole enc C.prog fn.params.toList s.vars apart W args.toList ds gs before →
      conds.all (PathCond.test C.prog ⟨fn.params.toList, ds, s.plain.varTypes C.prog, gs⟩) = true →
      (DataW.weightsEach C.prog (fn.params.toList ++ s.plain.varTypes C.prog) (ds ++ gs)).all (· ≤ reachBytes) = true → X W args → W.ShapedOpen C.prog →
      Calls C.prog f args W fun e W' => ∃ v, e = .returned v ∧ s.post enc C.prog fn apart fresh handsOn again W args v W') :
    ReturnsInHanded a C os f .any (fun w args => (s.pre enc C.prog fn conds apart w args ∧ X w args) ∧ sizedMet enc C.prog fn (OpenSpec.ofChange s) apart w args) (s.post enc C.prog fn apart fresh handsOn again) := by
  refine returnsInHanded_of_calls own started noInit witness ?_
  intro w tape i _ hsh _ hok hpre _
  obtain ⟨_, _, _, fn', hfn', _, _, _, _, hval⟩ := hok
  have e : fn' = fn := Option.some.inj (hfn'.symm.trans hfn)
  subst e
  obtain ⟨⟨⟨ds, gs, before, hw, hc⟩, hx⟩, hz⟩ := hpre
  have hw' := DataW.Whole.of_heap (w' := w.forCall tape i) (by rfl) hw
  refine (contract (w.forCall tape i) w.heap.size i.args ds gs before hval hw' hc (hz.weights hw) (hX _ _ _ (by rfl) hx) hsh).mono fun e W' ⟨v, he, hp⟩ => ?_
  subst he
  exact ChangeSpec.post_blind hp

theorem cells_each {w : World} {base : Nat} {a : Addr} {n : Nat} {cs : List Value} (h : w.cells? base a n = some cs) : cs.length = n ∧ ∀ j u, cs[j]? = some u → w.cell? (a.add j) = some u := by
  obtain ⟨_, h1, h2⟩ := World.cells?_some h
  exact ⟨h1, fun j u hu => by rw [h2 j (by rw [← h1]; exact (List.getElem?_eq_some_iff.1 hu).1), hu]⟩

/-- a slice of structs, opened -/
theorem open_rows {t e : TypeId} {fs : Array Field} {v : Value} {d : DataW H} {ps : List MemPlace} (ht : P.underlying t = some (.slice e)) (he : P.underlying e = some (.struct fs)) (hpos : 0 < P.cellsOf e)
    (hv : ∃ a len cap, v = .slice a len cap) (h : DataW.Trod enc P W 0 (fun _ => true) true t v d ps) :
    ∃ oa len cap, v = .slice oa len cap ∧ len ≤ cap ∧ cap ≤ maxLen ∧ (0 < len → ∃ b off, oa = some ⟨b, off, none⟩ ∧ b < W.heap.size ∧ ∀ k, k < len → ∃ cs : List Value, cs.length = P.cellsOf e ∧
      (∀ j u, cs[j]? = some u → W.cell? ⟨b, off + k * P.cellsOf e + j, none⟩ = some u) ∧
      ∀ (i : Nat) (f : Field), fs[i]? = some f → ∃ n x, DataW.trod enc P W 0 (fun _ => true) true n f.type ((cs.drop f.offset).take (P.cellsOf f.type)) = some x) := by
  obtain ⟨fuel, hf⟩ := h
  obtain ⟨a, len, cap, rfl⟩ := hv
  rcases open_slice ht hf with ⟨hcs, _⟩ | ⟨x, len', cap', m, n, D, Pl, hcs, _, hl, hm, hmm, _, hx⟩
  · simp [Value.cells] at hcs
    obtain ⟨rfl, rfl, rfl⟩ := hcs
    exact ⟨none, 0, 0, rfl, by omega, by unfold maxLen; omega, by omega⟩
  · simp [Value.cells] at hcs
    obtain ⟨rfl, rfl, rfl⟩ := hcs
    simp only [if_true] at hmm
    subst hmm
    refine ⟨some x, _, _, rfl, hl, hm, fun h0 => ?_⟩
    have hspot : x.spot = none := by
      obtain ⟨cs', h1, _⟩ := hx 0 (by omega)
      obtain ⟨hlen, hc⟩ := cells_each h1
      obtain ⟨u, hu⟩ : ∃ u, cs'[0]? = some u := ⟨cs'[0]'(by omega), List.getElem?_eq_getElem (by omega)⟩
      have := World.cell?_spot (hc 0 u hu)
      simpa [Addr.add] using this
    obtain ⟨b, off, spot⟩ := x
    simp only at hspot
    subst hspot
    refine ⟨b, off, rfl, ?_, fun k hk => ?_⟩
    · obtain ⟨cs', h1, _⟩ := hx 0 (by omega)
      have := World.cells?_block h1 hpos
      simpa [Addr.add] using this
    · obtain ⟨cs', h1, h2⟩ := hx k (by omega)
      obtain ⟨hlen, hc⟩ := cells_each h1
      refine ⟨cs', hlen, fun j u hu => ?_, ?_⟩
      · have := hc j u hu
        rw [add_add, Addr.add_lit] at this
        rw [Nat.add_assoc]
        exact this
      · obtain ⟨xs, n', _, _, _, hxs, hfld⟩ := DataW.trod_struct he h2
        intro i f hfi
        have hi : i < xs.length := by rw [hxs]; exact (Array.getElem?_eq_some_iff.1 hfi).1
        exact ⟨n', xs[i], by rw [hfld i f hfi, List.getElem?_eq_getElem hi]⟩

/-- a field that is an int, out of a struct's cells -/
theorem int_cell {t : TypeId} {k : IntKind} {cs : List Value} {off n : Nat} {x : DataW H × List MemPlace} (ht : P.underlying t = some (.int k)) (hc : P.cellsOf t = 1)
    (h : DataW.trod enc P W 0 (fun _ => true) true n t ((cs.drop off).take (P.cellsOf t)) = some x) : ∃ z, cs[off]? = some (.int k z) ∧ (Lit.int k z).wf = true := by
  obtain ⟨z, hz, _, hw⟩ := DataW.trod_int ht h
  rw [hc] at hz
  refine ⟨z, ?_, hw⟩
  have := congrArg (fun l : List Value => l[0]?) hz
  simpa using this
/-- .. a string -/
theorem str_cell {t : TypeId} {cs : List Value} {off n : Nat} {x : DataW H × List MemPlace} (ht : P.underlying t = some .string) (hc : P.cellsOf t = 1)
    (h : DataW.trod enc P W 0 (fun _ => true) true n t ((cs.drop off).take (P.cellsOf t)) = some x) : ∃ s : ByteArray, cs[off]? = some (.string s) ∧ s.size ≤ maxLen := by
  obtain ⟨s, hz, _, hw⟩ := DataW.trod_string ht h
  rw [hc] at hz
  refine ⟨s, ?_, hw⟩
  have := congrArg (fun l : List Value => l[0]?) hz
  simpa using this
/-- .. a bool -/
theorem bool_cell {t : TypeId} {cs : List Value} {off n : Nat} {x : DataW H × List MemPlace} (ht : P.underlying t = some .bool) (hc : P.cellsOf t = 1)
    (h : DataW.trod enc P W 0 (fun _ => true) true n t ((cs.drop off).take (P.cellsOf t)) = some x) : ∃ b : Bool, cs[off]? = some (.bool b) := by
  obtain ⟨b, hz, _⟩ := DataW.trod_bool ht h
  rw [hc] at hz
  refine ⟨b, ?_⟩
  have := congrArg (fun l : List Value => l[0]?) hz
  simpa using this
/-- .. a slice -/
theorem slice_cell {t e : TypeId} {cs : List Value} {off n : Nat} {x : DataW H × List MemPlace} (ht : P.underlying t = some (.slice e)) (hc : P.cellsOf t = 1)
    (h : DataW.trod enc P W 0 (fun _ => true) true n t ((cs.drop off).take (P.cellsOf t)) = some x) : ∃ a len cap, cs[off]? = some (.slice a len cap) ∧ DataW.Trod enc P W 0 (fun _ => true) true t (.slice a len cap) x.1 x.2 := by
  have hsl : ∃ a len cap, (cs.drop off).take (P.cellsOf t) = [.slice a len cap] := by
    rcases open_slice ht h with ⟨hcs, _⟩ | ⟨x, len', cap', m, n, D, Pl, hcs, _⟩
    · exact ⟨_, _, _, hcs⟩
    · exact ⟨_, _, _, hcs⟩
  obtain ⟨a, len, cap, hsl⟩ := hsl
  refine ⟨a, len, cap, ?_, n, ?_⟩
  · rw [hc] at hsl
    have := congrArg (fun l : List Value => l[0]?) hsl
    simpa using this
  · rw [hsl] at h
    exact h

theorem wf_In64 {z : Int} (h : (Lit.int .i64 z).wf = true) : In64 z := by
  simpa [Lit.wf, IntKind.min, IntKind.max, IntKind.signed, IntKind.bits, In64] using h

/-- a slice of ints -/
theorem open_intsAt {t e : TypeId} {v : Value} {d : DataW H} {ps : List MemPlace} (ht : P.underlying t = some (.slice e)) (he : P.underlying e = some (.int .i64)) (hc : P.cellsOf e = 1)
    (hv : ∃ a len cap, v = .slice a len cap) (h : DataW.Trod enc P W 0 (fun _ => true) true t v d ps) : ∃ l, IntsAt W v l := by
  obtain ⟨fuel, hf⟩ := h
  obtain ⟨a, len, cap, rfl⟩ := hv
  rcases open_ints ht he hc hf with ⟨hcs, _⟩ | ⟨x, l, c, zs, hcs, _, hl, hm, hz, _, hcell, hwz⟩
  · simp [Value.cells] at hcs
    obtain ⟨rfl, rfl, rfl⟩ := hcs
    exact ⟨[], IntsAt.nil _ _ _⟩
  · simp [Value.cells] at hcs
    obtain ⟨rfl, rfl, rfl⟩ := hcs
    simp at hz
    have hlen : (zs.take len).length = len := by rw [List.length_take]; omega
    refine ⟨zs.take len, some x, cap, by rw [hlen], by rw [hlen]; unfold maxLen at hm; omega, fun y hy => wf_In64 (hwz y (List.mem_of_mem_take hy)), fun h0 => ?_⟩
    rw [hlen] at h0
    have hc0 := hcell 0 (by omega)
    have hspot := World.cell?_spot hc0
    obtain ⟨b, off, spot⟩ := x
    simp [Addr.add] at hspot
    subst hspot
    refine ⟨b, off, rfl, ?_, fun k hk => ?_⟩
    · have := World.block_lt_of_cell? W _ hc0
      simpa [Addr.add] using this
    · have h1 := hcell k (by omega)
      rw [Addr.add_lit] at h1
      rw [h1, nth, List.getElem?_take, if_pos (by omega)]
      simp
/-- a slice of strings -/
theorem open_strsAt {t e : TypeId} {v : Value} {d : DataW H} {ps : List MemPlace} (ht : P.underlying t = some (.slice e)) (he : P.underlying e = some .string) (hc : P.cellsOf e = 1)
    (hv : ∃ a len cap, v = .slice a len cap) (h : DataW.Trod enc P W 0 (fun _ => true) true t v d ps) : ∃ l, StrsAt W v l := by
  obtain ⟨fuel, hf⟩ := h
  obtain ⟨a, len, cap, rfl⟩ := hv
  rcases open_slice1 ht hc hf with ⟨hcs, _⟩ | ⟨x, l, c, m, n, V, D, Pl, hcs, _, hl, hm, hmm, _, hx⟩
  · simp [Value.cells] at hcs
    obtain ⟨rfl, rfl, rfl⟩ := hcs
    exact ⟨[], none, 0, rfl, by simp, by simp, by simp⟩
  · simp [Value.cells] at hcs
    obtain ⟨rfl, rfl, rfl⟩ := hcs
    simp only [if_true] at hmm
    subst hmm
    have hex : ∀ k, k < len → ∃ s : ByteArray, W.cell? (x.add k) = some (.string s) ∧ s.size ≤ maxLen := by
      intro k hk
      obtain ⟨h1, h2⟩ := hx k (by omega)
      obtain ⟨s, hs, _, hsz⟩ := DataW.trod_string he h2
      simp only [List.cons.injEq, and_true] at hs
      exact ⟨s, by rw [h1, hs], hsz⟩
    obtain ⟨f, hf'⟩ := choose_lt hex
    have hlen : ((List.range len).map f).length = len := by simp
    refine ⟨(List.range len).map f, some x, _, by rw [hlen], by rw [hlen]; unfold maxLen at hm; omega, ?_, fun h0 => ?_⟩
    · intro s hs
      simp only [List.mem_map, List.mem_range] at hs
      obtain ⟨k, hk, rfl⟩ := hs
      have := (hf' k hk).2
      unfold maxLen at this; omega
    · rw [hlen] at h0
      have hc0 := (hf' 0 h0).1
      have hspot := World.cell?_spot hc0
      obtain ⟨b, off, spot⟩ := x
      simp [Addr.add] at hspot
      subst hspot
      refine ⟨b, off, rfl, ?_, fun k hk => ?_⟩
      · have := World.block_lt_of_cell? W _ hc0
        simpa [Addr.add] using this
      · rw [hlen] at hk
        have h1 := (hf' k hk).1
        rw [Addr.add_lit] at h1
        rw [h1]
        simp
end
end Go.Proofs.YtjbpjmdnmnbonaaDoor
