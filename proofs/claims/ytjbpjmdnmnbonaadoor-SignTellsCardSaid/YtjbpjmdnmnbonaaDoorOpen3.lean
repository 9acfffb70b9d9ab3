/- A pair of ints as an argument. -/
import Derived.Test.YtjbpjmdnmnbonaaDoorOpen2
import Derived.Test.YtjbpjmdnmnbonaaDoorX8
set_option linter.unusedSimpArgs false
set_option linter.unusedVariables false
namespace Go.Proofs.YtjbpjmdnmnbonaaDoor
open Go.ChangeShapes Go.WideShapes Go.ChangeAt Go.RowKit Go.Deep

section
variable {H : Type} {enc : TypeId × Value → H} {W : World} {v : Value} {d : DataW H} {ps : List MemPlace}
theorem arr2 {α : Type} {cs : Array α} (h : cs.size = 2) : ∃ c0 c1, cs = #[c0, c1] := by
  obtain ⟨l⟩ := cs
  match l, h with
  | [c0, c1], _ => exact ⟨c0, c1, rfl⟩
set_option maxRecDepth 100000 in
theorem open_pair {base t : Nat} {f0 f1 : Field} (hu : Tryd.prog.underlying t = some (.struct #[f0, f1])) (hc : Tryd.prog.cellsOf t = 2) (h0 : f0.type = 3 ∧ f0.offset = 0) (h1 : f1.type = 3 ∧ f1.offset = 1)
    (hv : Value.okWide Tryd.prog W .any base t v) (h : DataW.Trod enc Tryd.prog W 0 (fun _ => true) true t v d ps) : ∃ a b : Int, v = .agg #[.int .i64 a, .int .i64 b] ∧ In64 a ∧ In64 b := by
  obtain ⟨cs, rfl, hsz⟩ := okWide_struct hu hv
  obtain ⟨x0, x1, rfl⟩ := arr2 (hsz.trans hc)
  obtain ⟨fuel, hf⟩ := h
  obtain ⟨xs, n', _, _, _, hxs, hfld⟩ := DataW.trod_struct hu hf
  have hl : xs.length = 2 := by rw [hxs]; rfl
  have g0 := (hfld 0 f0 rfl).trans (List.getElem?_eq_getElem (by omega))
  have g1 := (hfld 1 f1 rfl).trans (List.getElem?_eq_getElem (by omega))
  rw [h0.1, h0.2] at g0
  rw [h1.1, h1.2] at g1
  obtain ⟨z0, e0, w0⟩ := int_cell Tryd.underlying3 cells3 g0
  obtain ⟨z1, e1, w1⟩ := int_cell Tryd.underlying3 cells3 g1
  have e0' : x0 = .int .i64 z0 := Option.some.inj e0
  have e1' : x1 = .int .i64 z1 := Option.some.inj e1
  exact ⟨z0, z1, by rw [e0', e1'], wf_In64 w0, wf_In64 w1⟩
theorem cells25 : Tryd.prog.cellsOf 25 = 2 := by kernel_rfl
theorem cells23 : Tryd.prog.cellsOf 23 = 2 := by kernel_rfl
end
end Go.Proofs.YtjbpjmdnmnbonaaDoor
