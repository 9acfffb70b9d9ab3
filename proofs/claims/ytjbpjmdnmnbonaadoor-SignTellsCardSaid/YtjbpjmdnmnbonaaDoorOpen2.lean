/- What the listed variables hold, cell by cell. -/
import Derived.Test.YtjbpjmdnmnbonaaDoorOpen
import Derived.Test.YtjbpjmdnmnbonaaDoorX4
import Derived.SizedLaws
set_option linter.unusedSimpArgs false
set_option linter.unusedVariables false
namespace Go.Proofs.YtjbpjmdnmnbonaaDoor
open Go.ChangeShapes Go.WideShapes Go.ChangeAt Go.RowKit Go.Deep

section
variable {H : Type} {enc : TypeId × Value → H} {P : Program} {w : World} {base : Nat} {spare : Nat → Bool} {held : Bool} {fuel : Nat}
theorem arr_ints {n : Nat} {e t : TypeId} {k : IntKind} {cs : List Value} {zs : List Int} {p : List MemPlace} (ht : P.underlying t = some (.array n e)) (he : P.underlying e = some (.int k)) (hc : P.cellsOf e = 1) (hct : P.cellsOf t = n)
    (h : DataW.trod enc P w base spare held fuel t cs = some (.agg (zs.map fun z => .lit (.int k z)), p)) : cs = zs.map (Value.int k) := by
  obtain ⟨xs, m, _, ex, hlen, hl, hel⟩ := DataW.trod_array ht h
  have e3 : (xs.map (·.1)) = zs.map fun z => (DataW.lit (.int k z) : DataW H) := (DataW.agg.inj (Prod.mk.inj ex).1).symm
  have hzl : zs.length = n := by
    have := congrArg List.length e3
    simp only [List.length_map] at this
    omega
  refine List.ext_getElem (by rw [hlen, hct, List.length_map, hzl]) fun i hi hi2 => ?_
  have hin : i < n := by rw [hlen, hct] at hi; exact hi
  have hE := hel i hin
  rw [hc, Nat.mul_one, List.getElem?_eq_getElem (by omega)] at hE
  obtain ⟨z, e1, e2, _⟩ := DataW.trod_int he hE
  have e4 : (xs.map (·.1))[i]? = (zs.map fun z => (DataW.lit (.int k z) : DataW H))[i]? := by rw [e3]
  rw [List.getElem?_map, List.getElem?_map, List.getElem?_eq_getElem (by omega : i < xs.length), List.getElem?_eq_getElem (by omega : i < zs.length), e2] at e4
  simp only [Option.map_some, Option.some.injEq, DataW.lit.injEq, Lit.int.injEq, true_and] at e4
  have : cs[i]? = some (.int k z) := by
    have h0 : ((cs.drop i).take 1)[0]? = some (.int k z) := by rw [e1]; rfl
    simpa using h0
  rw [List.getElem?_eq_getElem hi, Option.some.injEq] at this
  rw [this, e4]; simp
end
theorem flat_get {α : Type} (f : Nat → List α) (c : Nat) (hc : ∀ i, (f i).length = c) : ∀ (n i k : Nat), i < n → k < c → ((List.range n).flatMap f)[i * c + k]? = (f i)[k]? := by
  have hlen : ∀ n, ((List.range n).flatMap f).length = n * c := by
    intro n
    induction n with
    | zero => simp
    | succ n ih => rw [List.range_succ, List.flatMap_append, List.length_append, ih]; simp [hc, Nat.succ_mul]
  intro n
  induction n with
  | zero => intro i k h; omega
  | succ n ih =>
    intro i k hi hk
    rw [List.range_succ, List.flatMap_append]
    by_cases h : i < n
    · rw [List.getElem?_append_left (by rw [hlen]; have : (i + 1) * c ≤ n * c := Nat.mul_le_mul_right _ h; rw [Nat.succ_mul] at this; omega)]
      exact ih i k h hk
    · obtain rfl : i = n := by omega
      rw [List.getElem?_append_right (by rw [hlen]; omega), hlen]
      simp
theorem cells82 : Tryd.prog.cellsOf 82 = 8 := by kernel_rfl
theorem cells60 : Tryd.prog.cellsOf 60 = 1 := by kernel_rfl
theorem cells5 : Tryd.prog.cellsOf 5 = 1 := by kernel_rfl
theorem cells90 : Tryd.prog.cellsOf 90 = 16 := by kernel_rfl
theorem cells3 : Tryd.prog.cellsOf 3 = 1 := by kernel_rfl
theorem undU32 : Tryd.prog.underlying 60 = some (.int .u32) := by kernel_rfl
theorem und5 : Tryd.prog.underlying 5 = some (.int .u8) := by kernel_rfl
theorem first_laid {w : World} {cs : List Value} {fuel : Nat} {p : List MemPlace} (h : DataW.trod (fun _ => ()) Tryd.prog w 0 (fun _ => true) false fuel 82 cs = some (Rows.laid_bourne_digest_first, p)) : cs = cells32 firstS := by
  have := arr_ints (zs := firstS.map fun n : Nat => (n : Int)) und60 undU32 cells60 cells82 (by rw [h]; rfl)
  rw [this]; rfl
theorem row_at : ∀ (i : Nat), i < 10 → ∃ l : List (DataW Unit), Rows.laid_bourne_digest_orders = .agg l ∧ l[i]? = some (.agg ((orderS i).map fun n : Nat => .lit (.int .u8 (n : Int)))) := by
  intro i hi
  have h : i = 0 ∨ i = 1 ∨ i = 2 ∨ i = 3 ∨ i = 4 ∨ i = 5 ∨ i = 6 ∨ i = 7 ∨ i = 8 ∨ i = 9 := by omega
  rcases h with rfl | rfl | rfl | rfl | rfl | rfl | rfl | rfl | rfl | rfl
  all_goals exact ⟨_, rfl, rfl⟩
theorem orders_laid {w : World} {cs : List Value} {fuel : Nat} {p : List MemPlace} (h : DataW.trod (fun _ => ()) Tryd.prog w 0 (fun _ => true) false fuel 91 cs = some (Rows.laid_bourne_digest_orders, p)) (j : Nat) (v : Value) (hv : ordersC[j]? = some v) : cs[j]? = some v := by
  obtain ⟨xs, m, _, ex, hlen, hl, hel⟩ := DataW.trod_array und95 h
  have hj : j < 160 := by
    have := (List.getElem?_eq_some_iff.1 hv).1
    have e : ordersC.length = 160 := by decide +kernel
    omega
  obtain ⟨l, hl1, hl2⟩ := row_at (j / 16) (by omega)
  have e3 : l = xs.map (·.1) := DataW.agg.inj (by rw [← hl1]; exact (Prod.mk.inj ex).1)
  have hE := hel (j / 16) (by omega)
  rw [cells90, List.getElem?_eq_getElem (by omega)] at hE
  rw [e3, List.getElem?_map, List.getElem?_eq_getElem (by omega)] at hl2
  simp only [Option.map_some, Option.some.injEq] at hl2
  have hrow := arr_ints (zs := (orderS (j / 16)).map fun n : Nat => (n : Int)) (p := (xs[j / 16]'(by omega)).2) und94 und5 cells5 cells90 (by rw [hE]; congr 1; exact Prod.ext (by rw [hl2, List.map_map]; rfl) rfl)
  have hf := flat_get (fun r => (orderS r).map fun n : Nat => Value.int .u8 (n : Int)) 16 (fun i => by rw [List.length_map, orderS_len]) 10 (j / 16) (j % 16) (by omega) (Nat.mod_lt _ (by omega))
  rw [Nat.div_add_mod' j 16] at hf
  rw [show ordersC = (List.range 10).flatMap fun r => (orderS r).map fun n : Nat => Value.int .u8 (n : Int) from rfl, hf] at hv
  have hg : ((cs.drop (j / 16 * 16)).take 16)[j % 16]? = some v := by
    rw [hrow, List.map_map]; exact hv
  rw [List.getElem?_take, if_pos (Nat.mod_lt _ (by omega)), List.getElem?_drop, Nat.div_add_mod' j 16] at hg
  exact hg

set_option maxRecDepth 100000 in
theorem sa_laid {W : World} {m : Int} (h : laidMetH Tryd.prog Rows.signTellsRow.laid W) (hm : W.cell? ⟨4, 0, none⟩ = some (.int .i64 m)) : SA m W := by
  rw [MakeChecks.laidMetH_plain _ _ _ (by kernel_rfl)] at h
  have h4 : 4 < W.heap.size := World.block_lt_of_cell? W _ hm
  obtain ⟨ps, ⟨g0, t0, cs0, fuel0, p0, q0, -, -, -, -, ⟨g1, t1, cs1, fuel1, p1, q1, hg1, ht1, hv1, hd1, ⟨g2, t2, cs2, fuel2, p2, q2, hg2, ht2, hv2, hd2, -, -⟩, -⟩, -⟩, -, -⟩ := h
  obtain rfl := Option.some.inj ((show Tryd.prog.globalNamed "bourne/digest.first" = some 2 by kernel_rfl).symm.trans hg1)
  obtain rfl := Option.some.inj ((show (Tryd.prog.globals[2]?).map (·.type) = some 82 by kernel_rfl).symm.trans ht1)
  obtain rfl := Option.some.inj ((show Tryd.prog.globalNamed "bourne/digest.orders" = some 3 by kernel_rfl).symm.trans hg2)
  obtain rfl := Option.some.inj ((show (Tryd.prog.globals[3]?).map (·.type) = some 91 by kernel_rfl).symm.trans ht2)
  have e1 := first_laid hd1
  have e2 := orders_laid hd2
  refine ⟨⟨by omega, fun k hk => ?_, fun j v hv => ?_⟩, h4, hm⟩
  · rw [World.var?_cell hg1 hv1 k, ← Array.getElem?_toList, e1]
    have := u32c_at firstS k (by simpa [firstS] using hk)
    simpa [u32c, cells32] using this
  · rw [World.var?_cell hg2 hv2 j, ← Array.getElem?_toList]; exact e2 j v hv
end Go.Proofs.YtjbpjmdnmnbonaaDoor
