/- The walks of gram's inner functions. -/
import Derived.Test.YtibhihobpehpbaaDoorD4
import Derived.Deep.RegionWith
set_option linter.unusedSimpArgs false
set_option linter.unusedVariables false
namespace Go.Proofs.YtibhihobpehpbaaDoor
open Go.RowKit

theorem und84 : Tryd.prog.underlying 84 = some (.array 4 3) := by kernel_rfl
theorem guard84 : Tryd.prog.eqGuardType Tryd.prog.depth 84 = false := by kernel_rfl
@[go_sem] theorem guard84_run (op : BinOp) (x y : Operand) (xs ys : Array Value) (w : World) : (eqGuard op 84 x y (.agg xs) (.agg ys)).run Tryd.prog w = .ok () w := run_eqGuard_agg w op 84 x y xs ys guard84
theorem part3 (cs : Array Value) (k : Nat) (x : Int) (w : World) (h : cs[k]? = some (.int .i64 x)) : (part 3 cs k).run Tryd.prog w = .ok (.int .i64 x) w := by
  have hag : (isAgg 3).run Tryd.prog w = .ok false w := by kernel_rfl
  unfold part
  rw [Sem.run_bind, hag]
  simp [h]
theorem size3 (w : World) : (sizeOf 3).run Tryd.prog w = .ok 1 w := by kernel_rfl
theorem equal84 (x1 x2 x3 x4 y1 y2 y3 y4 : Int) (w : World) : (Op.equalIn 10000 84 (.agg #[.int .i64 x1, .int .i64 x2, .int .i64 x3, .int .i64 x4]) (.agg #[.int .i64 y1, .int .i64 y2, .int .i64 y3, .int .i64 y4])).run Tryd.prog w = .ok (x1 == y1 && x2 == y2 && x3 == y3 && x4 == y4) w := by
  have e : ∀ a b : Int, (Op.equalIn 9999 3 (.int .i64 a) (.int .i64 b)).run Tryd.prog w = .ok (a == b) w := fun a b => run_equalIn_int w 9998 3 .i64 .i64 a b Tryd.underlying3
  unfold Op.equalIn
  rw [Sem.run_bind, run_underlying und84]
  simp only [Result.andThen_ok, Sem.run_bind, size3]
  have r : List.range' 0 4 1 = [0, 1, 2, 3] := rfl
  rw [Std.Legacy.Range.forIn_eq_forIn_range']
  simp only [Std.Legacy.Range.size, Nat.sub_zero, Nat.add_sub_cancel, Nat.div_one, r, List.forIn_cons, List.forIn_nil, Sem.run_bind, Nat.mul_one]
  rw [part3 _ 0 x1 w rfl, Result.andThen_ok, part3 _ 0 y1 w rfl]
  simp only [Result.andThen_ok, e]
  by_cases h1 : x1 = y1
  · subst h1
    simp only [beq_self_eq_true, Bool.not_true, if_false, Sem.run_pure, Result.andThen_ok, Sem.run_bind, Bool.true_and, Bool.false_eq_true]
    rw [part3 _ 1 x2 w rfl, Result.andThen_ok, part3 _ 1 y2 w rfl]
    simp only [Result.andThen_ok, e]
    by_cases h2 : x2 = y2
    · subst h2
      simp only [beq_self_eq_true, Bool.not_true, if_false, Sem.run_pure, Result.andThen_ok, Sem.run_bind, Bool.true_and, Bool.false_eq_true]
      rw [part3 _ 2 x3 w rfl, Result.andThen_ok, part3 _ 2 y3 w rfl]
      simp only [Result.andThen_ok, e]
      by_cases h3 : x3 = y3
      · subst h3
        simp only [beq_self_eq_true, Bool.not_true, if_false, Sem.run_pure, Result.andThen_ok, Sem.run_bind, Bool.true_and, Bool.false_eq_true]
        rw [part3 _ 3 x4 w rfl, Result.andThen_ok, part3 _ 3 y4 w rfl]
        simp only [Result.andThen_ok, e]
        by_cases h4 : x4 = y4
        · subst h4; simp
        · have : (x4 == y4) = false := by simpa using h4
          simp [this]
      · have : (x3 == y3) = false := by simpa using h3
        simp [this]
    · have : (x2 == y2) = false := by simpa using h2
      simp [this]
  · have : (x1 == y1) = false := by simpa using h1
    simp [this]

/-- a telegram -/
structure Gr where
  g : Int
  q : Int
  c : Int
  v : Int
  tag : List UInt8
  deriving DecidableEq
def Gr.val (x : Gr) : Value := .agg #[.int .i64 x.g, .int .i64 x.q, .int .i64 x.c, .int .i64 x.v, .string ⟨x.tag.toArray⟩]
def clampI (n lo hi : Int) : Int := max (min n hi) lo
def inI (n lo hi : Int) : Bool := decide (lo ≤ n) && decide (n ≤ hi)
def GramAt (w : World) : Prop := 3 < w.heap.size ∧
  (w.cell? ⟨2, 0, none⟩ = some (.int .i64 127) ∧ w.cell? ⟨2, 1, none⟩ = some (.int .i64 1099511627776) ∧ w.cell? ⟨2, 2, none⟩ = some (.int .i64 1006633019) ∧ w.cell? ⟨2, 3, none⟩ = some (.int .i64 1099511627776)) ∧
  (w.cell? ⟨3, 0, none⟩ = some (.int .i64 0) ∧ w.cell? ⟨3, 1, none⟩ = some (.int .i64 0) ∧ w.cell? ⟨3, 2, none⟩ = some (.int .i64 0) ∧ w.cell? ⟨3, 3, none⟩ = some (.int .i64 (-1099511627776)))
theorem GramAt.below {w w' : World} {B : Nat} (h : GramAt w) (hb : Below B w w') (hB : 3 < B) : GramAt w' := by
  obtain ⟨h1, ⟨a0, a1, a2, a3⟩, b0, b1, b2, b3⟩ := h
  have e : ∀ g j, g ≤ 3 → w'.cell? ⟨g, j, none⟩ = w.cell? ⟨g, j, none⟩ := fun g j hg => hb.cell (p := ⟨g, j, none⟩) (show g < B by omega)
  refine ⟨Nat.lt_of_lt_of_le h1 hb.size, ⟨?_, ?_, ?_, ?_⟩, ?_, ?_, ?_, ?_⟩
  all_goals (rw [e _ _ (by omega)]; assumption)

theorem of_calls (x : Gr) (w : World) : Calls Tryd.prog 51 #[x.val] w fun e w' => e = .returned (.agg #[.int .i64 x.g, .int .i64 x.q, .int .i64 x.c, .int .i64 x.v]) ∧ Below w.heap.size w w' := by
  unfold Gr.val
  go_enter Tryd.func51, Tryd.ntmps51
  go_wp2_with fail
  exact bodyPost_ret (v := .agg #[.int .i64 x.g, .int .i64 x.q, .int .i64 x.c, .int .i64 x.v]) (by simp [results, Tryd.results51, go_sem]) rfl ⟨rfl, (by ((repeat' (first | exact Below.refl _ _ | (refine Below.alloc ?_ ?_ _) | (refine Below.setCell ?_ ?_ _) | (refine Below.drew ?_) | (refine Below.trans ?_ (Below.mono (by assumption) ?_)))) <;> ((try simp only [World.size_alloc, World.size_setCell, World.size_drew] at *); omega)))⟩

def clK (x0 x1 x2 x3 : Int) (i : Nat) : Array Value := #[.int .i64 (if 0 < i then clampI x0 0 127 else x0), .int .i64 (if 1 < i then clampI x1 0 1099511627776 else x1), .int .i64 (if 2 < i then clampI x2 0 1006633019 else x2), .int .i64 (if 3 < i then clampI x3 (-1099511627776) 1099511627776 else x3)]
theorem clK_size (x0 x1 x2 x3 : Int) (i : Nat) : (Tryd.prog.info? 84).map (·.size) = some (clK x0 x1 x2 x3 i).size := by
  have : (Tryd.prog.info? 84).map (·.size) = some 4 := by kernel_rfl
  rw [this]; rfl
theorem clK_one (x0 x1 x2 x3 : Int) (i : Nat) : (clK x0 x1 x2 x3 i).all (·.oneCell') = true := by simp [clK, Value.oneCell']
theorem cell_frozen {w : World} {g j : Nat} {cs : Array Value} {t : TypeId} (h : w.heap[g]? = some (.cells cs t (0, 0))) : w.frozen? ⟨g, j, none⟩ = false := frozen_of_row w g j cs t h
set_option maxRecDepth 100000 in
set_option maxHeartbeats 1000000 in
theorem clamp_calls (x0 x1 x2 x3 : Int) (w : World) (h : GramAt w) : Calls Tryd.prog 52 #[.agg #[.int .i64 x0, .int .i64 x1, .int .i64 x2, .int .i64 x3]] w fun e w' => e = .returned (.agg #[.int .i64 (clampI x0 0 127), .int .i64 (clampI x1 0 1099511627776), .int .i64 (clampI x2 0 1006633019), .int .i64 (clampI x3 (-1099511627776) 1099511627776)]) ∧ Below w.heap.size w w' := by
  have h3 := h.1
  have Hh := Lib.hid h
  clear h
  go_enter Tryd.func52, Tryd.ntmps52
  go_wp2_with fail
  generalize hW0 : World.alloc _ _ = w0
  have hA0 : w0.heap[w.heap.size]? = some (.cells (clK x0 x1 x2 x3 0) 84 (0, 0)) := by
    rw [← hW0, Below.heap_alloc _ _ _ (by rw [World.size_alloc]; omega)]
    exact heap_alloc_new w _
  have hR0 : w0.heap[w.heap.size + 1]? = some (.cells #[.int .i64 0, .int .i64 0, .int .i64 0, .int .i64 0] 84 (0, 0)) := by
    rw [← hW0]
    have := heap_alloc_new (w.alloc (Obj.cells #[Value.int .i64 x0, .int .i64 x1, .int .i64 x2, .int .i64 x3] 84)) (Obj.cells #[Value.int .i64 0, .int .i64 0, .int .i64 0, .int .i64 0] 84)
    rw [World.size_alloc] at this
    exact this
  have hB0 : Below w.heap.size w w0 := by rw [← hW0]; exact (by ((repeat' (first | exact Below.refl _ _ | (refine Below.alloc ?_ ?_ _) | (refine Below.setCell ?_ ?_ _) | (refine Below.drew ?_) | (refine Below.trans ?_ (Below.mono (by assumption) ?_)))) <;> ((try simp only [World.size_alloc, World.size_setCell, World.size_drew] at *); omega)))
  clear hW0
  have HhA0 := Lib.hid hA0
  clear hA0
  have HhR0 := Lib.hid hR0
  clear hR0
  go_loopw [4] (fun s4 wr => ∃ i : Nat, i ≤ 4 ∧ s4 = .int .i64 i ∧ wr.heap[w.heap.size]? = some (.cells (clK x0 x1 x2 x3 i) 84 (0, 0)) ∧ wr.heap[w.heap.size + 1]? = some (.cells #[.int .i64 0, .int .i64 0, .int .i64 0, .int .i64 0] 84 (0, 0)) ∧ Below w.heap.size w wr) (fun s4 _ => 4 - (intOf s4).toNat)
  case atStart => exact ⟨0, by omega, rfl, HhA0.out, HhR0.out, hB0⟩
  case round =>
    obtain ⟨i, hi, rfl, hA, hR, hB⟩ := hrel
    obtain ⟨-, ⟨a0, a1, a2, a3⟩, b0, b1, b2, b3⟩ := Hh.out.below hB (by omega)
    have hf := fun j => cell_frozen (j := j) hA
    have hcases : i = 0 ∨ i = 1 ∨ i = 2 ∨ i = 3 ∨ i = 4 := by omega
    rcases hcases with rfl | rfl | rfl | rfl | rfl
    · have ck : wr.cell? ⟨w.heap.size, 0, none⟩ = some (.int .i64 x0) := by rw [cell_of_row _ _ _ _ _ _ hA]; rfl
      have fk := hf 0
      rw [show ((0 : Nat) : Int) = 0 from rfl]
      have hmm : max (min x0 127) 0 = clampI x0 0 127 := rfl
      clear hf
      have HhA := Lib.hid hA
      clear hA
      have HhR := Lib.hid hR
      clear hR
      have HhB := Lib.hid hB
      clear hB
      go_wp2_with fail
      go_still_tail 13, (by kernel_rfl)
      obtain ⟨z, hz⟩ : ∃ z, z = clampI x0 0 127 := ⟨_, rfl⟩
      rw [← hz]
      have Hhz := Lib.hid hz
      clear hz
      go_wp2_with fail
      refine ⟨⟨1, by omega, rfl, ?_, ?_, ?_⟩, by simp [intOf]⟩
      · rw [Hhz.out]
        have := heap_setCell_same wr w.heap.size 0 _ 84 (.int .i64 (clampI x0 0 127)) HhA.out
        exact this
      · exact (Below.heap_setCell _ _ _ _ (by simp)).trans HhR.out
      · have hB := HhB.out; exact (by ((repeat' (first | exact Below.refl _ _ | (refine Below.alloc ?_ ?_ _) | (refine Below.setCell ?_ ?_ _) | (refine Below.drew ?_) | (refine Below.trans ?_ (Below.mono (by assumption) ?_)))) <;> ((try simp only [World.size_alloc, World.size_setCell, World.size_drew] at *); omega)))
    · have ck : wr.cell? ⟨w.heap.size, 1, none⟩ = some (.int .i64 x1) := by rw [cell_of_row _ _ _ _ _ _ hA]; rfl
      have fk := hf 1
      rw [show ((1 : Nat) : Int) = 1 from rfl]
      have hmm : max (min x1 1099511627776) 0 = clampI x1 0 1099511627776 := rfl
      clear hf
      have HhA := Lib.hid hA
      clear hA
      have HhR := Lib.hid hR
      clear hR
      have HhB := Lib.hid hB
      clear hB
      go_wp2_with fail
      go_still_tail 13, (by kernel_rfl)
      obtain ⟨z, hz⟩ : ∃ z, z = clampI x1 0 1099511627776 := ⟨_, rfl⟩
      rw [← hz]
      have Hhz := Lib.hid hz
      clear hz
      go_wp2_with fail
      refine ⟨⟨2, by omega, rfl, ?_, ?_, ?_⟩, by simp [intOf]⟩
      · rw [Hhz.out]
        have := heap_setCell_same wr w.heap.size 1 _ 84 (.int .i64 (clampI x1 0 1099511627776)) HhA.out
        exact this
      · exact (Below.heap_setCell _ _ _ _ (by simp)).trans HhR.out
      · have hB := HhB.out; exact (by ((repeat' (first | exact Below.refl _ _ | (refine Below.alloc ?_ ?_ _) | (refine Below.setCell ?_ ?_ _) | (refine Below.drew ?_) | (refine Below.trans ?_ (Below.mono (by assumption) ?_)))) <;> ((try simp only [World.size_alloc, World.size_setCell, World.size_drew] at *); omega)))
    · have ck : wr.cell? ⟨w.heap.size, 2, none⟩ = some (.int .i64 x2) := by rw [cell_of_row _ _ _ _ _ _ hA]; rfl
      have fk := hf 2
      rw [show ((2 : Nat) : Int) = 2 from rfl]
      have hmm : max (min x2 1006633019) 0 = clampI x2 0 1006633019 := rfl
      clear hf
      have HhA := Lib.hid hA
      clear hA
      have HhR := Lib.hid hR
      clear hR
      have HhB := Lib.hid hB
      clear hB
      go_wp2_with fail
      go_still_tail 13, (by kernel_rfl)
      obtain ⟨z, hz⟩ : ∃ z, z = clampI x2 0 1006633019 := ⟨_, rfl⟩
      rw [← hz]
      have Hhz := Lib.hid hz
      clear hz
      go_wp2_with fail
      refine ⟨⟨3, by omega, rfl, ?_, ?_, ?_⟩, by simp [intOf]⟩
      · rw [Hhz.out]
        have := heap_setCell_same wr w.heap.size 2 _ 84 (.int .i64 (clampI x2 0 1006633019)) HhA.out
        exact this
      · exact (Below.heap_setCell _ _ _ _ (by simp)).trans HhR.out
      · have hB := HhB.out; exact (by ((repeat' (first | exact Below.refl _ _ | (refine Below.alloc ?_ ?_ _) | (refine Below.setCell ?_ ?_ _) | (refine Below.drew ?_) | (refine Below.trans ?_ (Below.mono (by assumption) ?_)))) <;> ((try simp only [World.size_alloc, World.size_setCell, World.size_drew] at *); omega)))
    · have ck : wr.cell? ⟨w.heap.size, 3, none⟩ = some (.int .i64 x3) := by rw [cell_of_row _ _ _ _ _ _ hA]; rfl
      have fk := hf 3
      rw [show ((3 : Nat) : Int) = 3 from rfl]
      have hmm : max (min x3 1099511627776) (-1099511627776) = clampI x3 (-1099511627776) 1099511627776 := rfl
      clear hf
      have HhA := Lib.hid hA
      clear hA
      have HhR := Lib.hid hR
      clear hR
      have HhB := Lib.hid hB
      clear hB
      go_wp2_with fail
      go_still_tail 13, (by kernel_rfl)
      obtain ⟨z, hz⟩ : ∃ z, z = clampI x3 (-1099511627776) 1099511627776 := ⟨_, rfl⟩
      rw [← hz]
      have Hhz := Lib.hid hz
      clear hz
      go_wp2_with fail
      refine ⟨⟨4, by omega, rfl, ?_, ?_, ?_⟩, by simp [intOf]⟩
      · rw [Hhz.out]
        have := heap_setCell_same wr w.heap.size 3 _ 84 (.int .i64 (clampI x3 (-1099511627776) 1099511627776)) HhA.out
        exact this
      · exact (Below.heap_setCell _ _ _ _ (by simp)).trans HhR.out
      · have hB := HhB.out; exact (by ((repeat' (first | exact Below.refl _ _ | (refine Below.alloc ?_ ?_ _) | (refine Below.setCell ?_ ?_ _) | (refine Below.drew ?_) | (refine Below.trans ?_ (Below.mono (by assumption) ?_)))) <;> ((try simp only [World.size_alloc, World.size_setCell, World.size_drew] at *); omega)))
    · rw [show ((4 : Nat) : Int) = 4 from rfl]
      clear hf
      have HhA := Lib.hid hA
      clear hA
      have HhR := Lib.hid hR
      clear hR
      have HhB := Lib.hid hB
      clear hB
      go_wp2_with (first | (refine wpList_load_row rfl 84 _ rfl w.heap.size rfl 84 (clK x0 x1 x2 x3 4) (0, 0) _ HhA.out und84 rfl (clK_size _ _ _ _ _) ?_) | (refine wpList_store_row rfl 84 _ _ rfl (w.heap.size + 1) (clK x0 x1 x2 x3 4) rfl rfl 84 _ HhR.out (clK_size _ _ _ _ _) rfl (clK_one _ _ _ _ _) ?_))
      exact bodyPost_ret (results_cell_row (fn := Tryd.f52) rfl _ _ (w.heap.size + 1) 84 (clK x0 x1 x2 x3 4) (0, 0) _ rfl (setRow_heap _ _ _ _ _ _ HhR.out) und84 rfl (clK_size _ _ _ _ _)) rfl ⟨rfl, below_setRow HhB.out (by omega) _⟩
theorem inI_clamp (n lo hi : Int) (h : lo ≤ hi) : (n == clampI n lo hi) = inI n lo hi := by
  rw [Bool.eq_iff_iff]; simp [clampI, inI]; omega
def Gr.inB (x : Gr) : Bool := inI x.g 0 127 && inI x.q 0 1099511627776 && inI x.c 0 1006633019 && inI x.v (-1099511627776) 1099511627776
def Gr.ok (x : Gr) : Bool := x.inB && decide (x.tag.length = 8)
theorem eq_clamps (x : Gr) : (x.g == clampI x.g 0 127 && x.q == clampI x.q 0 1099511627776 && x.c == clampI x.c 0 1006633019 && x.v == clampI x.v (-1099511627776) 1099511627776) = x.inB := by
  rw [inI_clamp _ _ _ (by omega), inI_clamp _ _ _ (by omega), inI_clamp _ _ _ (by omega), inI_clamp _ _ _ (by omega)]; rfl
def Gr.cells (x : Gr) : Array Value := #[.int .i64 x.g, .int .i64 x.q, .int .i64 x.c, .int .i64 x.v, .string ⟨x.tag.toArray⟩]
/-- the block g holds the telegram x -/
def GrAt (w : World) (g : Nat) (x : Gr) : Prop := w.heap[g]? = some (.cells x.cells 23 (0, 0))
def GrC (w : World) (g : Nat) (x : Gr) : Prop := w.cell? ⟨g, 0, none⟩ = some (.int .i64 x.g) ∧ w.cell? ⟨g, 1, none⟩ = some (.int .i64 x.q) ∧ w.cell? ⟨g, 2, none⟩ = some (.int .i64 x.c) ∧ w.cell? ⟨g, 3, none⟩ = some (.int .i64 x.v) ∧ w.cell? ⟨g, 4, none⟩ = some (.string ⟨x.tag.toArray⟩)
theorem GrAt.c {w : World} {g : Nat} {x : Gr} (h : GrAt w g x) : GrC w g x := by
  refine ⟨?_, ?_, ?_, ?_, ?_⟩ <;> (rw [cell_of_row _ _ _ _ _ _ h]; rfl)
theorem GrAt.below {w w' : World} {g B : Nat} {x : Gr} (h : GrAt w g x) (hb : Below B w w') (hB : g < B) : GrAt w' g x := by
  unfold GrAt; rw [hb.block g hB]; exact h
set_option maxRecDepth 100000 in
set_option maxHeartbeats 1000000 in
theorem formed_calls (x : Gr) (w : World) (h : GramAt w) : Calls Tryd.prog 29 #[x.val] w fun e w' => e = .returned (.bool x.ok) ∧ Below w.heap.size w w' := by
  have h3 := h.1
  have hst := str_size x.tag
  have hq : ∀ w, (Op.equalIn 10000 84 (.agg #[.int .i64 x.g, .int .i64 x.q, .int .i64 x.c, .int .i64 x.v]) (.agg #[.int .i64 (clampI x.g 0 127), .int .i64 (clampI x.q 0 1099511627776), .int .i64 (clampI x.c 0 1006633019), .int .i64 (clampI x.v (-1099511627776) 1099511627776)])).run Tryd.prog w = .ok x.inB w := fun w => by rw [equal84, eq_clamps]
  have hok : x.ok = (x.inB && decide (x.tag.length = 8)) := rfl
  obtain ⟨wb, hwb⟩ : ∃ wb, wb = w.alloc (.cells x.cells 23) := ⟨_, rfl⟩
  have hbox : GrAt wb w.heap.size x := by rw [hwb]; exact heap_alloc_new w _
  have hBb : Below w.heap.size w wb := by rw [hwb]; exact (by ((repeat' (first | exact Below.refl _ _ | (refine Below.alloc ?_ ?_ _) | (refine Below.setCell ?_ ?_ _) | (refine Below.drew ?_) | (refine Below.trans ?_ (Below.mono (by assumption) ?_)))) <;> ((try simp only [World.size_alloc, World.size_setCell, World.size_drew] at *); omega)))
  have hszb : wb.heap.size = w.heap.size + 1 := by rw [hwb]; simp
  have hk : ∀ wx, Below wb.heap.size wb wx → GrC wx w.heap.size x := fun wx hx => (hbox.below hx (by omega)).c
  have hc51 : ∀ wx, Below wb.heap.size wb wx → Calls Tryd.prog 51 #[.agg #[.int .i64 x.g, .int .i64 x.q, .int .i64 x.c, .int .i64 x.v, .string ⟨x.tag.toArray⟩]] wx fun e w' => e = .returned (.agg #[.int .i64 x.g, .int .i64 x.q, .int .i64 x.c, .int .i64 x.v]) ∧ Below wb.heap.size wb w' := fun wx hx =>
    (of_calls x wx).mono fun e w' ⟨h1, h2⟩ => ⟨h1, hx.trans (h2.mono hx.size)⟩
  have hc52 : ∀ wx, Below wb.heap.size wb wx → Calls Tryd.prog 52 #[.agg #[.int .i64 x.g, .int .i64 x.q, .int .i64 x.c, .int .i64 x.v]] wx fun e w' => e = .returned (.agg #[.int .i64 (clampI x.g 0 127), .int .i64 (clampI x.q 0 1099511627776), .int .i64 (clampI x.c 0 1006633019), .int .i64 (clampI x.v (-1099511627776) 1099511627776)]) ∧ Below wb.heap.size wb w' := fun wx hx =>
    (clamp_calls _ _ _ _ wx ((h.below hBb (by omega)).below hx (by omega))).mono fun e w' ⟨h1, h2⟩ => ⟨h1, hx.trans (h2.mono hx.size)⟩
  have Hhbox := Lib.hid hbox
  clear hbox
  have Hhk := Lib.hid hk
  clear hk
  have Hhc51 := Lib.hid hc51
  clear hc51
  have Hhc52 := Lib.hid hc52
  clear hc52
  have Hhszb := Lib.hid hszb
  clear hszb
  unfold Gr.val
  cases hB : x.inB
  · rw [hB] at hq hok
    rw [hok]
    clear hok hB
    go_enter Tryd.func29, Tryd.ntmps29
    go_wp2_with fail
    rw [show w.alloc (.cells #[.int .i64 x.g, .int .i64 x.q, .int .i64 x.c, .int .i64 x.v, .string ⟨x.tag.toArray⟩] 23) = wb from hwb.symm]
    clear hwb
    obtain ⟨z0, z1, z2, z3, z4⟩ := (Hhk.out wb.drew (Below.refl _ _).drew)
    first | (go_region_with (first | (go_at_call 51; refine (Hhc51.out _ (by first | assumption | exact Below.refl _ _ | exact (Below.refl _ _).drew | exact Below.drew (by assumption))).mono ?_; rintro e wa ⟨rfl, hba⟩; obtain ⟨z0, z1, z2, z3, z4⟩ := Hhk.out _ hba) | (go_at_call 52; refine (Hhc52.out _ (by first | assumption | exact Below.refl _ _ | exact (Below.refl _ _).drew | exact Below.drew (by assumption))).mono ?_; rintro e wa ⟨rfl, hba⟩; obtain ⟨z0, z1, z2, z3, z4⟩ := Hhk.out _ hba))) | fail
    all_goals
      go_wp2_with fail
      go_ret
      exact ⟨rfl, hBb.trans (hba.mono (by have := Hhszb.out; omega))⟩
  · rw [hB] at hq hok
    rw [hok]
    have h8 : x.tag.length = 8 ∨ x.tag.length ≠ 8 := by omega
    clear hok hB
    go_enter Tryd.func29, Tryd.ntmps29
    go_wp2_with fail
    rw [show w.alloc (.cells #[.int .i64 x.g, .int .i64 x.q, .int .i64 x.c, .int .i64 x.v, .string ⟨x.tag.toArray⟩] 23) = wb from hwb.symm]
    clear hwb
    go_region_held3 (fun w' => w'.cell? ⟨w.heap.size, 0, none⟩ = some (.int .i64 x.g) ∧ w'.cell? ⟨w.heap.size, 1, none⟩ = some (.int .i64 x.q) ∧ w'.cell? ⟨w.heap.size, 2, none⟩ = some (.int .i64 x.c) ∧ w'.cell? ⟨w.heap.size, 3, none⟩ = some (.int .i64 x.v) ∧ w'.cell? ⟨w.heap.size, 4, none⟩ = some (.string ⟨x.tag.toArray⟩)) (exact Hhk.out _ (by first | assumption | exact Below.refl _ _ | exact (Below.refl _ _).drew | exact Below.drew (by assumption))) (first | (go_at_call 51; refine (Hhc51.out _ (by first | assumption | exact Below.refl _ _ | exact (Below.refl _ _).drew | exact Below.drew (by assumption))).mono ?_; rintro e wa ⟨rfl, hba⟩) | (go_at_call 52; refine (Hhc52.out _ (by first | assumption | exact Below.refl _ _ | exact (Below.refl _ _).drew | exact Below.drew (by assumption))).mono ?_; rintro e wa ⟨rfl, hba⟩))
    go_wp2_with fail
    go_ret
    refine ⟨ret_bool ?_, hBb.trans (hba.mono (by have := Hhszb.out; omega))⟩
    rw [Bool.eq_iff_iff]; simp; omega

end Go.Proofs.YtibhihobpehpbaaDoor
