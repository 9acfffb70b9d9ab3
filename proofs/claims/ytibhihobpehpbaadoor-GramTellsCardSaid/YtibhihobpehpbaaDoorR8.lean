/- The walks of bourneref24: Formed, core, Tag, Seal. -/
import Derived.Test.YtibhihobpehpbaaDoorR7
import Derived.Test.YtibhihobpehpbaaDoorD7
import Derived.Deep.DeepCutAuto
set_option linter.unusedSimpArgs false
set_option linter.unusedVariables false
namespace Go.Proofs.YtibhihobpehpbaaDoor
open Go.RowKit

theorem okd (x : Gr) : x.ok = (decide (x.g ≥ 0) && decide (x.g < 128) && decide (x.q ≥ 0) && decide (x.q ≤ 1099511627776) && decide (x.c ≥ 0) && decide (x.c ≤ 1006633019) && decide (x.v ≥ -1099511627776) && decide (x.v ≤ 1099511627776) && decide (x.tag.length = 8)) := by
  rw [Bool.eq_iff_iff]; simp [Gr.ok, Gr.inB, inI]; omega

set_option maxRecDepth 100000 in
set_option maxHeartbeats 2000000 in
theorem formedR_calls (x : Gr) (w : World) (htl : x.tag.length ≤ 9223372036854775807) :
    Calls Tryd.prog 34 #[x.val] w fun e w' => e = .returned (.bool x.ok) ∧ Below w.heap.size w w' := by
  have hval : Gr.val x = .agg #[.int .i64 x.g, .int .i64 x.q, .int .i64 x.c, .int .i64 x.v, .string ⟨x.tag.toArray⟩] := rfl
  have hst := str_size x.tag
  have hokd := okd x
  obtain ⟨wb, hwb⟩ : ∃ wb, wb = w.alloc (.cells x.cells 23) := ⟨_, rfl⟩
  have hbox : GrAt wb w.heap.size x := by rw [hwb]; exact heap_alloc_new w _
  have hBb : Below w.heap.size w wb := by rw [hwb]; exact (by ((repeat' (first | exact Below.refl _ _ | (refine Below.alloc ?_ ?_ _) | (refine Below.setCell ?_ ?_ _) | (refine Below.drew ?_) | (refine Below.trans ?_ (Below.mono (by assumption) ?_)))) <;> ((try simp only [World.size_alloc, World.size_setCell, World.size_drew] at *); omega)))
  obtain ⟨z0, z1, z2, z3, z4⟩ := hbox.c
  rw [hval]
  have Hhokd := Lib.hid hokd
  clear hokd
  have Hhval := Lib.hid hval
  clear hval
  have Hhbox := Lib.hid hbox
  clear hbox
  go_enter Tryd.func34, Tryd.ntmps34
  go_upto_region 1 with (fail)
  rw [show w.alloc (.cells #[.int .i64 x.g, .int .i64 x.q, .int .i64 x.c, .int .i64 x.v, .string ⟨x.tag.toArray⟩] 23) = wb from hwb.symm]
  clear hwb
  go_cut [2] (fun s2 wc => s2 = .bool x.ok ∧ wc = wb)
  case first =>
    go_wp2_with fail
    all_goals go_meet
    all_goals (refine ⟨?_, rfl⟩; rw [Hhokd.out]; congr 1; rw [Bool.eq_iff_iff]; simp; omega)
  case rest =>
    obtain ⟨rfl, rfl⟩ := hcut
    go_wp2_with fail
    go_ret
    exact ⟨rfl, hBb⟩

set_option maxRecDepth 100000 in
set_option maxHeartbeats 2000000 in
theorem coreR_calls (x : Gr) (w : World) (hx : x.wf) :
    Calls Tryd.prog 37 #[x.val] w fun e w' => e = .returned (.string ⟨(coreS x).toArray⟩) ∧ Below w.heap.size w w' := by
  have hval : Gr.val x = .agg #[.int .i64 x.g, .int .i64 x.q, .int .i64 x.c, .int .i64 x.v, .string ⟨x.tag.toArray⟩] := rfl
  obtain ⟨wb, hwb⟩ : ∃ wb, wb = w.alloc (.cells x.cells 23) := ⟨_, rfl⟩
  have hbox : GrAt wb w.heap.size x := by rw [hwb]; exact heap_alloc_new w _
  have hBb : Below w.heap.size w wb := by rw [hwb]; exact (by ((repeat' (first | exact Below.refl _ _ | (refine Below.alloc ?_ ?_ _) | (refine Below.setCell ?_ ?_ _) | (refine Below.drew ?_) | (refine Below.trans ?_ (Below.mono (by assumption) ?_)))) <;> ((try simp only [World.size_alloc, World.size_setCell, World.size_drew] at *); omega)))
  have hszb : wb.heap.size = w.heap.size + 1 := by rw [hwb]; simp
  have hk : ∀ wx, Below wb.heap.size wb wx → GrC wx w.heap.size x := fun wx hx => (hbox.below hx (by omega)).c
  obtain ⟨A, hA⟩ : ∃ A, A = encInt x.g := ⟨_, rfl⟩
  obtain ⟨B, hB⟩ : ∃ A, A = encInt x.q := ⟨_, rfl⟩
  obtain ⟨C, hC⟩ : ∃ A, A = encInt x.c := ⟨_, rfl⟩
  obtain ⟨D, hD⟩ : ∃ A, A = encInt x.v := ⟨_, rfl⟩
  obtain ⟨AB, hAB⟩ : ∃ L, L = A ++ B := ⟨_, rfl⟩
  obtain ⟨ABC, hABC⟩ : ∃ L, L = AB ++ C := ⟨_, rfl⟩
  obtain ⟨ABCD, hABCD⟩ : ∃ L, L = ABC ++ D := ⟨_, rfl⟩
  have lA : A.length ≤ 9 := by rw [hA]; exact encInt_len _ hx.1
  have lB : B.length ≤ 9 := by rw [hB]; exact encInt_len _ hx.2.1
  have lC : C.length ≤ 9 := by rw [hC]; exact encInt_len _ hx.2.2.1
  have lD : D.length ≤ 9 := by rw [hD]; exact encInt_len _ hx.2.2.2
  have lAB : AB.length ≤ 18 := by rw [hAB, List.length_append]; omega
  have lABC : ABC.length ≤ 27 := by rw [hABC, List.length_append]; omega
  have cat1 : ∀ w, (Op.stringOp .add ⟨A.toArray⟩ ⟨B.toArray⟩).run Tryd.prog w = .ok (.string ⟨AB.toArray⟩) w := fun w => by rw [hAB]; exact cat_run A B (by omega) w
  have cat2 : ∀ w, (Op.stringOp .add ⟨AB.toArray⟩ ⟨C.toArray⟩).run Tryd.prog w = .ok (.string ⟨ABC.toArray⟩) w := fun w => by rw [hABC]; exact cat_run AB C (by omega) w
  have cat3 : ∀ w, (Op.stringOp .add ⟨ABC.toArray⟩ ⟨D.toArray⟩).run Tryd.prog w = .ok (.string ⟨ABCD.toArray⟩) w := fun w => by rw [hABCD]; exact cat_run ABC D (by omega) w
  have hcg : ∀ wx, Below wb.heap.size wb wx → Calls Tryd.prog 54 #[.int .i64 x.g] wx fun e w' => e = .returned (.string ⟨A.toArray⟩) ∧ Below wb.heap.size wb w' := fun wx hy =>
    (refInt_calls x.g wx hx.1).mono fun e w' ⟨h1, h2⟩ => ⟨by rw [h1, hA], hy.trans (h2.mono hy.size)⟩
  have hcq : ∀ wx, Below wb.heap.size wb wx → Calls Tryd.prog 54 #[.int .i64 x.q] wx fun e w' => e = .returned (.string ⟨B.toArray⟩) ∧ Below wb.heap.size wb w' := fun wx hy =>
    (refInt_calls x.q wx hx.2.1).mono fun e w' ⟨h1, h2⟩ => ⟨by rw [h1, hB], hy.trans (h2.mono hy.size)⟩
  have hcc : ∀ wx, Below wb.heap.size wb wx → Calls Tryd.prog 54 #[.int .i64 x.c] wx fun e w' => e = .returned (.string ⟨C.toArray⟩) ∧ Below wb.heap.size wb w' := fun wx hy =>
    (refInt_calls x.c wx hx.2.2.1).mono fun e w' ⟨h1, h2⟩ => ⟨by rw [h1, hC], hy.trans (h2.mono hy.size)⟩
  have hcv : ∀ wx, Below wb.heap.size wb wx → Calls Tryd.prog 54 #[.int .i64 x.v] wx fun e w' => e = .returned (.string ⟨D.toArray⟩) ∧ Below wb.heap.size wb w' := fun wx hy =>
    (refInt_calls x.v wx hx.2.2.2).mono fun e w' ⟨h1, h2⟩ => ⟨by rw [h1, hD], hy.trans (h2.mono hy.size)⟩
  have hres : coreS x = ABCD := by rw [coreS, hABCD, hABC, hAB, hA, hB, hC, hD]; simp
  rw [hres, hval]
  have Hhbox := Lib.hid hbox
  clear hbox
  have Hhszb := Lib.hid hszb
  clear hszb
  have Hhk := Lib.hid hk
  clear hk
  have HhA := Lib.hid hA
  clear hA
  have HhB := Lib.hid hB
  clear hB
  have HhC := Lib.hid hC
  clear hC
  have HhD := Lib.hid hD
  clear hD
  have HhAB := Lib.hid hAB
  clear hAB
  have HhABC := Lib.hid hABC
  clear hABC
  have HhABCD := Lib.hid hABCD
  clear hABCD
  have Hhcg := Lib.hid hcg
  clear hcg
  have Hhcq := Lib.hid hcq
  clear hcq
  have Hhcc := Lib.hid hcc
  clear hcc
  have Hhcv := Lib.hid hcv
  clear hcv
  have Hhres := Lib.hid hres
  clear hres
  have Hhval := Lib.hid hval
  clear hval
  have Hhx := Lib.hid hx
  clear hx
  go_enter Tryd.func37, Tryd.ntmps37
  go_wp2_with fail
  rw [show w.alloc (.cells #[.int .i64 x.g, .int .i64 x.q, .int .i64 x.c, .int .i64 x.v, .string ⟨x.tag.toArray⟩] 23) = wb from hwb.symm]
  clear hwb
  first | (go_region_held3 (fun w' => w'.cell? ⟨w.heap.size, 0, none⟩ = some (.int .i64 x.g) ∧ w'.cell? ⟨w.heap.size, 1, none⟩ = some (.int .i64 x.q) ∧ w'.cell? ⟨w.heap.size, 2, none⟩ = some (.int .i64 x.c) ∧ w'.cell? ⟨w.heap.size, 3, none⟩ = some (.int .i64 x.v) ∧ w'.cell? ⟨w.heap.size, 4, none⟩ = some (.string ⟨x.tag.toArray⟩)) (exact Hhk.out _ (by first | assumption | exact Below.refl _ _ | exact (Below.refl _ _).drew | exact Below.drew (by assumption))) (first | (go_at_call_of 54 x.g; refine (Hhcg.out _ (by first | assumption | exact Below.refl _ _ | exact (Below.refl _ _).drew | exact Below.drew (by assumption))).mono ?_; rintro e wa ⟨rfl, hba⟩) | (go_at_call_of 54 x.q; refine (Hhcq.out _ (by first | assumption | exact Below.refl _ _ | exact (Below.refl _ _).drew | exact Below.drew (by assumption))).mono ?_; rintro e wa ⟨rfl, hba⟩) | (go_at_call_of 54 x.c; refine (Hhcc.out _ (by first | assumption | exact Below.refl _ _ | exact (Below.refl _ _).drew | exact Below.drew (by assumption))).mono ?_; rintro e wa ⟨rfl, hba⟩) | (go_at_call_of 54 x.v; refine (Hhcv.out _ (by first | assumption | exact Below.refl _ _ | exact (Below.refl _ _).drew | exact Below.drew (by assumption))).mono ?_; rintro e wa ⟨rfl, hba⟩))) | fail
  all_goals
    go_wp2_with fail
    go_ret
    exact ⟨rfl, hBb.trans (hba.mono (by have := Hhszb.out; omega))⟩
end Go.Proofs.YtibhihobpehpbaaDoor
