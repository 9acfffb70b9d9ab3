/- The walks of bourneref24: Tag, Seal, Bytes, Right, Genuine. -/
import Derived.Test.YtibhihobpehpbaaDoorR8
set_option linter.unusedSimpArgs false
set_option linter.unusedVariables false
namespace Go.Proofs.YtibhihobpehpbaaDoor
open Go.RowKit
set_option maxRecDepth 100000 in
set_option maxHeartbeats 4000000 in
theorem TagR_calls (secret : List UInt8) (x : Gr) (w : World) (hx : x.wf) (hs : secret.length ≤ 300) :
    Calls Tryd.prog 36 #[.string ⟨secret.toArray⟩, x.val] w fun e w' => e = .returned (.string ⟨(tagS secret x).toArray⟩) ∧ Below w.heap.size w w' := by
  have hval : Gr.val x = .agg #[.int .i64 x.g, .int .i64 x.q, .int .i64 x.c, .int .i64 x.v, .string ⟨x.tag.toArray⟩] := rfl
  obtain ⟨wb, hwb⟩ : ∃ wb, wb = w.alloc (.cells x.cells 23) := ⟨_, rfl⟩
  have hbox : GrAt wb w.heap.size x := by rw [hwb]; exact heap_alloc_new w _
  have hBb : Below w.heap.size w wb := by rw [hwb]; exact (by ((repeat' (first | exact Below.refl _ _ | (refine Below.alloc ?_ ?_ _) | (refine Below.setCell ?_ ?_ _) | (refine Below.drew ?_) | (refine Below.trans ?_ (Below.mono (by assumption) ?_)))) <;> ((try simp only [World.size_alloc, World.size_setCell, World.size_drew] at *); omega)))
  have hszb : wb.heap.size = w.heap.size + 1 := by rw [hwb, World.size_alloc]
  have hk : ∀ wx, Below wb.heap.size wb wx → GrC wx w.heap.size x := fun wx hx => (hbox.below hx (by omega)).c
  obtain ⟨A, hA⟩ : ∃ A, A = encText gramL := ⟨_, rfl⟩
  obtain ⟨S, hS⟩ : ∃ S, S = encText secret := ⟨_, rfl⟩
  obtain ⟨C, hC⟩ : ∃ C, C = coreS x := ⟨_, rfl⟩
  obtain ⟨AS, hAS⟩ : ∃ L, L = A ++ S := ⟨_, rfl⟩
  obtain ⟨ASC, hASC⟩ : ∃ L, L = AS ++ C := ⟨_, rfl⟩
  obtain ⟨D, hD⟩ : ∃ L, L = digestS ASC := ⟨_, rfl⟩
  obtain ⟨T, hT⟩ : ∃ L, L = D.take 8 := ⟨_, rfl⟩
  have lA : A.length ≤ 10 := by rw [hA]; exact encText_le2 gramL
  have lS : S.length ≤ 602 := by rw [hS]; have := encText_le2 secret; omega
  have lC : C.length ≤ 36 := by rw [hC]; exact coreS_len x hx
  have lAS : AS.length ≤ 612 := by rw [hAS, List.length_append]; omega
  have lASC : ASC.length ≤ 100000 := by rw [hASC, List.length_append]; omega
  have hDl : D.length = 32 := by rw [hD]; exact digestS_len _
  have hDs := str_size D
  have h8 : (8 : Int) ≤ (D.length : Int) := by omega
  have hext : (ByteArray.mk D.toArray).extract 0 8 = ⟨T.toArray⟩ := by rw [hT]; apply ByteArray.ext; simp [ByteArray.data_extract]
  have cat1 : ∀ w, (Op.stringOp .add ⟨A.toArray⟩ ⟨S.toArray⟩).run Tryd.prog w = .ok (.string ⟨AS.toArray⟩) w := fun w => by rw [hAS]; exact cat_run A S (by omega) w
  have cat2 : ∀ w, (Op.stringOp .add ⟨AS.toArray⟩ ⟨C.toArray⟩).run Tryd.prog w = .ok (.string ⟨ASC.toArray⟩) w := fun w => by rw [hASC]; exact cat_run AS C (by omega) w
  have hc21a : ∀ wx, Below wb.heap.size wb wx → Calls Tryd.prog 38 #[.string ⟨#[103, 114, 97, 109]⟩] wx fun e w' => e = .returned (.string ⟨A.toArray⟩) ∧ Below wb.heap.size wb w' := fun wx hx =>
    (refText_calls ⟨#[103, 114, 97, 109]⟩ wx (by decide)).mono fun e w' ⟨h1, h2⟩ => ⟨by rw [h1, hA]; rfl, hx.trans (h2.mono hx.size)⟩
  have hc21b : ∀ wx, Below wb.heap.size wb wx → Calls Tryd.prog 38 #[.string ⟨secret.toArray⟩] wx fun e w' => e = .returned (.string ⟨S.toArray⟩) ∧ Below wb.heap.size wb w' := fun wx hx =>
    (refText_calls ⟨secret.toArray⟩ wx (by rw [str_size]; omega)).mono fun e w' ⟨h1, h2⟩ => ⟨by rw [h1, hS], hx.trans (h2.mono hx.size)⟩
  have hc35 : ∀ wx, Below wb.heap.size wb wx → Calls Tryd.prog 37 #[.agg #[.int .i64 x.g, .int .i64 x.q, .int .i64 x.c, .int .i64 x.v, .string ⟨x.tag.toArray⟩]] wx fun e w' => e = .returned (.string ⟨C.toArray⟩) ∧ Below wb.heap.size wb w' := fun wx hy =>
    (coreR_calls x wx hx).mono fun e w' ⟨h1, h2⟩ => ⟨by rw [h1, hC], hy.trans (h2.mono hy.size)⟩
  have hc20 : ∀ wx, Below wb.heap.size wb wx → Calls Tryd.prog 56 #[.string ⟨ASC.toArray⟩] wx fun e w' => e = .returned (.string ⟨D.toArray⟩) ∧ Below wb.heap.size wb w' := fun wx hx =>
    (SumR_calls ASC wx (by omega)).mono fun e w' ⟨h1, h2⟩ => ⟨by rw [h1, hD], hx.trans (h2.mono hx.size)⟩
  have hres2 : tagS secret x = T := by rw [tagS, hT, hD, hASC, hAS, hA, hS, hC]
  rw [hres2, hval]
  have Hhbox := Lib.hid hbox
  clear hbox
  have Hhszb := Lib.hid hszb
  clear hszb
  have Hhk := Lib.hid hk
  clear hk
  have HhA := Lib.hid hA
  clear hA
  have HhS := Lib.hid hS
  clear hS
  have HhC := Lib.hid hC
  clear hC
  have HhAS := Lib.hid hAS
  clear hAS
  have HhASC := Lib.hid hASC
  clear hASC
  have HhD := Lib.hid hD
  clear hD
  have HhT := Lib.hid hT
  clear hT
  have HhDl := Lib.hid hDl
  clear hDl
  have Hhc21a := Lib.hid hc21a
  clear hc21a
  have Hhc21b := Lib.hid hc21b
  clear hc21b
  have Hhc35 := Lib.hid hc35
  clear hc35
  have Hhc20 := Lib.hid hc20
  clear hc20
  have Hhres2 := Lib.hid hres2
  clear hres2
  have Hhval := Lib.hid hval
  clear hval
  have Hhx := Lib.hid hx
  clear hx
  go_enter Tryd.func36, Tryd.ntmps36
  go_wp2_with fail
  rw [show w.alloc (.cells #[.int .i64 x.g, .int .i64 x.q, .int .i64 x.c, .int .i64 x.v, .string ⟨x.tag.toArray⟩] 23) = wb from hwb.symm]
  clear hwb
  obtain ⟨z0, z1, z2, z3, z4⟩ := (Hhk.out wb.drew (Below.refl _ _).drew)
  go_region_with (first | (go_at_call_of 38 secret.toArray; refine (Hhc21b.out _ (by first | assumption | exact Below.refl _ _ | exact (Below.refl _ _).drew | exact Below.drew (by assumption))).mono ?_; rintro e wa ⟨rfl, hba⟩; obtain ⟨z0, z1, z2, z3, z4⟩ := Hhk.out _ hba) | (go_at_call 38; refine (Hhc21a.out _ (by first | assumption | exact Below.refl _ _ | exact (Below.refl _ _).drew | exact Below.drew (by assumption))).mono ?_; rintro e wa ⟨rfl, hba⟩; obtain ⟨z0, z1, z2, z3, z4⟩ := Hhk.out _ hba) | (go_at_call 37; refine (Hhc35.out _ (by first | assumption | exact Below.refl _ _ | exact (Below.refl _ _).drew | exact Below.drew (by assumption))).mono ?_; rintro e wa ⟨rfl, hba⟩; obtain ⟨z0, z1, z2, z3, z4⟩ := Hhk.out _ hba) | (go_at_call 56; refine (Hhc20.out _ (by first | assumption | exact Below.refl _ _ | exact (Below.refl _ _).drew | exact Below.drew (by assumption))).mono ?_; rintro e wa ⟨rfl, hba⟩; obtain ⟨z0, z1, z2, z3, z4⟩ := Hhk.out _ hba))
  all_goals
    clear z0 z1 z2 z3 z4
    go_wp2_with fail
    go_ret
    exact ⟨rfl, hBb.trans (hba.mono (by have := Hhszb.out; omega))⟩
set_option maxRecDepth 100000 in
set_option maxHeartbeats 4000000 in
theorem SealR_calls (secret : List UInt8) (x : Gr) (w : World) (hx : x.wf) (hs : secret.length ≤ 300) :
    Calls Tryd.prog 13 #[.string ⟨secret.toArray⟩, x.val] w fun e w' => e = .returned (sealS secret x).val ∧ Below w.heap.size w w' := by
  have hval : Gr.val x = .agg #[.int .i64 x.g, .int .i64 x.q, .int .i64 x.c, .int .i64 x.v, .string ⟨x.tag.toArray⟩] := rfl
  obtain ⟨wb, hwb⟩ : ∃ wb, wb = (w.alloc (.cells x.cells 23)).alloc (.cells zeroGr.cells 23) := ⟨_, rfl⟩
  have hbox : GrAt wb w.heap.size x := by
    rw [hwb]; unfold GrAt
    rw [Below.heap_alloc _ _ _ (by rw [World.size_alloc]; omega)]
    exact heap_alloc_new w _
  have hres : GrAt wb (w.heap.size + 1) zeroGr := by
    rw [hwb]
    have := heap_alloc_new (w.alloc (.cells x.cells 23)) (.cells zeroGr.cells 23)
    rw [World.size_alloc] at this
    exact this
  have hBb : Below w.heap.size w wb := by rw [hwb]; exact (by ((repeat' (first | exact Below.refl _ _ | (refine Below.alloc ?_ ?_ _) | (refine Below.setCell ?_ ?_ _) | (refine Below.drew ?_) | (refine Below.trans ?_ (Below.mono (by assumption) ?_)))) <;> ((try simp only [World.size_alloc, World.size_setCell, World.size_drew] at *); omega)))
  have hszb : wb.heap.size = w.heap.size + 2 := by rw [hwb, World.size_alloc, World.size_alloc]
  have hc := TagR_calls secret x wb hx hs
  have hres2 : sealS secret x = { x with tag := tagS secret x } := rfl
  obtain ⟨T, hT⟩ : ∃ T, T = tagS secret x := ⟨_, rfl⟩
  rw [← hT] at hc hres2
  rw [hval] at hc
  rw [hres2, hval]
  obtain ⟨z0, z1, z2, z3, z4⟩ := hbox.c
  have Hhbox := Lib.hid hbox
  clear hbox
  have Hhres := Lib.hid hres
  clear hres
  have Hhszb := Lib.hid hszb
  clear hszb
  have HhT := Lib.hid hT
  clear hT
  have Hhc := Lib.hid hc
  clear hc
  have Hhres2 := Lib.hid hres2
  clear hres2
  have Hhval := Lib.hid hval
  clear hval
  have Hhx := Lib.hid hx
  clear hx
  go_enter Tryd.func13, Tryd.ntmps13
  go_upto_region 1 with (fail)
  rw [show ((w.alloc (.cells #[.int .i64 x.g, .int .i64 x.q, .int .i64 x.c, .int .i64 x.v, .string ⟨x.tag.toArray⟩] 23)).alloc (.cells #[.int .i64 0, .int .i64 0, .int .i64 0, .int .i64 0, .string ⟨#[]⟩] 23)) = wb from hwb.symm]
  clear hwb
  go_wp2_with fail
  refine (Hhc.out).mono ?_
  rintro e wa ⟨rfl, hba⟩
  have f4 : wa.frozen? ⟨w.heap.size, 4, none⟩ = false := cell_frozen (Hhbox.out.below hba (by have := Hhszb.out; omega))
  have hx0 := Hhbox.out.below hba (by have := Hhszb.out; omega)
  have hB1 := hBb.trans (hba.mono (by have := Hhszb.out; omega))
  have hx5 := hx0.setTag T
  have hr5 : GrAt (wa.setCell ⟨w.heap.size, 4, none⟩ (.string ⟨T.toArray⟩)) (w.heap.size + 1) zeroGr := (Below.heap_setCell _ _ _ _ (by simp)).trans (Hhres.out.below hba (by have := Hhszb.out; omega))
  have hB5 : Below w.heap.size w (wa.setCell ⟨w.heap.size, 4, none⟩ (.string ⟨T.toArray⟩)) := Below.setCell hB1 (Nat.le_refl _) _
  obtain ⟨z0, z1, z2, z3, z4⟩ := hx0.c
  clear hba hB1 hx0
  have Hhx5 := Lib.hid hx5
  clear hx5
  have Hhr5 := Lib.hid hr5
  clear hr5
  have HhB5 := Lib.hid hB5
  clear hB5
  go_upto_region 2 with (fail)
  have hx5 := Hhx5.out
  have hr5 := Hhr5.out
  have hB5 := HhB5.out
  clear z0 z1 z2 z3 z4 f4 Hhx5 Hhr5 HhB5
  generalize wa.setCell ⟨w.heap.size, 4, none⟩ (.string ⟨T.toArray⟩) = w5 at *
  obtain ⟨y, hy⟩ : ∃ y : Gr, y = { x with tag := T } := ⟨_, rfl⟩
  rw [← hy] at hx5
  have hyv : Value.agg #[.int .i64 x.g, .int .i64 x.q, .int .i64 x.c, .int .i64 x.v, .string ⟨T.toArray⟩] = .agg y.cells := by rw [hy]; rfl
  have Hhx5 := Lib.hid hx5
  clear hx5
  have Hhr5 := Lib.hid hr5
  clear hr5
  have HhB5 := Lib.hid hB5
  clear hB5
  have Hhy := Lib.hid hy
  clear hy
  have Hhyv := Lib.hid hyv
  clear hyv
  go_wp2_with (first | (refine wpList_load_row rfl 23 _ rfl w.heap.size rfl 23 y.cells (0, 0) _ Hhx5.out und23 rfl (sz23 y) ?_) | (refine wpList_store_row rfl 23 _ _ rfl (w.heap.size + 1) y.cells rfl rfl 23 zeroGr.cells Hhr5.out (sz23 y) rfl (gr_one y) ?_))
  exact bodyPost_ret (results_cell_row (fn := Tryd.f13) rfl _ _ (w.heap.size + 1) 23 y.cells (0, 0) _ rfl (setRow_heap _ _ _ _ _ _ Hhr5.out) und23 rfl (sz23 y)) rfl ⟨by rw [← Hhyv.out]; rfl, below_setRow HhB5.out (by omega) _⟩
set_option maxRecDepth 100000 in
set_option maxHeartbeats 4000000 in
theorem BytesR_calls (x : Gr) (w : World) (hx : x.wf) (ht : x.tag.length ≤ 300) :
    Calls Tryd.prog 19 #[x.val] w fun e w' => e = .returned (.string ⟨(bytesS x).toArray⟩) ∧ Below w.heap.size w w' := by
  have hval : Gr.val x = .agg #[.int .i64 x.g, .int .i64 x.q, .int .i64 x.c, .int .i64 x.v, .string ⟨x.tag.toArray⟩] := rfl
  obtain ⟨wb, hwb⟩ : ∃ wb, wb = w.alloc (.cells x.cells 23) := ⟨_, rfl⟩
  have hbox : GrAt wb w.heap.size x := by rw [hwb]; exact heap_alloc_new w _
  have hBb : Below w.heap.size w wb := by rw [hwb]; exact (by ((repeat' (first | exact Below.refl _ _ | (refine Below.alloc ?_ ?_ _) | (refine Below.setCell ?_ ?_ _) | (refine Below.drew ?_) | (refine Below.trans ?_ (Below.mono (by assumption) ?_)))) <;> ((try simp only [World.size_alloc, World.size_setCell, World.size_drew] at *); omega)))
  have hszb : wb.heap.size = w.heap.size + 1 := by rw [hwb]; simp
  have hk : ∀ wx, Below wb.heap.size wb wx → GrC wx w.heap.size x := fun wx hx => (hbox.below hx (by omega)).c
  obtain ⟨C, hC⟩ : ∃ C, C = coreS x := ⟨_, rfl⟩
  obtain ⟨S, hS⟩ : ∃ S, S = encText x.tag := ⟨_, rfl⟩
  obtain ⟨CS, hCS⟩ : ∃ L, L = C ++ S := ⟨_, rfl⟩
  have lS : S.length ≤ 602 := by rw [hS]; have := encText_le2 x.tag; omega
  have lC : C.length ≤ 36 := by rw [hC]; exact coreS_len x hx
  have cat1 : ∀ w, (Op.stringOp .add ⟨C.toArray⟩ ⟨S.toArray⟩).run Tryd.prog w = .ok (.string ⟨CS.toArray⟩) w := fun w => by rw [hCS]; exact cat_run C S (by omega) w
  have hc29 : Calls Tryd.prog 34 #[.agg #[.int .i64 x.g, .int .i64 x.q, .int .i64 x.c, .int .i64 x.v, .string ⟨x.tag.toArray⟩]] wb fun e w' => e = .returned (.bool x.ok) ∧ Below wb.heap.size wb w' := formedR_calls x wb (by omega)
  have hc35 : ∀ wx, Below wb.heap.size wb wx → Calls Tryd.prog 37 #[.agg #[.int .i64 x.g, .int .i64 x.q, .int .i64 x.c, .int .i64 x.v, .string ⟨x.tag.toArray⟩]] wx fun e w' => e = .returned (.string ⟨C.toArray⟩) ∧ Below wb.heap.size wb w' := fun wx hy =>
    (coreR_calls x wx hx).mono fun e w' ⟨h1, h2⟩ => ⟨by rw [h1, hC], hy.trans (h2.mono hy.size)⟩
  have hc21 : ∀ wx, Below wb.heap.size wb wx → Calls Tryd.prog 38 #[.string ⟨x.tag.toArray⟩] wx fun e w' => e = .returned (.string ⟨S.toArray⟩) ∧ Below wb.heap.size wb w' := fun wx hx =>
    (refText_calls ⟨x.tag.toArray⟩ wx (by rw [str_size]; omega)).mono fun e w' ⟨h1, h2⟩ => ⟨by rw [h1, hS], hx.trans (h2.mono hx.size)⟩
  have hres : bytesS x = if x.ok then CS else [] := by rw [bytesS, hCS, hC, hS]
  rw [hres, hval]
  have Hhbox := Lib.hid hbox
  clear hbox
  have Hhszb := Lib.hid hszb
  clear hszb
  have Hhk := Lib.hid hk
  clear hk
  have HhC := Lib.hid hC
  clear hC
  have HhS := Lib.hid hS
  clear hS
  have HhCS := Lib.hid hCS
  clear hCS
  have Hhc35 := Lib.hid hc35
  clear hc35
  have Hhc21 := Lib.hid hc21
  clear hc21
  have Hhres := Lib.hid hres
  clear hres
  have Hhval := Lib.hid hval
  clear hval
  have Hhx := Lib.hid hx
  clear hx
  cases hok : x.ok
  · rw [hok] at hc29
    clear hok
    have Hhc29 := Lib.hid hc29
    clear hc29
    rw [if_neg (by simp)]
    go_enter Tryd.func19, Tryd.ntmps19
    obtain ⟨z0, z1, z2, z3, z4⟩ := (Hhk.out wb (Below.refl _ _))
    go_wp2_with fail
    rw [show w.alloc (.cells #[.int .i64 x.g, .int .i64 x.q, .int .i64 x.c, .int .i64 x.v, .string ⟨x.tag.toArray⟩] 23) = wb from hwb.symm]
    clear hwb
    refine (Hhc29.out).mono ?_
    rintro e wa ⟨rfl, hba⟩
    go_wp2_with fail
    go_ret
    exact ⟨rfl, hBb.trans (hba.mono (by have := Hhszb.out; omega))⟩
  · rw [hok] at hc29
    clear hok
    have Hhc29 := Lib.hid hc29
    clear hc29
    rw [if_pos rfl]
    go_enter Tryd.func19, Tryd.ntmps19
    go_wp2_with fail
    rw [show w.alloc (.cells #[.int .i64 x.g, .int .i64 x.q, .int .i64 x.c, .int .i64 x.v, .string ⟨x.tag.toArray⟩] 23) = wb from hwb.symm]
    clear hwb
    refine (Hhc29.out).mono ?_
    rintro e wa ⟨rfl, hba⟩
    go_wp2_with fail
    first | (go_region_held3 (fun w' => w'.cell? ⟨w.heap.size, 0, none⟩ = some (.int .i64 x.g) ∧ w'.cell? ⟨w.heap.size, 1, none⟩ = some (.int .i64 x.q) ∧ w'.cell? ⟨w.heap.size, 2, none⟩ = some (.int .i64 x.c) ∧ w'.cell? ⟨w.heap.size, 3, none⟩ = some (.int .i64 x.v) ∧ w'.cell? ⟨w.heap.size, 4, none⟩ = some (.string ⟨x.tag.toArray⟩)) (exact Hhk.out _ (by first | assumption | exact Below.refl _ _ | exact (Below.refl _ _).drew | exact Below.drew (by assumption))) (first | (go_at_call 37; refine (Hhc35.out _ (by first | assumption | exact Below.refl _ _ | exact (Below.refl _ _).drew | exact Below.drew (by assumption))).mono ?_; rintro e wa ⟨rfl, hba⟩) | (go_at_call 38; refine (Hhc21.out _ (by first | assumption | exact Below.refl _ _ | exact (Below.refl _ _).drew | exact Below.drew (by assumption))).mono ?_; rintro e wa ⟨rfl, hba⟩))) | fail
    all_goals
      go_wp2_with fail
      go_ret
      exact ⟨rfl, hBb.trans (hba.mono (by have := Hhszb.out; omega))⟩
set_option maxRecDepth 100000 in
set_option maxHeartbeats 4000000 in
theorem RightR_calls (b0 b1 b2 b3 b4 b5 b7 b8 b9 b10 : Value) (oa : Option Addr) (n cap : Nat) (x : Gr) (w : World) (htl : x.tag.length ≤ 9223372036854775807) (hn : n ≤ 9223372036854775807) :
    Calls Tryd.prog 17 #[.agg #[b0, b1, b2, b3, b4, b5, .slice oa n cap, b7, b8, b9, b10], x.val] w fun e w' => e = .returned (.bool (x.ok && decide (x.g < n))) ∧ Below w.heap.size w w' := by
  have hval : Gr.val x = .agg #[.int .i64 x.g, .int .i64 x.q, .int .i64 x.c, .int .i64 x.v, .string ⟨x.tag.toArray⟩] := rfl
  have hf := fun w => formedR_calls x w htl
  rw [hval] at *
  have Hhf := Lib.hid hf
  clear hf
  have Hhval := Lib.hid hval
  clear hval
  cases hok : x.ok
  · have hf := Hhf.out
    rw [hok] at hf
    clear hok
    have Hhf := Lib.hid hf
    clear hf
    go_enter Tryd.func17, Tryd.ntmps17
    go_wp2_with fail
    generalize hW : World.alloc _ _ = w1
    have hA1 : w1.heap[w.heap.size]? = some (.cells #[b0, b1, b2, b3, b4, b5, .slice oa n cap, b7, b8, b9, b10] 35 (0, 0)) := by
      rw [← hW, Below.heap_alloc _ _ _ (by rw [World.size_alloc]; omega)]
      exact heap_alloc_new w _
    have hA2 : GrAt w1 (w.heap.size + 1) x := by
      rw [← hW]
      have := heap_alloc_new (w.alloc (.cells #[b0, b1, b2, b3, b4, b5, .slice oa n cap, b7, b8, b9, b10] 35)) (.cells x.cells 23)
      rw [World.size_alloc] at this
      exact this
    have hB1 : Below w.heap.size w w1 := by rw [← hW]; exact (by ((repeat' (first | exact Below.refl _ _ | (refine Below.alloc ?_ ?_ _) | (refine Below.setCell ?_ ?_ _) | (refine Below.drew ?_) | (refine Below.trans ?_ (Below.mono (by assumption) ?_)))) <;> ((try simp only [World.size_alloc, World.size_setCell, World.size_drew] at *); omega)))
    have hs1 : w1.heap.size = w.heap.size + 2 := by rw [← hW, World.size_alloc, World.size_alloc]
    clear hW
    have Hhs1 := Lib.hid hs1
    clear hs1
    refine (Hhf.out w1).mono ?_
    rintro e w2 ⟨rfl, hB2⟩
    have hA3 : w2.heap[w.heap.size]? = some (.cells #[b0, b1, b2, b3, b4, b5, .slice oa n cap, b7, b8, b9, b10] 35 (0, 0)) := by rw [hB2.block _ (by have := Hhs1.out; omega)]; exact hA1
    have hB3 := hB1.trans (hB2.mono (by have := Hhs1.out; omega))
    have c6 : w2.cell? ⟨w.heap.size, 6, none⟩ = some (.slice oa n cap) := by rw [cell_of_row _ _ _ _ _ _ hA3]; rfl
    obtain ⟨z0, z1, z2, z3, z4⟩ := (hA2.below hB2 (by have := Hhs1.out; omega)).c
    clear hA1 hA2 hA3 hB1 hB2
    go_wp2_with fail
    go_ret
    exact ⟨by simp, hB3⟩
  · have hf := Hhf.out
    rw [hok] at hf
    clear hok
    have Hhf := Lib.hid hf
    clear hf
    go_enter Tryd.func17, Tryd.ntmps17
    go_wp2_with fail
    generalize hW : World.alloc _ _ = w1
    have hA1 : w1.heap[w.heap.size]? = some (.cells #[b0, b1, b2, b3, b4, b5, .slice oa n cap, b7, b8, b9, b10] 35 (0, 0)) := by
      rw [← hW, Below.heap_alloc _ _ _ (by rw [World.size_alloc]; omega)]
      exact heap_alloc_new w _
    have hA2 : GrAt w1 (w.heap.size + 1) x := by
      rw [← hW]
      have := heap_alloc_new (w.alloc (.cells #[b0, b1, b2, b3, b4, b5, .slice oa n cap, b7, b8, b9, b10] 35)) (.cells x.cells 23)
      rw [World.size_alloc] at this
      exact this
    have hB1 : Below w.heap.size w w1 := by rw [← hW]; exact (by ((repeat' (first | exact Below.refl _ _ | (refine Below.alloc ?_ ?_ _) | (refine Below.setCell ?_ ?_ _) | (refine Below.drew ?_) | (refine Below.trans ?_ (Below.mono (by assumption) ?_)))) <;> ((try simp only [World.size_alloc, World.size_setCell, World.size_drew] at *); omega)))
    have hs1 : w1.heap.size = w.heap.size + 2 := by rw [← hW, World.size_alloc, World.size_alloc]
    clear hW
    have Hhs1 := Lib.hid hs1
    clear hs1
    refine (Hhf.out w1).mono ?_
    rintro e w2 ⟨rfl, hB2⟩
    have hA3 : w2.heap[w.heap.size]? = some (.cells #[b0, b1, b2, b3, b4, b5, .slice oa n cap, b7, b8, b9, b10] 35 (0, 0)) := by rw [hB2.block _ (by have := Hhs1.out; omega)]; exact hA1
    have hB3 := hB1.trans (hB2.mono (by have := Hhs1.out; omega))
    have c6 : w2.cell? ⟨w.heap.size, 6, none⟩ = some (.slice oa n cap) := by rw [cell_of_row _ _ _ _ _ _ hA3]; rfl
    obtain ⟨z0, z1, z2, z3, z4⟩ := (hA2.below hB2 (by have := Hhs1.out; omega)).c
    clear hA1 hA2 hA3 hB1 hB2
    go_wp2_with fail
    go_ret
    exact ⟨by simp, hB3⟩
end Go.Proofs.YtibhihobpehpbaaDoor
