/- The walks of gram: Genuine, Right, Bytes. -/
import Derived.Test.YtibhihobpehpbaaDoorD6
set_option linter.unusedSimpArgs false
set_option linter.unusedVariables false
namespace Go.Proofs.YtibhihobpehpbaaDoor
open Go.RowKit

theorem guard23 : Tryd.prog.eqGuardType Tryd.prog.depth 23 = false := by kernel_rfl
theorem stood23 : Tryd.prog.stoodInHeld 23 = false := by kernel_rfl
theorem fields23 : (Tryd.prog.fieldsOf 23).toList = [{ name := "Gauge", type := 3, offset := 0, embedded := false, tag := "", pkgPath := "", byteOffset := 0 }, { name := "Seq", type := 3, offset := 1, embedded := false, tag := "", pkgPath := "", byteOffset := 8 }, { name := "Clock", type := 3, offset := 2, embedded := false, tag := "", pkgPath := "", byteOffset := 16 }, { name := "Value", type := 3, offset := 3, embedded := false, tag := "", pkgPath := "", byteOffset := 24 }, { name := "Tag", type := 9, offset := 4, embedded := false, tag := "", pkgPath := "", byteOffset := 32 }] := by kernel_rfl
@[go_sem] theorem guard23_run (op : BinOp) (x y : Operand) (xs ys : Array Value) (w : World) : (eqGuard op 23 x y (.agg xs) (.agg ys)).run Tryd.prog w = .ok () w := run_eqGuard_agg w op 23 x y xs ys guard23
theorem str_beq (a b : List UInt8) : ((ByteArray.mk a.toArray).toList == (ByteArray.mk b.toArray).toList) = decide (a = b) := by
  rw [bytes_eq]; apply decide_eq_decide.2
  constructor
  · intro h
    have := congrArg (fun x : ByteArray => x.data.toList) h
    simpa using this
  · intro h; rw [h]
theorem equal23 (x y : Gr) (w : World) : (Op.equalIn 10000 23 (.agg #[.int .i64 x.g, .int .i64 x.q, .int .i64 x.c, .int .i64 x.v, .string ⟨x.tag.toArray⟩]) (.agg #[.int .i64 y.g, .int .i64 y.q, .int .i64 y.c, .int .i64 y.v, .string ⟨y.tag.toArray⟩])).run Tryd.prog w = .ok (decide (x = y)) w := by
  have hs := str_beq x.tag y.tag
  rw [run_equalIn_agg w _ 23 _ _ und23 stood23, fields23]
  obtain ⟨a0, a1, a2, a3, a4⟩ := x
  obtain ⟨b0, b1, b2, b3, b4⟩ := y
  simp only at hs ⊢
  by_cases h1 : a0 = b0
  · by_cases h2 : a1 = b1
    · by_cases h3 : a2 = b2
      · by_cases h4 : a3 = b3
        · by_cases h5 : a4 = b4 <;> simp [Op.eqFields, go_sem, h1, h2, h3, h4, h5, hs]
        · simp [Op.eqFields, go_sem, h1, h2, h3, h4]
      · simp [Op.eqFields, go_sem, h1, h2, h3]
    · simp [Op.eqFields, go_sem, h1, h2]
  · simp [Op.eqFields, go_sem, h1]

def genS (secret : List UInt8) (x : Gr) : Bool := x.ok && decide (sealS secret x = x)
def bytesS (x : Gr) : List UInt8 := if x.ok then coreS x ++ encText x.tag else []

set_option maxRecDepth 100000 in
set_option maxHeartbeats 2000000 in
theorem Genuine_calls (secret : List UInt8) (x : Gr) (m : Int) (w : World) (h : AllAt m w) (hx : x.wf) (hs : secret.length ≤ 300) :
    Calls Tryd.prog 14 #[.string ⟨secret.toArray⟩, x.val] w fun e w' => e = .returned (.bool (genS secret x)) ∧ Below w.heap.size w w' := by
  have hval : Gr.val x = .agg #[.int .i64 x.g, .int .i64 x.q, .int .i64 x.c, .int .i64 x.v, .string ⟨x.tag.toArray⟩] := rfl
  have h4 := h.2.2.1
  obtain ⟨wb, hwb⟩ : ∃ wb, wb = w.alloc (.cells x.cells 23) := ⟨_, rfl⟩
  have hbox : GrAt wb w.heap.size x := by rw [hwb]; exact heap_alloc_new w _
  have hBb : Below w.heap.size w wb := by rw [hwb]; exact (by ((repeat' (first | exact Below.refl _ _ | (refine Below.alloc ?_ ?_ _) | (refine Below.setCell ?_ ?_ _) | (refine Below.drew ?_) | (refine Below.trans ?_ (Below.mono (by assumption) ?_)))) <;> ((try simp only [World.size_alloc, World.size_setCell, World.size_drew] at *); omega)))
  have hszb : wb.heap.size = w.heap.size + 1 := by rw [hwb]; simp
  have hall : ∀ wx, Below wb.heap.size wb wx → AllAt m wx := fun wx hx => (h.below hBb h4).below hx (by omega)
  have hk : ∀ wx, Below wb.heap.size wb wx → GrC wx w.heap.size x := fun wx hx => (hbox.below hx (by omega)).c
  obtain ⟨T, hT⟩ : ∃ T, T = tagS secret x := ⟨_, rfl⟩
  obtain ⟨B, hB⟩ : ∃ B, B = decide (sealS secret x = x) := ⟨_, rfl⟩
  have hq : ∀ w, (Op.equalIn 10000 23 (.agg #[.int .i64 x.g, .int .i64 x.q, .int .i64 x.c, .int .i64 x.v, .string ⟨T.toArray⟩]) (.agg #[.int .i64 x.g, .int .i64 x.q, .int .i64 x.c, .int .i64 x.v, .string ⟨x.tag.toArray⟩])).run Tryd.prog w = .ok B w := fun w => by
    have := equal23 (sealS secret x) x w
    rw [hB, ← this, hT]; rfl
  have hc29 : ∀ wx, Below wb.heap.size wb wx → Calls Tryd.prog 29 #[.agg #[.int .i64 x.g, .int .i64 x.q, .int .i64 x.c, .int .i64 x.v, .string ⟨x.tag.toArray⟩]] wx fun e w' => e = .returned (.bool x.ok) ∧ Below wb.heap.size wb w' := fun wx hx =>
    (formed_calls x wx (hall wx hx).2.1).mono fun e w' ⟨h1, h2⟩ => ⟨h1, hx.trans (h2.mono hx.size)⟩
  have hc12 : ∀ wx, Below wb.heap.size wb wx → Calls Tryd.prog 12 #[.string ⟨secret.toArray⟩, .agg #[.int .i64 x.g, .int .i64 x.q, .int .i64 x.c, .int .i64 x.v, .string ⟨x.tag.toArray⟩]] wx fun e w' => e = .returned (.agg #[.int .i64 x.g, .int .i64 x.q, .int .i64 x.c, .int .i64 x.v, .string ⟨T.toArray⟩]) ∧ Below wb.heap.size wb w' := fun wx hy =>
    (Seal_calls secret x m wx (hall wx hy) hx hs).mono fun e w' ⟨h1, h2⟩ => ⟨by rw [h1, hT]; rfl, hy.trans (h2.mono hy.size)⟩
  have hgen : genS secret x = (x.ok && B) := by rw [genS, hB]
  rw [hgen, hval]
  have Hhbox := Lib.hid hbox
  clear hbox
  have Hhszb := Lib.hid hszb
  clear hszb
  have Hhall := Lib.hid hall
  clear hall
  have Hhk := Lib.hid hk
  clear hk
  have HhT := Lib.hid hT
  clear hT
  have HhB := Lib.hid hB
  clear hB
  have Hhc12 := Lib.hid hc12
  clear hc12
  have Hhgen := Lib.hid hgen
  clear hgen
  have Hhval := Lib.hid hval
  clear hval
  have Hhx := Lib.hid hx
  clear hx
  have Hh := Lib.hid h
  clear h
  cases hok : x.ok
  · rw [hok] at hc29
    clear hok
    have Hhc29 := Lib.hid hc29
    clear hc29
    go_enter Tryd.func14, Tryd.ntmps14
    go_wp2_with fail
    rw [show w.alloc (.cells #[.int .i64 x.g, .int .i64 x.q, .int .i64 x.c, .int .i64 x.v, .string ⟨x.tag.toArray⟩] 23) = wb from hwb.symm]
    clear hwb
    obtain ⟨z0, z1, z2, z3, z4⟩ := (Hhk.out wb.drew (Below.refl _ _).drew)
    first | (go_region_with (first | (go_at_call 29; refine (Hhc29.out _ (by first | assumption | exact Below.refl _ _ | exact (Below.refl _ _).drew | exact Below.drew (by assumption))).mono ?_; rintro e wa ⟨rfl, hba⟩; obtain ⟨z0, z1, z2, z3, z4⟩ := Hhk.out _ hba) | (go_at_call 12; refine (Hhc12.out _ (by first | assumption | exact Below.refl _ _ | exact (Below.refl _ _).drew | exact Below.drew (by assumption))).mono ?_; rintro e wa ⟨rfl, hba⟩; obtain ⟨z0, z1, z2, z3, z4⟩ := Hhk.out _ hba))) | fail
    all_goals
      go_wp2_with fail
      go_ret
      exact ⟨rfl, hBb.trans (hba.mono (by have := Hhszb.out; omega))⟩
  · rw [hok] at hc29
    clear hok
    have Hhc29 := Lib.hid hc29
    clear hc29
    go_enter Tryd.func14, Tryd.ntmps14
    go_wp2_with fail
    rw [show w.alloc (.cells #[.int .i64 x.g, .int .i64 x.q, .int .i64 x.c, .int .i64 x.v, .string ⟨x.tag.toArray⟩] 23) = wb from hwb.symm]
    clear hwb
    first | (go_region_held3 (fun w' => w'.cell? ⟨w.heap.size, 0, none⟩ = some (.int .i64 x.g) ∧ w'.cell? ⟨w.heap.size, 1, none⟩ = some (.int .i64 x.q) ∧ w'.cell? ⟨w.heap.size, 2, none⟩ = some (.int .i64 x.c) ∧ w'.cell? ⟨w.heap.size, 3, none⟩ = some (.int .i64 x.v) ∧ w'.cell? ⟨w.heap.size, 4, none⟩ = some (.string ⟨x.tag.toArray⟩)) (exact Hhk.out _ (by first | assumption | exact Below.refl _ _ | exact (Below.refl _ _).drew | exact Below.drew (by assumption))) (first | (go_at_call 29; refine (Hhc29.out _ (by first | assumption | exact Below.refl _ _ | exact (Below.refl _ _).drew | exact Below.drew (by assumption))).mono ?_; rintro e wa ⟨rfl, hba⟩) | (go_at_call 12; refine (Hhc12.out _ (by first | assumption | exact Below.refl _ _ | exact (Below.refl _ _).drew | exact Below.drew (by assumption))).mono ?_; rintro e wa ⟨rfl, hba⟩))) | fail
    all_goals
      go_wp2_with fail
      go_ret
      exact ⟨by simp, hBb.trans (hba.mono (by have := Hhszb.out; omega))⟩

set_option maxRecDepth 100000 in
set_option maxHeartbeats 2000000 in
theorem Bytes_calls (x : Gr) (m : Int) (w : World) (h : AllAt m w) (hx : x.wf) (ht : x.tag.length ≤ 300) :
    Calls Tryd.prog 18 #[x.val] w fun e w' => e = .returned (.string ⟨(bytesS x).toArray⟩) ∧ Below w.heap.size w w' := by
  have hval : Gr.val x = .agg #[.int .i64 x.g, .int .i64 x.q, .int .i64 x.c, .int .i64 x.v, .string ⟨x.tag.toArray⟩] := rfl
  have h4 := h.2.2.1
  obtain ⟨wb, hwb⟩ : ∃ wb, wb = w.alloc (.cells x.cells 23) := ⟨_, rfl⟩
  have hbox : GrAt wb w.heap.size x := by rw [hwb]; exact heap_alloc_new w _
  have hBb : Below w.heap.size w wb := by rw [hwb]; exact (by ((repeat' (first | exact Below.refl _ _ | (refine Below.alloc ?_ ?_ _) | (refine Below.setCell ?_ ?_ _) | (refine Below.drew ?_) | (refine Below.trans ?_ (Below.mono (by assumption) ?_)))) <;> ((try simp only [World.size_alloc, World.size_setCell, World.size_drew] at *); omega)))
  have hszb : wb.heap.size = w.heap.size + 1 := by rw [hwb]; simp
  have hall : ∀ wx, Below wb.heap.size wb wx → AllAt m wx := fun wx hx => (h.below hBb h4).below hx (by omega)
  have hk : ∀ wx, Below wb.heap.size wb wx → GrC wx w.heap.size x := fun wx hx => (hbox.below hx (by omega)).c
  obtain ⟨C, hC⟩ : ∃ C, C = coreS x := ⟨_, rfl⟩
  obtain ⟨S, hS⟩ : ∃ S, S = encText x.tag := ⟨_, rfl⟩
  obtain ⟨CS, hCS⟩ : ∃ L, L = C ++ S := ⟨_, rfl⟩
  have lS : S.length ≤ 602 := by rw [hS]; have := encText_le2 x.tag; omega
  have lC : C.length ≤ 36 := by rw [hC]; exact coreS_len x hx
  have cat1 : ∀ w, (Op.stringOp .add ⟨C.toArray⟩ ⟨S.toArray⟩).run Tryd.prog w = .ok (.string ⟨CS.toArray⟩) w := fun w => by rw [hCS]; exact cat_run C S (by omega) w
  have hc29 : Calls Tryd.prog 29 #[.agg #[.int .i64 x.g, .int .i64 x.q, .int .i64 x.c, .int .i64 x.v, .string ⟨x.tag.toArray⟩]] wb fun e w' => e = .returned (.bool x.ok) ∧ Below wb.heap.size wb w' := formed_calls x wb (hall wb (Below.refl _ _)).2.1
  have hc35 : ∀ wx, Below wb.heap.size wb wx → Calls Tryd.prog 35 #[.agg #[.int .i64 x.g, .int .i64 x.q, .int .i64 x.c, .int .i64 x.v, .string ⟨x.tag.toArray⟩]] wx fun e w' => e = .returned (.string ⟨C.toArray⟩) ∧ Below wb.heap.size wb w' := fun wx hy =>
    (core_calls x wx hx).mono fun e w' ⟨h1, h2⟩ => ⟨by rw [h1, hC], hy.trans (h2.mono hy.size)⟩
  have hc21 : ∀ wx, Below wb.heap.size wb wx → Calls Tryd.prog 21 #[.string ⟨x.tag.toArray⟩] wx fun e w' => e = .returned (.string ⟨S.toArray⟩) ∧ Below wb.heap.size wb w' := fun wx hx =>
    (Text_calls ⟨x.tag.toArray⟩ m wx (by rw [str_size]; omega) (hall wx hx).2.2.2).mono fun e w' ⟨h1, h2⟩ => ⟨by rw [h1, hS], hx.trans (h2.mono hx.size)⟩
  have hres : bytesS x = if x.ok then CS else [] := by rw [bytesS, hCS, hC, hS]
  rw [hres, hval]
  have Hhbox := Lib.hid hbox
  clear hbox
  have Hhszb := Lib.hid hszb
  clear hszb
  have Hhall := Lib.hid hall
  clear hall
  have Hhk := Lib.hid hk
  clear hk
  have HhC := Lib.hid hC
  clear hC
  have HhS := Lib.hid hS
  clear hS
  have HhCS := Lib.hid hCS
  clear hCS
  have Hhc35 := Lib.hid hc35
  clear hc35
  have Hhc21 := Lib.hid hc21
  clear hc21
  have Hhres := Lib.hid hres
  clear hres
  have Hhval := Lib.hid hval
  clear hval
  have Hhx := Lib.hid hx
  clear hx
  have Hh := Lib.hid h
  clear h
  cases hok : x.ok
  · rw [hok] at hc29
    clear hok
    have Hhc29 := Lib.hid hc29
    clear hc29
    rw [if_neg (by simp)]
    go_enter Tryd.func18, Tryd.ntmps18
    obtain ⟨z0, z1, z2, z3, z4⟩ := (Hhk.out wb (Below.refl _ _))
    go_wp2_with fail
    rw [show w.alloc (.cells #[.int .i64 x.g, .int .i64 x.q, .int .i64 x.c, .int .i64 x.v, .string ⟨x.tag.toArray⟩] 23) = wb from hwb.symm]
    clear hwb
    refine (Hhc29.out).mono ?_
    rintro e wa ⟨rfl, hba⟩
    go_wp2_with fail
    go_ret
    exact ⟨rfl, hBb.trans (hba.mono (by have := Hhszb.out; omega))⟩
  · rw [hok] at hc29
    clear hok
    have Hhc29 := Lib.hid hc29
    clear hc29
    rw [if_pos rfl]
    go_enter Tryd.func18, Tryd.ntmps18
    go_wp2_with fail
    rw [show w.alloc (.cells #[.int .i64 x.g, .int .i64 x.q, .int .i64 x.c, .int .i64 x.v, .string ⟨x.tag.toArray⟩] 23) = wb from hwb.symm]
    clear hwb
    refine (Hhc29.out).mono ?_
    rintro e wa ⟨rfl, hba⟩
    go_wp2_with fail
    first | (go_region_held3 (fun w' => w'.cell? ⟨w.heap.size, 0, none⟩ = some (.int .i64 x.g) ∧ w'.cell? ⟨w.heap.size, 1, none⟩ = some (.int .i64 x.q) ∧ w'.cell? ⟨w.heap.size, 2, none⟩ = some (.int .i64 x.c) ∧ w'.cell? ⟨w.heap.size, 3, none⟩ = some (.int .i64 x.v) ∧ w'.cell? ⟨w.heap.size, 4, none⟩ = some (.string ⟨x.tag.toArray⟩)) (exact Hhk.out _ (by first | assumption | exact Below.refl _ _ | exact (Below.refl _ _).drew | exact Below.drew (by assumption))) (first | (go_at_call 35; refine (Hhc35.out _ (by first | assumption | exact Below.refl _ _ | exact (Below.refl _ _).drew | exact Below.drew (by assumption))).mono ?_; rintro e wa ⟨rfl, hba⟩) | (go_at_call 21; refine (Hhc21.out _ (by first | assumption | exact Below.refl _ _ | exact (Below.refl _ _).drew | exact Below.drew (by assumption))).mono ?_; rintro e wa ⟨rfl, hba⟩))) | fail
    all_goals
      go_wp2_with fail
      go_ret
      exact ⟨rfl, hBb.trans (hba.mono (by have := Hhszb.out; omega))⟩
set_option maxRecDepth 100000 in
set_option maxHeartbeats 2000000 in
theorem Right_calls (b0 b1 b2 b3 b4 b5 b7 b8 b9 b10 : Value) (oa : Option Addr) (n cap : Nat) (x : Gr) (w : World) (h : GramAt w) (hn : n ≤ 9223372036854775807) :
    Calls Tryd.prog 16 #[.agg #[b0, b1, b2, b3, b4, b5, .slice oa n cap, b7, b8, b9, b10], x.val] w fun e w' => e = .returned (.bool (x.ok && decide (x.g < n))) ∧ Below w.heap.size w w' := by
  have hval : Gr.val x = .agg #[.int .i64 x.g, .int .i64 x.q, .int .i64 x.c, .int .i64 x.v, .string ⟨x.tag.toArray⟩] := rfl
  have h4 := h.1
  have hf := formed_calls x
  rw [hval] at *
  have Hhf := Lib.hid hf
  clear hf
  have Hhval := Lib.hid hval
  clear hval
  have Hh := Lib.hid h
  clear h
  cases hok : x.ok
  · have hf := Hhf.out
    rw [hok] at hf
    clear hok
    have Hhf := Lib.hid hf
    clear hf
    go_enter Tryd.func16, Tryd.ntmps16
    go_wp2_with fail
    generalize hW : World.alloc _ _ = w1
    have hA1 : w1.heap[w.heap.size]? = some (.cells #[b0, b1, b2, b3, b4, b5, .slice oa n cap, b7, b8, b9, b10] 35 (0, 0)) := by
      rw [← hW, Below.heap_alloc _ _ _ (by rw [World.size_alloc]; omega)]
      exact heap_alloc_new w _
    have hA2 : GrAt w1 (w.heap.size + 1) x := by
      rw [← hW]
      have := heap_alloc_new (w.alloc (.cells #[b0, b1, b2, b3, b4, b5, .slice oa n cap, b7, b8, b9, b10] 35)) (.cells x.cells 23)
      rw [World.size_alloc] at this
      exact this
    have hB1 : Below w.heap.size w w1 := by rw [← hW]; exact (by ((repeat' (first | exact Below.refl _ _ | (refine Below.alloc ?_ ?_ _) | (refine Below.setCell ?_ ?_ _) | (refine Below.drew ?_) | (refine Below.trans ?_ (Below.mono (by assumption) ?_)))) <;> ((try simp only [World.size_alloc, World.size_setCell, World.size_drew] at *); omega)))
    have hs1 : w1.heap.size = w.heap.size + 2 := by rw [← hW, World.size_alloc, World.size_alloc]
    clear hW
    have Hhs1 := Lib.hid hs1
    clear hs1
    refine (Hhf.out w1 (Hh.out.below hB1 h4)).mono ?_
    rintro e w2 ⟨rfl, hB2⟩
    have hA3 : w2.heap[w.heap.size]? = some (.cells #[b0, b1, b2, b3, b4, b5, .slice oa n cap, b7, b8, b9, b10] 35 (0, 0)) := by rw [hB2.block _ (by have := Hhs1.out; omega)]; exact hA1
    have hB3 := hB1.trans (hB2.mono (by have := Hhs1.out; omega))
    have c6 : w2.cell? ⟨w.heap.size, 6, none⟩ = some (.slice oa n cap) := by rw [cell_of_row _ _ _ _ _ _ hA3]; rfl
    obtain ⟨z0, z1, z2, z3, z4⟩ := (hA2.below hB2 (by have := Hhs1.out; omega)).c
    clear hA1 hA2 hA3 hB1 hB2
    go_wp2_with fail
    go_ret
    exact ⟨by simp, hB3⟩
  · have hf := Hhf.out
    rw [hok] at hf
    clear hok
    have Hhf := Lib.hid hf
    clear hf
    go_enter Tryd.func16, Tryd.ntmps16
    go_wp2_with fail
    generalize hW : World.alloc _ _ = w1
    have hA1 : w1.heap[w.heap.size]? = some (.cells #[b0, b1, b2, b3, b4, b5, .slice oa n cap, b7, b8, b9, b10] 35 (0, 0)) := by
      rw [← hW, Below.heap_alloc _ _ _ (by rw [World.size_alloc]; omega)]
      exact heap_alloc_new w _
    have hA2 : GrAt w1 (w.heap.size + 1) x := by
      rw [← hW]
      have := heap_alloc_new (w.alloc (.cells #[b0, b1, b2, b3, b4, b5, .slice oa n cap, b7, b8, b9, b10] 35)) (.cells x.cells 23)
      rw [World.size_alloc] at this
      exact this
    have hB1 : Below w.heap.size w w1 := by rw [← hW]; exact (by ((repeat' (first | exact Below.refl _ _ | (refine Below.alloc ?_ ?_ _) | (refine Below.setCell ?_ ?_ _) | (refine Below.drew ?_) | (refine Below.trans ?_ (Below.mono (by assumption) ?_)))) <;> ((try simp only [World.size_alloc, World.size_setCell, World.size_drew] at *); omega)))
    have hs1 : w1.heap.size = w.heap.size + 2 := by rw [← hW, World.size_alloc, World.size_alloc]
    clear hW
    have Hhs1 := Lib.hid hs1
    clear hs1
    refine (Hhf.out w1 (Hh.out.below hB1 h4)).mono ?_
    rintro e w2 ⟨rfl, hB2⟩
    have hA3 : w2.heap[w.heap.size]? = some (.cells #[b0, b1, b2, b3, b4, b5, .slice oa n cap, b7, b8, b9, b10] 35 (0, 0)) := by rw [hB2.block _ (by have := Hhs1.out; omega)]; exact hA1
    have hB3 := hB1.trans (hB2.mono (by have := Hhs1.out; omega))
    have c6 : w2.cell? ⟨w.heap.size, 6, none⟩ = some (.slice oa n cap) := by rw [cell_of_row _ _ _ _ _ _ hA3]; rfl
    obtain ⟨z0, z1, z2, z3, z4⟩ := (hA2.below hB2 (by have := Hhs1.out; omega)).c
    clear hA1 hA2 hA3 hB1 hB2
    go_wp2_with fail
    go_ret
    exact ⟨by simp, hB3⟩
end Go.Proofs.YtibhihobpehpbaaDoor
