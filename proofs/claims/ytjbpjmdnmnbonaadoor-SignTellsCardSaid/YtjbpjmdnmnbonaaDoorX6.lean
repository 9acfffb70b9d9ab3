/- The walks of sign: Key, Right. -/
import Derived.Test.YtjbpjmdnmnbonaaDoorX5
import Derived.Deep.RegionHeld3
set_option linter.unusedSimpArgs false
set_option linter.unusedVariables false
namespace Go.Proofs.YtjbpjmdnmnbonaaDoor
open Go.RowKit

def keyS (seed : List UInt8) : Int × Int := ofS (secretS [encText keyL, encText seed] : Nat)
theorem wpStore {P : Program} {ops : Array Oper} {rest : List Oper} {o : Oper} {a : Act} {w : World} {Q : Exit → Act → World → Prop} (hgd : o.guard = none) (ty : TypeId) (x y : Operand) (ho : o.op = .store ty x y)
    (g : Nat) (cells : Array Value) (hx : a.eval x = .pointer (some ⟨g, 0, none⟩)) (hy : a.eval y = .agg cells)
    (t : TypeId) (old : Array Value) (hg : w.heap[g]? = some (.cells old t (0, 0))) (hi : (P.info? ty).map (·.size) = some cells.size)
    (hold : old.size = cells.size) (h1 : cells.all (·.oneCell') = true)
    (h : ∀ w', w'.heap[g]? = some (.cells cells t (0, 0)) → (∀ B a0, Below B a0 w → B ≤ g → Below B a0 w') → wpList P ops Q rest (a.put o.dst undef) w') : wpList P ops Q (o :: rest) a w :=
  wpList_store_row hgd ty x y ho g cells hx hy t old hg hi hold h1 (h _ (setRow_heap _ _ _ _ _ _ hg) fun _ _ hb hB => below_setRow hb hB _)
theorem pv_of (k : Int × Int) : pv k = .agg #[.int .i64 k.1, .int .i64 k.2] := rfl
set_option maxRecDepth 100000 in
theorem key_calls (seed : List UInt8) (m : Int) (w : World) (h : SA m w) (hs : seed.length ≤ 2000) :
    Calls Tryd.prog 10 #[.string ⟨seed.toArray⟩] w fun e w' => e = .returned (pv (keyS seed)) ∧ Below w.heap.size w w' := by
  have h4 := h.2.1
  have hall : ∀ wx, Below w.heap.size w wx → SA m wx := fun wx hx => h.below hx h4
  obtain ⟨wb, hwb⟩ : ∃ wb, wb = w.alloc (.cells zeroP 23) := ⟨_, rfl⟩
  have hbox : wb.heap[w.heap.size]? = some (.cells zeroP 23 (0, 0)) := by rw [hwb]; exact heap_alloc_new w _
  have hBb : Below w.heap.size w wb := by rw [hwb]; exact (by ((repeat' (first | exact Below.refl _ _ | (refine Below.alloc ?_ ?_ _) | (refine Below.setCell ?_ ?_ _) | (refine Below.drew ?_) | (refine Below.trans ?_ (Below.mono (by assumption) ?_)))) <;> ((try simp only [World.size_alloc, World.size_setCell, World.size_drew] at *); omega)))
  have hszb : wb.heap.size = w.heap.size + 1 := by rw [hwb]; simp
  have c1 : ∀ wx, Below wb.heap.size wb wx → Calls Tryd.prog 27 #[.string ⟨#[107, 101, 121]⟩] wx fun e w' => e = .returned (.string ⟨(encText keyL).toArray⟩) ∧ Below wb.heap.size wb w' := fun wx hx =>
    (text_calls keyL m wx (hall wx (hBb.trans (hx.mono hBb.size))) (by decide)).mono fun e w' ⟨h1, h2⟩ => ⟨h1, hx.trans (h2.mono hx.size)⟩
  have c2 : ∀ wx, Below wb.heap.size wb wx → Calls Tryd.prog 27 #[.string ⟨seed.toArray⟩] wx fun e w' => e = .returned (.string ⟨(encText seed).toArray⟩) ∧ Below wb.heap.size wb w' := fun wx hx =>
    (text_calls seed m wx (hall wx (hBb.trans (hx.mono hBb.size))) (by omega)).mono fun e w' ⟨h1, h2⟩ => ⟨h1, hx.trans (h2.mono hx.size)⟩
  have hE : keyS seed = ofS (secretS [encText keyL, encText seed] : Nat) := rfl
  have l1 := encText_len2 keyL
  have l2 := encText_len2 seed
  have l1' : keyL.length = 3 := rfl
  rw [hE]
  clear hE
  generalize encText keyL = A1 at *
  generalize encText seed = A2 at *
  obtain ⟨Z, hZ⟩ : ∃ Z, Z = secretS [A1, A2] := ⟨_, rfl⟩
  have hZl : 1 ≤ Z ∧ Z < 1152921504606845789 := by rw [hZ]; exact secretS_lt _
  obtain ⟨hZ1, hZ2⟩ := hZl
  have hh : ∀ wx, Below wb.heap.size wb wx → Calls Tryd.prog 26 #[.slice (some ⟨wx.heap.size, 0, none⟩) 2 2] (wx.alloc (.cells #[.string ⟨A1.toArray⟩, .string ⟨A2.toArray⟩] 9)) fun e w' => e = .returned (.int .i64 (Z : Nat)) ∧ Below wb.heap.size wb w' := fun wx hx => by
    have hB := Below.alloc hx hx.size (.cells #[.string ⟨A1.toArray⟩, .string ⟨A2.toArray⟩] 9)
    have h1 := secret_calls wx.heap.size [A1, A2] (wx.alloc (.cells #[.string ⟨A1.toArray⟩, .string ⟨A2.toArray⟩] 9)) (hall _ (hBb.trans (hB.mono hBb.size))).1 (str_row wx [A1, A2]) (by simp) (by simp; omega) (by simp)
    rw [← hZ] at h1
    exact h1.mono fun e w' ⟨h1, h2⟩ => ⟨h1, hB.trans (h2.mono hB.size)⟩
  have ho : ∀ wx, Below wb.heap.size wb wx → Calls Tryd.prog 12 #[.int .i64 (Z : Nat)] wx fun e w' => e = .returned (pv (ofS (Z : Nat))) ∧ Below wb.heap.size wb w' := fun wx hx =>
    (of_calls (Z : Nat) wx (by unfold In64; omega)).mono fun e w' ⟨h1, h2⟩ => ⟨h1, hx.trans (h2.mono hx.size)⟩
  rw [← hZ]
  obtain ⟨k, hk⟩ : ∃ k, k = ofS (Z : Nat) := ⟨_, rfl⟩
  rw [← hk] at ho ⊢
  clear l1 l2 hZ hk
  have Hc1 := Lib.hid c1
  clear c1
  have Hc2 := Lib.hid c2
  clear c2
  have Hhh := Lib.hid hh
  clear hh
  have Hhall := Lib.hid hall
  clear hall
  have Hh := Lib.hid h
  clear h
  have Hhbox := Lib.hid hbox
  clear hbox
  have Hhszb := Lib.hid hszb
  clear hszb
  have HhBb := Lib.hid hBb
  clear hBb
  have Hho := Lib.hid ho
  clear ho
  go_enter Tryd.func10, Tryd.ntmps10
  go_wp2_with fail
  rw [show w.alloc (.cells #[.int .i64 0, .int .i64 0] 23) = wb from hwb.symm]
  clear hwb
  refine (Hc1.out _ (Below.refl _ _)).mono ?_
  rintro e w1 ⟨rfl, hB1⟩
  have HhB1 := Lib.hid hB1
  clear hB1
  go_wp2_with fail
  refine (Hc2.out _ HhB1.out).mono ?_
  rintro e w2 ⟨rfl, hB2⟩
  have HhB2 := Lib.hid hB2
  clear hB2
  go_wp2_with fail
  refine (Hhh.out _ HhB2.out).mono ?_
  rintro e w3 ⟨rfl, hB3⟩
  have HhB3 := Lib.hid hB3
  clear hB3
  go_wp2_with fail
  refine (Hho.out _ HhB3.out).mono ?_
  rintro e w4 ⟨rfl, hB4⟩
  have hrow : w4.heap[w.heap.size]? = some (.cells zeroP 23 (0, 0)) := by rw [hB4.block _ (by have := Hhszb.out; omega)]; exact Hhbox.out
  have hB0 : Below w.heap.size w w4 := HhBb.out.trans (hB4.mono HhBb.out.size)
  have Hhrow := Lib.hid hrow
  clear hrow
  have HhB0 := Lib.hid hB0
  clear hB0
  have HhB4 := Lib.hid hB4
  clear hB4
  go_wp2_with (refine wpStore rfl 23 _ _ rfl w.heap.size #[.int .i64 k.1, .int .i64 k.2] rfl rfl 23 zeroP Hhrow.out (sz23 _ _) rfl (pv_one _ _) ?_; intro w5 hr5 hb5)
  exact bodyPost_ret (results_cell_row (fn := Tryd.f10) rfl _ _ w.heap.size 23 #[.int .i64 k.1, .int .i64 k.2] (0, 0) _ rfl hr5 und23 rfl (sz23 _ _)) rfl ⟨rfl, hb5 _ _ HhB0.out (Nat.le_refl _)⟩

theorem stood23 : Tryd.prog.stoodInHeld 23 = false := by kernel_rfl
theorem guard23 : Tryd.prog.eqGuardType Tryd.prog.depth 23 = false := by kernel_rfl
@[go_sem] theorem guard23_run (op : BinOp) (x y : Operand) (xs ys : Array Value) (w : World) : (eqGuard op 23 x y (.agg xs) (.agg ys)).run Tryd.prog w = .ok () w := run_eqGuard_agg w op 23 x y xs ys guard23
theorem fields23 : (Tryd.prog.fieldsOf 23).toList = [{ name := "Secret", type := 3, offset := 0, embedded := false, tag := "", pkgPath := "", byteOffset := 0 }, { name := "Public", type := 3, offset := 1, embedded := false, tag := "", pkgPath := "", byteOffset := 8 }] := by kernel_rfl
set_option maxRecDepth 100000 in
theorem equal23 (a0 a1 b0 b1 : Int) (w : World) : (Op.equalIn 10000 23 (.agg #[.int .i64 a0, .int .i64 a1]) (.agg #[.int .i64 b0, .int .i64 b1])).run Tryd.prog w = .ok (decide ((a0, a1) = (b0, b1))) w := by
  rw [run_equalIn_agg w _ 23 _ _ und23 stood23, fields23]
  by_cases h1 : a0 = b0
  · by_cases h2 : a1 = b1 <;> simp [Op.eqFields, go_sem, h1, h2]
  · simp [Op.eqFields, go_sem, h1]
def rightS (k : Int × Int) : Bool := decide (0 < k.1) && decide (k = ofS k.1)
set_option maxRecDepth 100000 in
theorem right_calls (k : Int × Int) (w : World) (hk : In64 k.1) :
    Calls Tryd.prog 14 #[pv k] w fun e w' => e = .returned (.bool (rightS k)) ∧ Below w.heap.size w w' := by
  obtain ⟨a, b⟩ := k
  obtain ⟨wb, hwb⟩ : ∃ wb, wb = w.alloc (.cells #[.int .i64 a, .int .i64 b] 23) := ⟨_, rfl⟩
  have hbox : wb.heap[w.heap.size]? = some (.cells #[.int .i64 a, .int .i64 b] 23 (0, 0)) := by rw [hwb]; exact heap_alloc_new w _
  have hBb : Below w.heap.size w wb := by rw [hwb]; exact (by ((repeat' (first | exact Below.refl _ _ | (refine Below.alloc ?_ ?_ _) | (refine Below.setCell ?_ ?_ _) | (refine Below.drew ?_) | (refine Below.trans ?_ (Below.mono (by assumption) ?_)))) <;> ((try simp only [World.size_alloc, World.size_setCell, World.size_drew] at *); omega)))
  have hszb : wb.heap.size = w.heap.size + 1 := by rw [hwb]; simp
  have hK : ∀ wx, Below wb.heap.size wb wx → wx.cell? ⟨w.heap.size, 0, none⟩ = some (.int .i64 a) ∧ wx.cell? ⟨w.heap.size, 1, none⟩ = some (.int .i64 b) := fun wx hx => by
    have := (hx.block w.heap.size (by omega)).trans hbox
    refine ⟨?_, ?_⟩ <;> (rw [cell_of_row _ _ _ _ _ _ this]; rfl)
  have hc : ∀ wx, Below wb.heap.size wb wx → Calls Tryd.prog 12 #[.int .i64 a] wx fun e w' => e = .returned (pv (ofS a)) ∧ Below wb.heap.size wb w' := fun wx hx =>
    (of_calls a wx hk).mono fun e w' ⟨h1, h2⟩ => ⟨h1, hx.trans (h2.mono hx.size)⟩
  have hr : rightS (a, b) = (decide (0 < a) && decide ((a, b) = ofS a)) := rfl
  rw [hr, pv_of]
  obtain ⟨⟨p, q⟩, ho⟩ : ∃ k, k = ofS a := ⟨_, rfl⟩
  rw [← ho] at hc ⊢
  have heq := equal23 a b p q
  have hc' : ∀ wx, Below wb.heap.size wb wx → Calls Tryd.prog 12 #[.int .i64 a] wx fun e w' => e = .returned (.agg #[.int .i64 p, .int .i64 q]) ∧ Below wb.heap.size wb w' := hc
  have hend : ∀ wx, Below wb.heap.size wb wx → Below w.heap.size w wx := fun wx hx => hBb.trans (hx.mono hBb.size)
  clear hc ho
  by_cases h0 : 0 < a
  · rw [decide_eq_true h0, Bool.true_and]
    obtain ⟨E, hE⟩ : ∃ E, E = decide ((a, b) = (p, q)) := ⟨_, rfl⟩
    rw [← hE] at heq ⊢
    clear hE hr
    have HhK := Lib.hid hK
    clear hK
    have Hhc' := Lib.hid hc'
    clear hc'
    have Hhend := Lib.hid hend
    clear hend
    have Hhbox := Lib.hid hbox
    clear hbox
    have HhBb := Lib.hid hBb
    clear hBb
    go_enter Tryd.func14, Tryd.ntmps14
    go_wp2_with fail
    rw [show w.alloc (.cells #[.int .i64 a, .int .i64 b] 23) = wb from hwb.symm]
    clear hwb
    first | (go_region_held3 (fun w' => w'.cell? ⟨w.heap.size, 0, none⟩ = some (.int .i64 a) ∧ w'.cell? ⟨w.heap.size, 1, none⟩ = some (.int .i64 b)) (exact HhK.out _ (by first | assumption | exact Below.refl _ _ | exact (Below.refl _ _).drew | exact Below.drew (by assumption))) (first | (go_at_call 12; refine (Hhc'.out _ (by first | assumption | exact Below.refl _ _ | exact (Below.refl _ _).drew | exact Below.drew (by assumption))).mono ?_; rintro e wa ⟨rfl, hba⟩))) | fail
    go_wp2_with fail
    go_ret
    exact ⟨rfl, Hhend.out _ (by first | assumption | exact Below.refl _ _ | exact (Below.refl _ _).drew | exact Below.drew (by assumption))⟩
  · rw [decide_eq_false h0, Bool.false_and]
    obtain ⟨z0, z1⟩ := hK wb (Below.refl _ _)
    have hb0 : decide (0 < a) = false := decide_eq_false h0
    clear hr heq
    have HhK := Lib.hid hK
    clear hK
    have Hhc' := Lib.hid hc'
    clear hc'
    have Hhend := Lib.hid hend
    clear hend
    have Hhbox := Lib.hid hbox
    clear hbox
    have HhBb := Lib.hid hBb
    clear hBb
    go_enter Tryd.func14, Tryd.ntmps14
    go_wp2_with fail
    rw [show w.alloc (.cells #[.int .i64 a, .int .i64 b] 23) = wb from hwb.symm]
    clear hwb
    go_quiet (fail)
    go_wp2_with fail
    go_ret
    exact ⟨rfl, Hhend.out _ (below_drewN (Below.refl _ _) _)⟩
end Go.Proofs.YtjbpjmdnmnbonaaDoor
