/- The references' walks: In, Of, Key, Right, Sign, Ranges, Verify. -/
import Derived.Test.YtjbpjmdnmnbonaaDoorE3
import Derived.Deep.RegionHeld3
set_option linter.unusedSimpArgs false
set_option linter.unusedVariables false
namespace Go.Proofs.YtjbpjmdnmnbonaaDoor
open Go.RowKit

theorem refIn_calls (y : Int) (w : World) (hy : In64 y) :
    Calls Tryd.prog 49 #[.int .i64 y] w fun r w' => r = .returned (.bool (inG y)) ∧ Below w.heap.size w w' := by
  have h1 := refExp_calls y 1152921504606845789 w hy (by unfold In64; omega)
  have hl := expS_lt y 1152921504606845789
  have hin : inG y = (decide (0 < y) && (decide (y < 2305843009213691579) && expS y 1152921504606845789 == 1)) := rfl
  rw [hin]
  generalize expS y 1152921504606845789 = z at *
  by_cases h0 : 0 < y
  · by_cases h2 : y < 2305843009213691579
    · rw [decide_eq_true h0, decide_eq_true h2, Bool.true_and, Bool.true_and]
      have hz : ((z : Int) == 1) = (z == 1) := by rw [Bool.eq_iff_iff]; simp; omega
      have Hh1 := Lib.hid h1
      clear h1
      have Hhin := Lib.hid hin
      clear hin
      go_enter Tryd.func49, Tryd.ntmps49
      go_wp2_with fail
      refine Hh1.out.mono ?_
      rintro r w1 ⟨rfl, hB1⟩
      have HhB1 := Lib.hid hB1
      clear hB1
      go_wp2_with fail
      go_ret
      exact ⟨rfl, HhB1.out⟩
    · rw [decide_eq_false h2, Bool.false_and, Bool.and_false]
      clear h1 hin
      go_enter Tryd.func49, Tryd.ntmps49
      go_wp2_with fail
      go_ret
      exact ⟨rfl, Below.refl _ _⟩
  · rw [decide_eq_false h0, Bool.false_and]
    clear h1 hin
    go_enter Tryd.func49, Tryd.ntmps49
    go_wp2_with fail
    go_ret
    exact ⟨rfl, Below.refl _ _⟩
theorem refOf_calls (s : Int) (w : World) (hs : In64 s) :
    Calls Tryd.prog 13 #[.int .i64 s] w fun e w' => e = .returned (pv (ofS s)) ∧ Below w.heap.size w w' := by
  by_cases h1 : s < 1
  · rw [ofS, if_pos (.inl h1)]
    go_enter Tryd.func13, Tryd.ntmps13
    go_wp2_with fail
    exact bodyPost_ret (results_cell_row (fn := Tryd.f13) rfl _ _ w.heap.size 23 zeroP (0, 0) _ rfl (heap_alloc_new w _) und23 rfl (sz23 _ _)) rfl ⟨rfl, (by ((repeat' (first | exact Below.refl _ _ | (refine Below.alloc ?_ ?_ _) | (refine Below.setCell ?_ ?_ _) | (refine Below.drew ?_) | (refine Below.trans ?_ (Below.mono (by assumption) ?_)))) <;> ((try simp only [World.size_alloc, World.size_setCell, World.size_drew] at *); omega)))⟩
  · by_cases h2 : 1152921504606845789 ≤ s
    · rw [ofS, if_pos (.inr h2)]
      go_enter Tryd.func13, Tryd.ntmps13
      go_wp2_with fail
      exact bodyPost_ret (results_cell_row (fn := Tryd.f13) rfl _ _ w.heap.size 23 zeroP (0, 0) _ rfl (heap_alloc_new w _) und23 rfl (sz23 _ _)) rfl ⟨rfl, (by ((repeat' (first | exact Below.refl _ _ | (refine Below.alloc ?_ ?_ _) | (refine Below.setCell ?_ ?_ _) | (refine Below.drew ?_) | (refine Below.trans ?_ (Below.mono (by assumption) ?_)))) <;> ((try simp only [World.size_alloc, World.size_setCell, World.size_drew] at *); omega)))⟩
    · rw [ofS, if_neg (by omega)]
      have hc := fun wx => refExp_calls 4 s wx (by unfold In64; omega) hs
      have hl := expS_lt 4 s
      obtain ⟨z, hz⟩ : ∃ z, z = expS 4 s := ⟨_, rfl⟩
      rw [← hz] at hc hl ⊢
      have Hhc := Lib.hid hc
      clear hc
      have Hhz := Lib.hid hz
      clear hz
      go_enter Tryd.func13, Tryd.ntmps13
      go_wp2_with fail
      refine (Hhc.out _).mono ?_
      rintro e w1 ⟨rfl, hB⟩
      have hrow : w1.heap[w.heap.size]? = some (.cells zeroP 23 (0, 0)) := by rw [hB.block _ (by simp)]; exact heap_alloc_new w _
      have hB0 : Below w.heap.size w w1 := Below.trans (by ((repeat' (first | exact Below.refl _ _ | (refine Below.alloc ?_ ?_ _) | (refine Below.setCell ?_ ?_ _) | (refine Below.drew ?_) | (refine Below.trans ?_ (Below.mono (by assumption) ?_)))) <;> ((try simp only [World.size_alloc, World.size_setCell, World.size_drew] at *); omega))) (hB.mono (by simp))
      clear hB
      have Hhrow := Lib.hid hrow
      clear hrow
      have HhB0 := Lib.hid hB0
      clear hB0
      go_wp2_with (refine wpList_store_row rfl 23 _ _ rfl w.heap.size #[.int .i64 s, .int .i64 z] rfl rfl 23 zeroP Hhrow.out (sz23 _ _) rfl (pv_one _ _) ?_)
      exact bodyPost_ret (results_cell_row (fn := Tryd.f13) rfl _ _ w.heap.size 23 #[.int .i64 s, .int .i64 z] (0, 0) _ rfl (setRow_heap _ _ _ _ _ _ Hhrow.out) und23 rfl (sz23 _ _)) rfl ⟨by rw [Hhz.out]; rfl, below_setRow HhB0.out (Nat.le_refl _) _⟩
set_option maxRecDepth 100000 in
theorem refRight_calls (k : Int × Int) (w : World) (hk : In64 k.1) :
    Calls Tryd.prog 15 #[pv k] w fun e w' => e = .returned (.bool (rightS k)) ∧ Below w.heap.size w w' := by
  obtain ⟨a, b⟩ := k
  obtain ⟨wb, hwb⟩ : ∃ wb, wb = w.alloc (.cells #[.int .i64 a, .int .i64 b] 23) := ⟨_, rfl⟩
  have hbox : wb.heap[w.heap.size]? = some (.cells #[.int .i64 a, .int .i64 b] 23 (0, 0)) := by rw [hwb]; exact heap_alloc_new w _
  have hBb : Below w.heap.size w wb := by rw [hwb]; exact (by ((repeat' (first | exact Below.refl _ _ | (refine Below.alloc ?_ ?_ _) | (refine Below.setCell ?_ ?_ _) | (refine Below.drew ?_) | (refine Below.trans ?_ (Below.mono (by assumption) ?_)))) <;> ((try simp only [World.size_alloc, World.size_setCell, World.size_drew] at *); omega)))
  have hszb : wb.heap.size = w.heap.size + 1 := by rw [hwb]; simp
  have hK : ∀ wx, Below wb.heap.size wb wx → wx.cell? ⟨w.heap.size, 0, none⟩ = some (.int .i64 a) ∧ wx.cell? ⟨w.heap.size, 1, none⟩ = some (.int .i64 b) := fun wx hx => by
    have := (hx.block w.heap.size (by omega)).trans hbox
    refine ⟨?_, ?_⟩ <;> (rw [cell_of_row _ _ _ _ _ _ this]; rfl)
  have hc : ∀ wx, Below wb.heap.size wb wx → Calls Tryd.prog 13 #[.int .i64 a] wx fun e w' => e = .returned (pv (ofS a)) ∧ Below wb.heap.size wb w' := fun wx hx =>
    (refOf_calls a wx hk).mono fun e w' ⟨h1, h2⟩ => ⟨h1, hx.trans (h2.mono hx.size)⟩
  have hr : rightS (a, b) = (decide (0 < a) && decide ((a, b) = ofS a)) := rfl
  rw [hr, pv_of]
  obtain ⟨⟨p, q⟩, ho⟩ : ∃ k, k = ofS a := ⟨_, rfl⟩
  rw [← ho] at hc ⊢
  have heq := equal23 a b p q
  have hc' : ∀ wx, Below wb.heap.size wb wx → Calls Tryd.prog 13 #[.int .i64 a] wx fun e w' => e = .returned (.agg #[.int .i64 p, .int .i64 q]) ∧ Below wb.heap.size wb w' := hc
  have hend : ∀ wx, Below wb.heap.size wb wx → Below w.heap.size w wx := fun wx hx => hBb.trans (hx.mono hBb.size)
  clear hc ho
  by_cases h0 : 0 < a
  · rw [decide_eq_true h0, Bool.true_and]
    obtain ⟨E, hE⟩ : ∃ E, E = decide ((a, b) = (p, q)) := ⟨_, rfl⟩
    rw [← hE] at heq ⊢
    clear hE hr
    have hb1 : decide (1 ≤ a) = true := decide_eq_true (by omega)
    have HhK := Lib.hid hK
    clear hK
    have Hhc' := Lib.hid hc'
    clear hc'
    have Hhend := Lib.hid hend
    clear hend
    have Hhbox := Lib.hid hbox
    clear hbox
    have HhBb := Lib.hid hBb
    clear hBb
    go_enter Tryd.func15, Tryd.ntmps15
    go_wp2_with fail
    rw [show w.alloc (.cells #[.int .i64 a, .int .i64 b] 23) = wb from hwb.symm]
    clear hwb
    first | (go_region_held3 (fun w' => w'.cell? ⟨w.heap.size, 0, none⟩ = some (.int .i64 a) ∧ w'.cell? ⟨w.heap.size, 1, none⟩ = some (.int .i64 b)) (exact HhK.out _ (by first | assumption | exact Below.refl _ _ | exact (Below.refl _ _).drew | exact Below.drew (by assumption))) (first | (go_at_call 13; refine (Hhc'.out _ (by first | assumption | exact Below.refl _ _ | exact (Below.refl _ _).drew | exact Below.drew (by assumption))).mono ?_; rintro e wa ⟨rfl, hba⟩))) | fail
    go_wp2_with fail
    go_ret
    exact ⟨rfl, Hhend.out _ (by first | assumption | exact Below.refl _ _ | exact (Below.refl _ _).drew | exact Below.drew (by assumption))⟩
  · rw [decide_eq_false h0, Bool.false_and]
    obtain ⟨z0, z1⟩ := hK wb (Below.refl _ _)
    have hb0 : decide (1 ≤ a) = false := decide_eq_false (by omega)
    clear hr heq
    have HhK := Lib.hid hK
    clear hK
    have Hhc' := Lib.hid hc'
    clear hc'
    have Hhend := Lib.hid hend
    clear hend
    have Hhbox := Lib.hid hbox
    clear hbox
    have HhBb := Lib.hid hBb
    clear hBb
    go_enter Tryd.func15, Tryd.ntmps15
    go_wp2_with fail
    rw [show w.alloc (.cells #[.int .i64 a, .int .i64 b] 23) = wb from hwb.symm]
    clear hwb
    go_quiet (fail)
    go_wp2_with fail
    go_ret
    exact ⟨rfl, Hhend.out _ (below_drewN (Below.refl _ _) _)⟩

end Go.Proofs.YtjbpjmdnmnbonaaDoor
