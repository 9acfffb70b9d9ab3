/- The walk of bourneref24.Genuine. -/
import Derived.Test.YtibhihobpehpbaaDoorR9
set_option linter.unusedSimpArgs false
set_option linter.unusedVariables false
namespace Go.Proofs.YtibhihobpehpbaaDoor
open Go.RowKit

theorem seal_eq_iff (secret : List UInt8) (x : Gr) : decide (sealS secret x = x) = decide (x.tag = tagS secret x) := by
  apply decide_eq_decide.2
  obtain ⟨g, q, c, v, t⟩ := x
  simp only [sealS, Gr.mk.injEq, true_and]
  exact ⟨fun h => h.symm, fun h => h.symm⟩

set_option maxRecDepth 100000 in
set_option maxHeartbeats 2000000 in
theorem GenuineR_calls (secret : List UInt8) (x : Gr) (w : World) (hx : x.wf) (hs : secret.length ≤ 300) (htl : x.tag.length ≤ 9223372036854775807) :
    Calls Tryd.prog 15 #[.string ⟨secret.toArray⟩, x.val] w fun e w' => e = .returned (.bool (genS secret x)) ∧ Below w.heap.size w w' := by
  have hval : Gr.val x = .agg #[.int .i64 x.g, .int .i64 x.q, .int .i64 x.c, .int .i64 x.v, .string ⟨x.tag.toArray⟩] := rfl
  obtain ⟨wb, hwb⟩ : ∃ wb, wb = w.alloc (.cells x.cells 23) := ⟨_, rfl⟩
  have hbox : GrAt wb w.heap.size x := by rw [hwb]; exact heap_alloc_new w _
  have hBb : Below w.heap.size w wb := by rw [hwb]; exact (by ((repeat' (first | exact Below.refl _ _ | (refine Below.alloc ?_ ?_ _) | (refine Below.setCell ?_ ?_ _) | (refine Below.drew ?_) | (refine Below.trans ?_ (Below.mono (by assumption) ?_)))) <;> ((try simp only [World.size_alloc, World.size_setCell, World.size_drew] at *); omega)))
  have hszb : wb.heap.size = w.heap.size + 1 := by rw [hwb]; simp
  have hk : ∀ wx, Below wb.heap.size wb wx → GrC wx w.heap.size x := fun wx hx => (hbox.below hx (by omega)).c
  obtain ⟨T, hT⟩ : ∃ T, T = tagS secret x := ⟨_, rfl⟩
  obtain ⟨B, hB⟩ : ∃ B, B = decide (x.tag = T) := ⟨_, rfl⟩
  have hq : ((ByteArray.mk x.tag.toArray).toList == (ByteArray.mk T.toArray).toList) = B := by rw [hB]; exact str_beq _ _
  have hc34 : ∀ wx, Below wb.heap.size wb wx → Calls Tryd.prog 34 #[.agg #[.int .i64 x.g, .int .i64 x.q, .int .i64 x.c, .int .i64 x.v, .string ⟨x.tag.toArray⟩]] wx fun e w' => e = .returned (.bool x.ok) ∧ Below wb.heap.size wb w' := fun wx hy =>
    (formedR_calls x wx htl).mono fun e w' ⟨h1, h2⟩ => ⟨h1, hy.trans (h2.mono hy.size)⟩
  have hc36 : ∀ wx, Below wb.heap.size wb wx → Calls Tryd.prog 36 #[.string ⟨secret.toArray⟩, .agg #[.int .i64 x.g, .int .i64 x.q, .int .i64 x.c, .int .i64 x.v, .string ⟨x.tag.toArray⟩]] wx fun e w' => e = .returned (.string ⟨T.toArray⟩) ∧ Below wb.heap.size wb w' := fun wx hy =>
    (TagR_calls secret x wx hx hs).mono fun e w' ⟨h1, h2⟩ => ⟨by rw [h1, hT], hy.trans (h2.mono hy.size)⟩
  have hgen : genS secret x = (x.ok && B) := by rw [genS, hB, seal_eq_iff, hT]
  rw [hgen, hval]
  have Hhbox := Lib.hid hbox
  clear hbox
  have Hhszb := Lib.hid hszb
  clear hszb
  have Hhk := Lib.hid hk
  clear hk
  have HhT := Lib.hid hT
  clear hT
  have HhB := Lib.hid hB
  clear hB
  have Hhc36 := Lib.hid hc36
  clear hc36
  have Hhgen := Lib.hid hgen
  clear hgen
  have Hhval := Lib.hid hval
  clear hval
  have Hhx := Lib.hid hx
  clear hx
  cases hok : x.ok
  · rw [hok] at hc34
    clear hok
    have Hhc34 := Lib.hid hc34
    clear hc34
    go_enter Tryd.func15, Tryd.ntmps15
    go_wp2_with fail
    rw [show w.alloc (.cells #[.int .i64 x.g, .int .i64 x.q, .int .i64 x.c, .int .i64 x.v, .string ⟨x.tag.toArray⟩] 23) = wb from hwb.symm]
    clear hwb
    obtain ⟨z0, z1, z2, z3, z4⟩ := (Hhk.out wb.drew (Below.refl _ _).drew)
    first | (go_region_with (first | (go_at_call 34; refine (Hhc34.out _ (by first | assumption | exact Below.refl _ _ | exact (Below.refl _ _).drew | exact Below.drew (by assumption))).mono ?_; rintro e wa ⟨rfl, hba⟩; obtain ⟨z0, z1, z2, z3, z4⟩ := Hhk.out _ hba) | (go_at_call 36; refine (Hhc36.out _ (by first | assumption | exact Below.refl _ _ | exact (Below.refl _ _).drew | exact Below.drew (by assumption))).mono ?_; rintro e wa ⟨rfl, hba⟩; obtain ⟨z0, z1, z2, z3, z4⟩ := Hhk.out _ hba))) | fail
    all_goals
      go_wp2_with fail
      go_ret
      exact ⟨rfl, hBb.trans (hba.mono (by have := Hhszb.out; omega))⟩
  · rw [hok] at hc34
    clear hok
    have Hhc34 := Lib.hid hc34
    clear hc34
    go_enter Tryd.func15, Tryd.ntmps15
    go_wp2_with fail
    rw [show w.alloc (.cells #[.int .i64 x.g, .int .i64 x.q, .int .i64 x.c, .int .i64 x.v, .string ⟨x.tag.toArray⟩] 23) = wb from hwb.symm]
    clear hwb
    first | (go_region_held3 (fun w' => w'.cell? ⟨w.heap.size, 0, none⟩ = some (.int .i64 x.g) ∧ w'.cell? ⟨w.heap.size, 1, none⟩ = some (.int .i64 x.q) ∧ w'.cell? ⟨w.heap.size, 2, none⟩ = some (.int .i64 x.c) ∧ w'.cell? ⟨w.heap.size, 3, none⟩ = some (.int .i64 x.v) ∧ w'.cell? ⟨w.heap.size, 4, none⟩ = some (.string ⟨x.tag.toArray⟩)) (exact Hhk.out _ (by first | assumption | exact Below.refl _ _ | exact (Below.refl _ _).drew | exact Below.drew (by assumption))) (first | (go_at_call 34; refine (Hhc34.out _ (by first | assumption | exact Below.refl _ _ | exact (Below.refl _ _).drew | exact Below.drew (by assumption))).mono ?_; rintro e wa ⟨rfl, hba⟩) | (go_at_call 36; refine (Hhc36.out _ (by first | assumption | exact Below.refl _ _ | exact (Below.refl _ _).drew | exact Below.drew (by assumption))).mono ?_; rintro e wa ⟨rfl, hba⟩))) | fail
    all_goals
      go_wp2_with fail
      go_ret
      exact ⟨by simp <;> (rw [HhB.out, Bool.eq_iff_iff]; simp), hBb.trans (hba.mono (by have := Hhszb.out; omega))⟩
end Go.Proofs.YtibhihobpehpbaaDoor
