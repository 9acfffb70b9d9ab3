/- The references' walks: Ranges, Verify. -/
import Derived.Test.YtjbpjmdnmnbonaaDoorX11
import Derived.Test.YtjbpjmdnmnbonaaDoorE4
import Derived.Test.YtjbpjmdnmnbonaaDoorE5
set_option linter.unusedSimpArgs false
set_option linter.unusedVariables false
namespace Go.Proofs.YtjbpjmdnmnbonaaDoor
open Go.RowKit

set_option maxRecDepth 100000 in
theorem refRanges_calls (pub a b : Int) (w : World) (hp : In64 pub) :
    Calls Tryd.prog 38 #[.int .i64 pub, .agg #[.int .i64 a, .int .i64 b]] w fun e w' => e = .returned (.bool (decide (rangeS pub (a, b)))) ∧ Below w.heap.size w w' := by
  obtain ⟨wb, hwb⟩ : ∃ wb, wb = w.alloc (.cells #[.int .i64 a, .int .i64 b] 25) := ⟨_, rfl⟩
  have hbox : wb.heap[w.heap.size]? = some (.cells #[.int .i64 a, .int .i64 b] 25 (0, 0)) := by rw [hwb]; exact heap_alloc_new w _
  have hBb : Below w.heap.size w wb := by rw [hwb]; exact (by ((repeat' (first | exact Below.refl _ _ | (refine Below.alloc ?_ ?_ _) | (refine Below.setCell ?_ ?_ _) | (refine Below.drew ?_) | (refine Below.trans ?_ (Below.mono (by assumption) ?_)))) <;> ((try simp only [World.size_alloc, World.size_setCell, World.size_drew] at *); omega)))
  have hszb : wb.heap.size = w.heap.size + 1 := by rw [hwb, World.size_alloc]
  have hend : ∀ wx, Below wb.heap.size wb wx → Below w.heap.size w wx := fun wx hx => hBb.trans (hx.mono hBb.size)
  have hK : ∀ wx, Below wb.heap.size wb wx → wx.cell? ⟨w.heap.size, 0, none⟩ = some (.int .i64 a) ∧ wx.cell? ⟨w.heap.size, 1, none⟩ = some (.int .i64 b) := fun wx hx => row2 ((hx.block w.heap.size (by omega)).trans hbox)
  have c1 : Calls Tryd.prog 49 #[.int .i64 pub] wb fun e w' => e = .returned (.bool (inG pub)) ∧ Below wb.heap.size wb w' := refIn_calls pub wb hp
  have hR : decide (rangeS pub (a, b)) = (inG pub && (!(pub == 1) && (decide (0 ≤ a) && (decide (a < 1152921504606845789) && (decide (0 ≤ b) && decide (b < 1152921504606845789)))))) := by
    rw [Bool.eq_iff_iff, decide_eq_true_eq]
    simp only [decide_eq_true_eq, Bool.and_eq_true, Bool.not_eq_true', beq_eq_false_iff_ne]
    unfold rangeS
    constructor
    · rintro ⟨h1, h2, h3⟩; exact ⟨h2, h1, h3⟩
    · rintro ⟨h2, h1, h3⟩; exact ⟨h1, h2, h3⟩
  rw [hR]
  clear hR
  cases hin : inG pub
  · rw [hin] at c1
    rw [Bool.false_and]
    have Hc1 := Lib.hid c1
    clear c1
    have HhK := Lib.hid hK
    clear hK
    have Hhend := Lib.hid hend
    clear hend
    have Hhbox := Lib.hid hbox
    clear hbox
    have HhBb := Lib.hid hBb
    clear hBb
    go_enter Tryd.func38, Tryd.ntmps38
    go_wp2_with fail
    rw [show w.alloc (.cells #[.int .i64 a, .int .i64 b] 25) = wb from hwb.symm]
    clear hwb
    refine Hc1.out.mono ?_
    rintro r w1 ⟨rfl, hB1⟩
    go_wp2_with fail
    go_ret
    exact ⟨rfl, Hhend.out _ hB1⟩
  · rw [hin] at c1
    rw [Bool.true_and]
    by_cases q1 : pub = 1
    · subst q1
      rw [show ((1 : Int) == 1) = true from rfl, Bool.not_true, Bool.false_and]
      have Hc1 := Lib.hid c1
      clear c1
      have HhK := Lib.hid hK
      clear hK
      have Hhend := Lib.hid hend
      clear hend
      have Hhbox := Lib.hid hbox
      clear hbox
      have HhBb := Lib.hid hBb
      clear hBb
      go_enter Tryd.func38, Tryd.ntmps38
      go_wp2_with fail
      rw [show w.alloc (.cells #[.int .i64 a, .int .i64 b] 25) = wb from hwb.symm]
      clear hwb
      refine Hc1.out.mono ?_
      rintro r w1 ⟨rfl, hB1⟩
      go_wp2_with fail
      go_ret
      exact ⟨rfl, Hhend.out _ hB1⟩
    · have f1 : (pub == 1) = false := by simp [q1]
      rw [f1, Bool.not_false, Bool.true_and]
      have f1' : (pub != 1) = true := by simp [q1]
      by_cases q2 : 0 ≤ a
      · by_cases q3 : a < 1152921504606845789
        · by_cases q4 : 0 ≤ b
          · by_cases q5 : b < 1152921504606845789
            · rw [show (decide (0 ≤ a) && (decide (a < 1152921504606845789) && (decide (0 ≤ b) && decide (b < 1152921504606845789)))) = true by simp [q2, q3, q4, q5]]
              have g5 : decide (b < 1152921504606845789) = true := decide_eq_true q5
              have Hc1 := Lib.hid c1
              clear c1
              have HhK := Lib.hid hK
              clear hK
              have Hhend := Lib.hid hend
              clear hend
              have Hhbox := Lib.hid hbox
              clear hbox
              have HhBb := Lib.hid hBb
              clear hBb
              go_enter Tryd.func38, Tryd.ntmps38
              go_wp2_with fail
              rw [show w.alloc (.cells #[.int .i64 a, .int .i64 b] 25) = wb from hwb.symm]
              clear hwb
              refine Hc1.out.mono ?_
              rintro r w1 ⟨rfl, hB1⟩
              obtain ⟨z0, z1⟩ := HhK.out _ hB1
              go_wp2_with fail
              go_ret
              exact ⟨rfl, Hhend.out _ hB1⟩
            · rw [show (decide (0 ≤ a) && (decide (a < 1152921504606845789) && (decide (0 ≤ b) && decide (b < 1152921504606845789)))) = false by simp [q5]]
              have g5 : decide (b < 1152921504606845789) = false := decide_eq_false q5
              have Hc1 := Lib.hid c1
              clear c1
              have HhK := Lib.hid hK
              clear hK
              have Hhend := Lib.hid hend
              clear hend
              have Hhbox := Lib.hid hbox
              clear hbox
              have HhBb := Lib.hid hBb
              clear hBb
              go_enter Tryd.func38, Tryd.ntmps38
              go_wp2_with fail
              rw [show w.alloc (.cells #[.int .i64 a, .int .i64 b] 25) = wb from hwb.symm]
              clear hwb
              refine Hc1.out.mono ?_
              rintro r w1 ⟨rfl, hB1⟩
              obtain ⟨z0, z1⟩ := HhK.out _ hB1
              go_wp2_with fail
              go_ret
              exact ⟨rfl, Hhend.out _ hB1⟩
          · rw [show (decide (0 ≤ a) && (decide (a < 1152921504606845789) && (decide (0 ≤ b) && decide (b < 1152921504606845789)))) = false by simp [q4]]
            have g4 : decide (0 ≤ b) = false := decide_eq_false q4
            have Hc1 := Lib.hid c1
            clear c1
            have HhK := Lib.hid hK
            clear hK
            have Hhend := Lib.hid hend
            clear hend
            have Hhbox := Lib.hid hbox
            clear hbox
            have HhBb := Lib.hid hBb
            clear hBb
            go_enter Tryd.func38, Tryd.ntmps38
            go_wp2_with fail
            rw [show w.alloc (.cells #[.int .i64 a, .int .i64 b] 25) = wb from hwb.symm]
            clear hwb
            refine Hc1.out.mono ?_
            rintro r w1 ⟨rfl, hB1⟩
            obtain ⟨z0, z1⟩ := HhK.out _ hB1
            go_wp2_with fail
            go_ret
            exact ⟨rfl, Hhend.out _ hB1⟩
        · rw [show (decide (0 ≤ a) && (decide (a < 1152921504606845789) && (decide (0 ≤ b) && decide (b < 1152921504606845789)))) = false by simp [q3]]
          have g3 : decide (a < 1152921504606845789) = false := decide_eq_false q3
          have Hc1 := Lib.hid c1
          clear c1
          have HhK := Lib.hid hK
          clear hK
          have Hhend := Lib.hid hend
          clear hend
          have Hhbox := Lib.hid hbox
          clear hbox
          have HhBb := Lib.hid hBb
          clear hBb
          go_enter Tryd.func38, Tryd.ntmps38
          go_wp2_with fail
          rw [show w.alloc (.cells #[.int .i64 a, .int .i64 b] 25) = wb from hwb.symm]
          clear hwb
          refine Hc1.out.mono ?_
          rintro r w1 ⟨rfl, hB1⟩
          obtain ⟨z0, z1⟩ := HhK.out _ hB1
          go_wp2_with fail
          go_ret
          exact ⟨rfl, Hhend.out _ hB1⟩
      · rw [show (decide (0 ≤ a) && (decide (a < 1152921504606845789) && (decide (0 ≤ b) && decide (b < 1152921504606845789)))) = false by simp [q2]]
        have g2 : decide (0 ≤ a) = false := decide_eq_false q2
        have Hc1 := Lib.hid c1
        clear c1
        have HhK := Lib.hid hK
        clear hK
        have Hhend := Lib.hid hend
        clear hend
        have Hhbox := Lib.hid hbox
        clear hbox
        have HhBb := Lib.hid hBb
        clear hBb
        go_enter Tryd.func38, Tryd.ntmps38
        go_wp2_with fail
        rw [show w.alloc (.cells #[.int .i64 a, .int .i64 b] 25) = wb from hwb.symm]
        clear hwb
        refine Hc1.out.mono ?_
        rintro r w1 ⟨rfl, hB1⟩
        obtain ⟨z0, z1⟩ := HhK.out _ hB1
        go_wp2_with fail
        go_ret
        exact ⟨rfl, Hhend.out _ hB1⟩
set_option maxRecDepth 100000 in
set_option maxHeartbeats 1000000 in
theorem refVerify_calls (pub a b : Int) (c t : List UInt8) (w : World) (hp : In64 pub) (hc : c.length ≤ 2000) (ht : t.length ≤ 2000) :
    Calls Tryd.prog 19 #[.int .i64 pub, .string ⟨c.toArray⟩, .string ⟨t.toArray⟩, .agg #[.int .i64 a, .int .i64 b]] w fun e w' => e = .returned (.bool (verS pub c t (a, b))) ∧ Below w.heap.size w w' := by
  obtain ⟨wb, hwb⟩ : ∃ wb, wb = w.alloc (.cells #[.int .i64 a, .int .i64 b] 25) := ⟨_, rfl⟩
  have hbox : wb.heap[w.heap.size]? = some (.cells #[.int .i64 a, .int .i64 b] 25 (0, 0)) := by rw [hwb]; exact heap_alloc_new w _
  have hBb : Below w.heap.size w wb := by rw [hwb]; exact (by ((repeat' (first | exact Below.refl _ _ | (refine Below.alloc ?_ ?_ _) | (refine Below.setCell ?_ ?_ _) | (refine Below.drew ?_) | (refine Below.trans ?_ (Below.mono (by assumption) ?_)))) <;> ((try simp only [World.size_alloc, World.size_setCell, World.size_drew] at *); omega)))
  have hszb : wb.heap.size = w.heap.size + 1 := by rw [hwb, World.size_alloc]
  have hend : ∀ wx, Below wb.heap.size wb wx → Below w.heap.size w wx := fun wx hx => hBb.trans (hx.mono hBb.size)
  have hK : ∀ wx, Below wb.heap.size wb wx → wx.cell? ⟨w.heap.size, 0, none⟩ = some (.int .i64 a) ∧ wx.cell? ⟨w.heap.size, 1, none⟩ = some (.int .i64 b) := fun wx hx => row2 ((hx.block w.heap.size (by omega)).trans hbox)
  have c1 : Calls Tryd.prog 38 #[.int .i64 pub, .agg #[.int .i64 a, .int .i64 b]] wb fun e w' => e = .returned (.bool (decide (rangeS pub (a, b)))) ∧ Below wb.heap.size wb w' := refRanges_calls pub a b wb hp
  have hV : verS pub c t (a, b) = (decide (rangeS pub (a, b)) && ((chalS (elemS pub (a, b) : Nat) pub c t : Nat) : Int) == a) := rfl
  rw [hV]
  clear hV
  by_cases hR : rangeS pub (a, b)
  · rw [decide_eq_true hR] at c1 ⊢
    rw [Bool.true_and]
    obtain ⟨-, -, ha0, ha1, hb0, hb1⟩ := hR
    simp only at ha0 ha1 hb0 hb1
    obtain ⟨r0, hr0⟩ : ∃ r, r = elemS pub (a, b) := ⟨_, rfl⟩
    have hrl : r0 < 2305843009213691579 := by rw [hr0]; exact Nat.mod_lt _ (by decide)
    obtain ⟨x, hx⟩ : ∃ r, r = chalS (r0 : Nat) pub c t := ⟨_, rfl⟩
    have hxl : x < 1152921504606845789 := by rw [hx]; exact chalS_lt _ _ _ _
    have c20 : ∀ wx, Below wb.heap.size wb wx → Calls Tryd.prog 20 #[.int .i64 pub, .agg #[.int .i64 a, .int .i64 b]] wx fun r w' => r = .returned (.int .i64 (r0 : Nat)) ∧ Below wb.heap.size wb w' := fun wx hy =>
      (refElement_calls pub a b wx hp ha0 ha1 (by unfold In64; omega)).mono fun r w' ⟨h1, h2⟩ => ⟨by rw [h1, hr0], hy.trans (h2.mono hy.size)⟩
    have c21 : ∀ wx, Below wb.heap.size wb wx → Calls Tryd.prog 21 #[.int .i64 (r0 : Nat), .int .i64 pub, .string ⟨c.toArray⟩, .string ⟨t.toArray⟩] wx fun r w' => r = .returned (.int .i64 (x : Nat)) ∧ Below wb.heap.size wb w' := fun wx hy =>
      (refChallenge_calls (r0 : Nat) pub c t wx (by unfold In64; omega) hp hc ht).mono fun r w' ⟨h1, h2⟩ => ⟨by rw [h1, hx], hy.trans (h2.mono hy.size)⟩
    rw [← hr0, ← hx]
    have Hc1 := Lib.hid c1
    clear c1
    have Hc20 := Lib.hid c20
    clear c20
    have Hc21 := Lib.hid c21
    clear c21
    have HhK := Lib.hid hK
    clear hK
    have Hhend := Lib.hid hend
    clear hend
    have Hhbox := Lib.hid hbox
    clear hbox
    have HhBb := Lib.hid hBb
    clear hBb
    have Hhr0 := Lib.hid hr0
    clear hr0
    have Hhx := Lib.hid hx
    clear hx
    go_enter Tryd.func19, Tryd.ntmps19
    go_wp2_with fail
    rw [show w.alloc (.cells #[.int .i64 a, .int .i64 b] 25) = wb from hwb.symm]
    clear hwb
    refine Hc1.out.mono ?_
    rintro r w1 ⟨rfl, hB1⟩
    go_wp2_with fail
    first | (go_region_held3 (fun w' => w'.cell? ⟨w.heap.size, 0, none⟩ = some (.int .i64 a) ∧ w'.cell? ⟨w.heap.size, 1, none⟩ = some (.int .i64 b)) (exact HhK.out _ (by first | assumption | exact Below.refl _ _ | exact (Below.refl _ _).drew | exact Below.drew (by assumption))) (first | (go_at_call 20; refine (Hc20.out _ (by first | assumption | exact Below.refl _ _ | exact (Below.refl _ _).drew | exact Below.drew (by assumption))).mono ?_; rintro r wa ⟨rfl, hba⟩) | (go_at_call 21; refine (Hc21.out _ (by first | assumption | exact Below.refl _ _ | exact (Below.refl _ _).drew | exact Below.drew (by assumption))).mono ?_; rintro r wd ⟨rfl, hbd⟩))) | fail
    go_wp2_with fail
    go_ret
    exact ⟨rfl, Hhend.out _ (by first | assumption | exact Below.refl _ _ | exact (Below.refl _ _).drew | exact Below.drew (by assumption))⟩
  · rw [decide_eq_false hR] at c1 ⊢
    rw [Bool.false_and]
    have Hc1 := Lib.hid c1
    clear c1
    have HhK := Lib.hid hK
    clear hK
    have Hhend := Lib.hid hend
    clear hend
    have Hhbox := Lib.hid hbox
    clear hbox
    have HhBb := Lib.hid hBb
    clear hBb
    go_enter Tryd.func19, Tryd.ntmps19
    go_wp2_with fail
    rw [show w.alloc (.cells #[.int .i64 a, .int .i64 b] 25) = wb from hwb.symm]
    clear hwb
    refine Hc1.out.mono ?_
    rintro r w1 ⟨rfl, hB1⟩
    obtain ⟨z0, z1⟩ := HhK.out _ hB1
    go_wp2_with fail
    go_quiet (fail)
    go_wp2_with fail
    go_ret
    exact ⟨rfl, Hhend.out _ (below_drewN hB1 _)⟩
end Go.Proofs.YtjbpjmdnmnbonaaDoor
