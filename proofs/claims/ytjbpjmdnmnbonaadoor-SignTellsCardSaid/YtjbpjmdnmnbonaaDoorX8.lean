/- The walk of sign's Verify. -/
import Derived.Test.YtjbpjmdnmnbonaaDoorX7
set_option linter.unusedSimpArgs false
set_option linter.unusedVariables false
namespace Go.Proofs.YtjbpjmdnmnbonaaDoor
open Go.RowKit

def rangeS (pub : Int) (s : Int × Int) : Prop := pub ≠ 1 ∧ inG pub = true ∧ 0 ≤ s.1 ∧ s.1 < 1152921504606845789 ∧ 0 ≤ s.2 ∧ s.2 < 1152921504606845789
instance (pub : Int) (s : Int × Int) : Decidable (rangeS pub s) := by unfold rangeS; infer_instance
def elemS (pub : Int) (s : Int × Int) : Nat := mulP (expS 4 s.2 : Nat) (expS pub (1152921504606845789 - s.1) : Nat)
def verS (pub : Int) (c t : List UInt8) (s : Int × Int) : Bool := decide (rangeS pub s) && ((chalS (elemS pub s : Nat) pub c t : Nat) : Int) == s.1
set_option maxRecDepth 100000 in
set_option maxHeartbeats 2000000 in
theorem verify_calls (pub : Int) (c t : List UInt8) (s : Int × Int) (m : Int) (w : World) (h : SA m w) (hp : In64 pub) (hc : c.length ≤ 2000) (ht : t.length ≤ 2000) :
    Calls Tryd.prog 18 #[.int .i64 pub, .string ⟨c.toArray⟩, .string ⟨t.toArray⟩, pv s] w fun e w' => e = .returned (.bool (verS pub c t s)) ∧ Below w.heap.size w w' := by
  obtain ⟨a, b⟩ := s
  have h4 := h.2.1
  obtain ⟨wb, hwb⟩ : ∃ wb, wb = w.alloc (.cells #[.int .i64 a, .int .i64 b] 25) := ⟨_, rfl⟩
  have hbox : wb.heap[w.heap.size]? = some (.cells #[.int .i64 a, .int .i64 b] 25 (0, 0)) := by rw [hwb]; exact heap_alloc_new w _
  have hBb : Below w.heap.size w wb := by rw [hwb]; exact (by ((repeat' (first | exact Below.refl _ _ | (refine Below.alloc ?_ ?_ _) | (refine Below.setCell ?_ ?_ _) | (refine Below.drew ?_) | (refine Below.trans ?_ (Below.mono (by assumption) ?_)))) <;> ((try simp only [World.size_alloc, World.size_setCell, World.size_drew] at *); omega)))
  have hszb : wb.heap.size = w.heap.size + 1 := by rw [hwb, World.size_alloc]
  have hend : ∀ wx, Below wb.heap.size wb wx → Below w.heap.size w wx := fun wx hx => hBb.trans (hx.mono hBb.size)
  have hall : ∀ wx, Below wb.heap.size wb wx → SA m wx := fun wx hx => h.below (hend wx hx) h4
  have hK : ∀ wx, Below wb.heap.size wb wx → wx.cell? ⟨w.heap.size, 0, none⟩ = some (.int .i64 a) ∧ wx.cell? ⟨w.heap.size, 1, none⟩ = some (.int .i64 b) := fun wx hx => by
    have := (hx.block w.heap.size (by omega)).trans hbox
    refine ⟨?_, ?_⟩ <;> (rw [cell_of_row _ _ _ _ _ _ this]; rfl)
  have hV : verS pub c t (a, b) = (decide (rangeS pub (a, b)) && ((chalS (elemS pub (a, b) : Nat) pub c t : Nat) : Int) == a) := rfl
  rw [hV, pv_of]
  clear hV
  by_cases h1 : pub = 1
  · rw [decide_eq_false (by rintro ⟨hx, _⟩; exact hx h1), Bool.false_and]
    have HhK := Lib.hid hK
    clear hK
    have Hhend := Lib.hid hend
    clear hend
    have Hhall := Lib.hid hall
    clear hall
    have Hhbox := Lib.hid hbox
    clear hbox
    have HhBb := Lib.hid hBb
    clear hBb
    go_enter Tryd.func18, Tryd.ntmps18
    go_wp2_with fail
    go_ret
    exact ⟨rfl, (by ((repeat' (first | exact Below.refl _ _ | (refine Below.alloc ?_ ?_ _) | (refine Below.setCell ?_ ?_ _) | (refine Below.drew ?_) | (refine Below.trans ?_ (Below.mono (by assumption) ?_)))) <;> ((try simp only [World.size_alloc, World.size_setCell, World.size_drew] at *); omega)))⟩
  · have c22 : Calls Tryd.prog 22 #[.int .i64 pub] wb fun e w' => e = .returned (.bool (inG pub)) ∧ Below wb.heap.size wb w' := in_calls pub wb hp
    cases hin : inG pub
    · rw [decide_eq_false (by rintro ⟨_, hx, _⟩; rw [hin] at hx; cases hx), Bool.false_and]
      rw [hin] at c22
      have HhK := Lib.hid hK
      clear hK
      have Hhend := Lib.hid hend
      clear hend
      have Hhall := Lib.hid hall
      clear hall
      have Hhbox := Lib.hid hbox
      clear hbox
      have HhBb := Lib.hid hBb
      clear hBb
      have Hc22 := Lib.hid c22
      clear c22
      go_enter Tryd.func18, Tryd.ntmps18
      go_wp2_with fail
      rw [show w.alloc (.cells #[.int .i64 a, .int .i64 b] 25) = wb from hwb.symm]
      clear hwb
      refine Hc22.out.mono ?_
      rintro e w1 ⟨rfl, hB1⟩
      go_wp2_with fail
      go_ret
      exact ⟨rfl, Hhend.out _ hB1⟩
    · rw [hin] at c22
      by_cases hR : 0 ≤ a ∧ a < 1152921504606845789 ∧ 0 ≤ b ∧ b < 1152921504606845789
      · obtain ⟨ha1, ha2, hb1, hb2⟩ := hR
        rw [decide_eq_true (show rangeS pub (a, b) from ⟨h1, hin, ha1, ha2, hb1, hb2⟩), Bool.true_and]
        obtain ⟨g, hg⟩ : ∃ g, g = expS 4 b := ⟨_, rfl⟩
        obtain ⟨d, hd⟩ : ∃ d, 1152921504606845789 - a = d := ⟨_, rfl⟩
        have hd1 : 0 < d ∧ d ≤ 1152921504606845789 := by omega
        obtain ⟨hda, hdb⟩ := hd1
        have hdw : IntKind.i64.wrap d = d := by rw [IntKind.wrap_i64]; omega
        obtain ⟨q, hq⟩ : ∃ g, g = expS pub d := ⟨_, rfl⟩
        have hel : elemS pub (a, b) = mulP (g : Nat) (q : Nat) := by rw [hg, hq, ← hd]; rfl
        rw [hel]
        clear hel
        have hgl : g < 2305843009213691579 := by rw [hg]; exact expS_lt _ _
        have hql : q < 2305843009213691579 := by rw [hq]; exact expS_lt _ _
        obtain ⟨r, hr⟩ : ∃ r, r = mulP (g : Nat) (q : Nat) := ⟨_, rfl⟩
        have hrl : r < 2305843009213691579 := by rw [hr]; exact Nat.mod_lt _ (by decide)
        obtain ⟨x, hx⟩ : ∃ x, x = chalS (r : Nat) pub c t := ⟨_, rfl⟩
        have hxl : x < 1152921504606845789 := by rw [hx]; exact chalS_lt _ _ _ _
        have c1 : ∀ wx, Below wb.heap.size wb wx → Calls Tryd.prog 24 #[.int .i64 4, .int .i64 b] wx fun e w' => e = .returned (.int .i64 (g : Nat)) ∧ Below wb.heap.size wb w' := fun wx hx =>
          (exp_calls 4 b wx (by unfold In64; omega) (by unfold In64; omega)).mono fun e w' ⟨h1, h2⟩ => ⟨by rw [h1, hg], hx.trans (h2.mono hx.size)⟩
        have c2 : ∀ wx, Below wb.heap.size wb wx → Calls Tryd.prog 24 #[.int .i64 pub, .int .i64 d] wx fun e w' => e = .returned (.int .i64 (q : Nat)) ∧ Below wb.heap.size wb w' := fun wx hx =>
          (exp_calls pub d wx hp (by unfold In64; omega)).mono fun e w' ⟨h1, h2⟩ => ⟨by rw [h1, hq], hx.trans (h2.mono hx.size)⟩
        have c3 : ∀ wx, Below wb.heap.size wb wx → Calls Tryd.prog 25 #[.int .i64 (g : Nat), .int .i64 (q : Nat)] wx fun e w' => e = .returned (.int .i64 (r : Nat)) ∧ Below wb.heap.size wb w' := fun wx hx =>
          (mul_calls (g : Nat) (q : Nat) wx (by unfold In64; omega) (by unfold In64; omega)).mono fun e w' ⟨h1, h2⟩ => ⟨by rw [h1, hr], hx.trans (h2.mono hx.size)⟩
        have c4 : ∀ wx, Below wb.heap.size wb wx → Calls Tryd.prog 32 #[.int .i64 (r : Nat), .int .i64 pub, .string ⟨c.toArray⟩, .string ⟨t.toArray⟩] wx fun e w' => e = .returned (.int .i64 (x : Nat)) ∧ Below wb.heap.size wb w' := fun wx hy =>
          (challenge_calls (r : Nat) pub c t m wx (hall wx hy) (by unfold In64; omega) hp hc ht).mono fun e w' ⟨h1, h2⟩ => ⟨by rw [h1, hx], hy.trans (h2.mono hy.size)⟩
        rw [← hr, ← hx]
        obtain ⟨z0, z1⟩ := hK wb (Below.refl _ _)
        have f1 : (pub == 1) = false := by simp [h1]
        have f2 : decide (a < 0) = false := decide_eq_false (by omega)
        have f3 : decide (1152921504606845789 ≤ a) = false := decide_eq_false (by omega)
        have f4 : decide (b < 0) = false := decide_eq_false (by omega)
        have f5 : decide (1152921504606845789 ≤ b) = false := decide_eq_false (by omega)
        have Hhg := Lib.hid hg
        clear hg
        have Hhq := Lib.hid hq
        clear hq
        have Hhr := Lib.hid hr
        clear hr
        have Hhx := Lib.hid hx
        clear hx
        have Hc1 := Lib.hid c1
        clear c1
        have Hc2 := Lib.hid c2
        clear c2
        have Hc3 := Lib.hid c3
        clear c3
        have Hc4 := Lib.hid c4
        clear c4
        have Hhend := Lib.hid hend
        clear hend
        have Hhall := Lib.hid hall
        clear hall
        have Hhbox := Lib.hid hbox
        clear hbox
        have HhBb := Lib.hid hBb
        clear hBb
        have Hc22 := Lib.hid c22
        clear c22
        have Hh := Lib.hid h
        clear h
        go_enter Tryd.func18, Tryd.ntmps18
        go_wp2_with fail
        rw [show w.alloc (.cells #[.int .i64 a, .int .i64 b] 25) = wb from hwb.symm]
        clear hwb
        refine Hc22.out.mono ?_
        rintro e w1 ⟨rfl, hB1⟩
        clear z0 z1
        obtain ⟨z0, z1⟩ := hK _ hB1
        have HhK := Lib.hid hK
        clear hK
        go_wp2_with fail
        clear z0 z1
        first | (go_region_held3 (fun w' => w'.cell? ⟨w.heap.size, 0, none⟩ = some (.int .i64 a) ∧ w'.cell? ⟨w.heap.size, 1, none⟩ = some (.int .i64 b)) (exact HhK.out _ (by first | assumption | exact Below.refl _ _ | exact (Below.refl _ _).drew | exact Below.drew (by assumption))) (first | (go_at_call_of 24 d; refine (Hc2.out _ (by first | assumption | exact Below.refl _ _ | exact (Below.refl _ _).drew | exact Below.drew (by assumption))).mono ?_; rintro e wb2 ⟨rfl, hbb2⟩) | (go_at_call 24; refine (Hc1.out _ (by first | assumption | exact Below.refl _ _ | exact (Below.refl _ _).drew | exact Below.drew (by assumption))).mono ?_; rintro e wb1 ⟨rfl, hbb1⟩) | (go_at_call 25; refine (Hc3.out _ (by first | assumption | exact Below.refl _ _ | exact (Below.refl _ _).drew | exact Below.drew (by assumption))).mono ?_; rintro e wb3 ⟨rfl, hbb3⟩))) | fail
        go_wp2_with fail
        first | (go_region_held3 (fun w' => w'.cell? ⟨w.heap.size, 0, none⟩ = some (.int .i64 a) ∧ w'.cell? ⟨w.heap.size, 1, none⟩ = some (.int .i64 b)) (exact HhK.out _ (by first | assumption | exact Below.refl _ _ | exact (Below.refl _ _).drew | exact Below.drew (by assumption))) (first | (go_at_call 32; refine (Hc4.out _ (by first | assumption | exact Below.refl _ _ | exact (Below.refl _ _).drew | exact Below.drew (by assumption))).mono ?_; rintro e wb4 ⟨rfl, hbb4⟩))) | fail
        go_wp2_with fail
        go_ret
        exact ⟨rfl, Hhend.out _ (by first | assumption | exact Below.refl _ _ | exact (Below.refl _ _).drew | exact Below.drew (by assumption))⟩
      · rw [decide_eq_false (by rintro ⟨_, _, hx⟩; exact hR hx), Bool.false_and]
        have HhK := Lib.hid hK
        clear hK
        have Hhend := Lib.hid hend
        clear hend
        have Hhall := Lib.hid hall
        clear hall
        have Hhbox := Lib.hid hbox
        clear hbox
        have HhBb := Lib.hid hBb
        clear hBb
        have Hc22 := Lib.hid c22
        clear c22
        rcases (show a < 0 ∨ (0 ≤ a ∧ 1152921504606845789 ≤ a) ∨ (0 ≤ a ∧ a < 1152921504606845789 ∧ b < 0) ∨ (0 ≤ a ∧ a < 1152921504606845789 ∧ 0 ≤ b ∧ 1152921504606845789 ≤ b) by omega) with q1 | ⟨q1, q2⟩ | ⟨q1, q2, q3⟩ | ⟨q1, q2, q3, q4⟩
        all_goals
          go_enter Tryd.func18, Tryd.ntmps18
          go_wp2_with fail
          rw [show w.alloc (.cells #[.int .i64 a, .int .i64 b] 25) = wb from hwb.symm]
          clear hwb
          refine Hc22.out.mono ?_
          rintro e w1 ⟨rfl, hB1⟩
          obtain ⟨z0, z1⟩ := HhK.out _ hB1
          go_wp2_with fail
          go_ret
          exact ⟨rfl, Hhend.out _ hB1⟩
end Go.Proofs.YtjbpjmdnmnbonaaDoor
