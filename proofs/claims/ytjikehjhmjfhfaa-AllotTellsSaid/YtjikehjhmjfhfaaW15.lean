/- The law AllotTells. -/
import Derived.Test.YtjikehjhmjfhfaaW16
import Derived.Deep.RegionHeld3
namespace Go.Proofs.Ytjikehjhmjfhfaa
open Go.RowKit

theorem day_in64 (pl : List Pl) (supply : List Int) {rs : List Rt} (hr : ∀ r ∈ rs, r.in64) : ∀ x ∈ (day pl rs supply).1, In64 x.1 ∧ In64 x.2 := by
  have key : ∀ (l : List Rt) (st : List (Int × Int) × List Int), (∀ r ∈ l, r.in64) → Vols pl.length st.2 → (∀ x ∈ st.1, In64 x.1 ∧ In64 x.2) → ∀ x ∈ (l.foldl (dayStep pl) st).1, In64 x.1 ∧ In64 x.2 := by
    intro l
    induction l with
    | nil => intro st _ _ h; exact h
    | cons r l ih =>
      intro st hl hv h
      refine ih _ (fun r hr => hl r (by simp [hr])) (Vols.dayStep hv r) ?_
      intro x hx
      simp only [dayStep, List.mem_append, List.mem_singleton] at hx
      rcases hx with hx | rfl
      · exact h x hx
      · have h1 := grant_ge pl st.2 r
        have h2 := grant_64 hv r
        exact ⟨(hl r (by simp)).1, by unfold In64; omega⟩
  exact key rs _ hr (Vols.fill pl supply pl.length) (by simp)

set_option maxRecDepth 100000 in
set_option maxHeartbeats 2000000 in
theorem Tells_calls (v vr vs vg : Value) (pl : List Pl) (rs : List Rt) (supply : List Int) (gs : List (Int × Int)) (p : Int) (w : World) (h : BasinAt w v pl) (hr : RightsAt w vr rs) (hs : IntsAt w vs supply) (hg : GrantsAt w vg gs) (hp64 : In64 p) :
    Calls Try.prog 3 #[v, vr, vs, vg, .int .i64 p] w fun e w' => e = .returned (.bool true) ∧ Below w.heap.size w w' := by
  have hbas := h
  obtain ⟨hm, x0, x1, x2, oa, cap, x4, x5, x6, x7, x8, x9, x10, rfl, hp⟩ := h
  have hg0 := hg
  obtain ⟨oag, capg, rfl, hgm, -, -⟩ := hg
  clear hp
  have Hhbas := Lib.hid hbas
  clear hbas
  have Hhr := Lib.hid hr
  clear hr
  have Hhs := Lib.hid hs
  clear hs
  have Hhg0 := Lib.hid hg0
  clear hg0
  have Hhp64 := Lib.hid hp64
  clear hp64
  go_enter Try.func3, Try.ntmps3
  go_wp2_with fail
  refine (small_calls _).mono ?_
  rintro e w1 ⟨rfl, hB1⟩
  have hsz1 := hB1.size
  simp only [World.size_alloc] at hsz1
  have hbox1 : ∀ j, w1.cell? ⟨w.heap.size, j, none⟩ = (w.alloc (.cells #[x0, x1, x2, .slice oa pl.length cap, x4, x5, x6, x7, x8, x9, x10] 31)).cell? ⟨w.heap.size, j, none⟩ := fun j => hB1.cell (p := ⟨w.heap.size, j, none⟩) (by simp)
  go_wp2_with fail
  refine (few_calls _ _ _ pl rs _ _ _ w1 (Hhbas.out.below (w' := w1) (by ((repeat' (first | exact Below.refl _ _ | (refine Below.alloc ?_ ?_ _) | (refine Below.setCell ?_ ?_ _) | (refine Below.drew ?_) | (refine Below.trans ?_ (Below.mono (by assumption) ?_)))) <;> ((try simp only [World.size_alloc, World.size_setCell, World.size_drew] at *); omega))) (Nat.le_refl _)) (Hhr.out.below (w' := w1) (by ((repeat' (first | exact Below.refl _ _ | (refine Below.alloc ?_ ?_ _) | (refine Below.setCell ?_ ?_ _) | (refine Below.drew ?_) | (refine Below.trans ?_ (Below.mono (by assumption) ?_)))) <;> ((try simp only [World.size_alloc, World.size_setCell, World.size_drew] at *); omega))) (Nat.le_refl _)) rfl).mono ?_
  rintro e w2 ⟨rfl, hB2⟩
  have hsz2 := hB2.size
  have hbox2 : ∀ j, w2.cell? ⟨w.heap.size, j, none⟩ = (w.alloc (.cells #[x0, x1, x2, .slice oa pl.length cap, x4, x5, x6, x7, x8, x9, x10] 31)).cell? ⟨w.heap.size, j, none⟩ := fun j => (hB2.cell (p := ⟨w.heap.size, j, none⟩) (by simp; omega)).trans (hbox1 j)
  by_cases hfew : pl.length ≤ 64 ∧ rs.length ≤ 40 ∧ gs.length ≤ 80
  · obtain ⟨f1, f2, f3⟩ := hfew
    go_wp2_with fail
    refine (Day_calls _ _ _ pl rs supply w2 (Hhbas.out.below (w' := w2) (by ((repeat' (first | exact Below.refl _ _ | (refine Below.alloc ?_ ?_ _) | (refine Below.setCell ?_ ?_ _) | (refine Below.drew ?_) | (refine Below.trans ?_ (Below.mono (by assumption) ?_)))) <;> ((try simp only [World.size_alloc, World.size_setCell, World.size_drew] at *); omega))) (Nat.le_refl _)) (Hhr.out.below (w' := w2) (by ((repeat' (first | exact Below.refl _ _ | (refine Below.alloc ?_ ?_ _) | (refine Below.setCell ?_ ?_ _) | (refine Below.drew ?_) | (refine Below.trans ?_ (Below.mono (by assumption) ?_)))) <;> ((try simp only [World.size_alloc, World.size_setCell, World.size_drew] at *); omega))) (Nat.le_refl _)) (Hhs.out.below (w' := w2) (by ((repeat' (first | exact Below.refl _ _ | (refine Below.alloc ?_ ?_ _) | (refine Below.setCell ?_ ?_ _) | (refine Below.drew ?_) | (refine Below.trans ?_ (Below.mono (by assumption) ?_)))) <;> ((try simp only [World.size_alloc, World.size_setCell, World.size_drew] at *); omega))) (Nat.le_refl _)) (by omega) (by omega)).mono ?_
    rintro e w3 ⟨r1, g, rfl, hG3, hL3, hgg, hB3⟩
    have hsz3 := hB3.size
    have hbox3 : ∀ j, w3.cell? ⟨w.heap.size, j, none⟩ = (w.alloc (.cells #[x0, x1, x2, .slice oa pl.length cap, x4, x5, x6, x7, x8, x9, x10] 31)).cell? ⟨w.heap.size, j, none⟩ := fun j => (hB3.cell (p := ⟨w.heap.size, j, none⟩) (by simp; omega)).trans (hbox2 j)
    have HhG3 := Lib.hid hG3
    clear hG3
    have HhL3 := Lib.hid hL3
    clear hL3
    have Hhgg := Lib.hid hgg
    clear hgg
    go_wp2_with fail
    refine (refDay_calls _ _ _ pl rs supply w3 (Hhbas.out.below (w' := w3) (by ((repeat' (first | exact Below.refl _ _ | (refine Below.alloc ?_ ?_ _) | (refine Below.setCell ?_ ?_ _) | (refine Below.drew ?_) | (refine Below.trans ?_ (Below.mono (by assumption) ?_)))) <;> ((try simp only [World.size_alloc, World.size_setCell, World.size_drew] at *); omega))) (Nat.le_refl _)) (Hhr.out.below (w' := w3) (by ((repeat' (first | exact Below.refl _ _ | (refine Below.alloc ?_ ?_ _) | (refine Below.setCell ?_ ?_ _) | (refine Below.drew ?_) | (refine Below.trans ?_ (Below.mono (by assumption) ?_)))) <;> ((try simp only [World.size_alloc, World.size_setCell, World.size_drew] at *); omega))) (Nat.le_refl _)) (Hhs.out.below (w' := w3) (by ((repeat' (first | exact Below.refl _ _ | (refine Below.alloc ?_ ?_ _) | (refine Below.setCell ?_ ?_ _) | (refine Below.drew ?_) | (refine Below.trans ?_ (Below.mono (by assumption) ?_)))) <;> ((try simp only [World.size_alloc, World.size_setCell, World.size_drew] at *); omega))) (Nat.le_refl _)) (by omega) (by omega)).mono ?_
    rintro e w4 ⟨r2, l2, rfl, hG4, hL4, hB4⟩
    have hsz4 := hB4.size
    have hbox4 : ∀ j, w4.cell? ⟨w.heap.size, j, none⟩ = (w.alloc (.cells #[x0, x1, x2, .slice oa pl.length cap, x4, x5, x6, x7, x8, x9, x10] 31)).cell? ⟨w.heap.size, j, none⟩ := fun j => (hB4.cell (p := ⟨w.heap.size, j, none⟩) (by simp; omega)).trans (hbox3 j)
    have HhG4 := Lib.hid hG4
    clear hG4
    have HhL4 := Lib.hid hL4
    clear hL4
    go_wp2_with fail
    have hway := reach_ways pl p
    have hc13 : ∀ wx, Below w.heap.size w wx → Calls Try.prog 13 #[(.agg #[x0, x1, x2, .slice oa pl.length cap, x4, x5, x6, x7, x8, x9, x10]), .int .i64 p] wx fun e w' => ∃ r, e = .returned r ∧ IntsAt w' r (reach pl p) ∧ Below wx.heap.size wx w' := fun wx hx =>
      (Reach_calls _ pl p wx (Hhbas.out.below (w' := wx) hx (Nat.le_refl _)) Hhp64.out (by omega)).mono fun e w' ⟨r, he, hown, hb⟩ => ⟨r, he, IntsAt.of_owned hown (fun x hx => by have := hway.2 x hx; unfold In64; omega) (by have := hway.le; omega), hb⟩
    have Hhway := Lib.hid hway
    clear hway
    have Hhc13 := Lib.hid hc13
    clear hc13
    have hc14 : ∀ wx, Below w.heap.size w wx → Calls Try.prog 14 #[(.agg #[x0, x1, x2, .slice oa pl.length cap, x4, x5, x6, x7, x8, x9, x10]), .int .i64 p] wx fun e w' => ∃ r, e = .returned r ∧ IntsAt w' r (reach pl p) ∧ Below wx.heap.size wx w' := fun wx hx =>
      (refReach_calls _ pl p wx (Hhbas.out.below (w' := wx) hx (Nat.le_refl _)) Hhp64.out (by omega)).mono fun e w' ⟨r, he, hown, hb⟩ => ⟨r, he, IntsAt.of_owned hown (fun x hx => by have := Hhway.out.2 x hx; unfold In64; omega) (by have := Hhway.out.le; omega), hb⟩
    have Hhc14 := Lib.hid hc14
    clear hc14
    go_region_held3 (fun w' => (∀ j, w'.cell? ⟨w.heap.size, j, none⟩ = (w.alloc (.cells #[x0, x1, x2, .slice oa pl.length cap, x4, x5, x6, x7, x8, x9, x10] 31)).cell? ⟨w.heap.size, j, none⟩)) (first | exact fun j => (World.cell?_of_block ((show Below (w.heap.size + 1) w4 _ from (by ((repeat' (first | exact Below.refl _ _ | (refine Below.alloc ?_ ?_ _) | (refine Below.setCell ?_ ?_ _) | (refine Below.drew ?_) | (refine Below.trans ?_ (Below.mono (by assumption) ?_)))) <;> ((try simp only [World.size_alloc, World.size_setCell, World.size_drew] at *); omega)))).block _ (by simp))).trans (hbox4 j)) (first | (go_at_call 13; refine (Hhc13.out _ (by have t := True.intro; exact (by ((repeat' (first | exact Below.refl _ _ | (refine Below.alloc ?_ ?_ _) | (refine Below.setCell ?_ ?_ _) | (refine Below.drew ?_) | (refine Below.trans ?_ (Below.mono (by assumption) ?_)))) <;> ((try simp only [World.size_alloc, World.size_setCell, World.size_drew] at *); omega))))).mono ?_; rintro e w5 ⟨rv1, rfl, hi1, hb1⟩; have hs1 := hb1.size; try simp only [World.size_drew] at hs1) | (go_at_call 14; refine (Hhc14.out _ (by have t := True.intro; exact (by ((repeat' (first | exact Below.refl _ _ | (refine Below.alloc ?_ ?_ _) | (refine Below.setCell ?_ ?_ _) | (refine Below.drew ?_) | (refine Below.trans ?_ (Below.mono (by assumption) ?_)))) <;> ((try simp only [World.size_alloc, World.size_setCell, World.size_drew] at *); omega))))).mono ?_; rintro e w6 ⟨rv2, rfl, hi2, hb2⟩; have hs2 := hb2.size; try simp only [World.size_drew] at hs2) | (go_at_call 12; refine (SameInts_calls _ _ (reach pl p) (reach pl p) _ (hi1.below hb2 (Nat.le_refl _)) hi2).mono ?_; rintro e w7 ⟨rfl, hb3⟩; have hs3 := hb3.size; try simp only [World.size_drew] at hs3))
    have hbox7 : ∀ j, w7.cell? ⟨w.heap.size, j, none⟩ = (w.alloc (.cells #[x0, x1, x2, .slice oa pl.length cap, x4, x5, x6, x7, x8, x9, x10] 31)).cell? ⟨w.heap.size, j, none⟩ :=  fun j => (World.cell?_of_block ((show Below (w.heap.size + 1) w4 _ from (by ((repeat' (first | exact Below.refl _ _ | (refine Below.alloc ?_ ?_ _) | (refine Below.setCell ?_ ?_ _) | (refine Below.drew ?_) | (refine Below.trans ?_ (Below.mono (by assumption) ?_)))) <;> ((try simp only [World.size_alloc, World.size_setCell, World.size_drew] at *); omega)))).block _ (by simp))).trans (hbox4 j)
    have hc15 : ∀ wx, Below w.heap.size w wx → Calls Try.prog 15 #[(.agg #[x0, x1, x2, .slice oa pl.length cap, x4, x5, x6, x7, x8, x9, x10]), vr, .slice oag gs.length capg] wx fun e w' => ∃ r, e = .returned r ∧ IntsAt w' r (backFrom pl rs gs) ∧ Below wx.heap.size wx w' := fun wx hx =>
      (Back_calls _ _ _ pl rs gs wx (Hhbas.out.below hx (Nat.le_refl _)) (Hhr.out.below hx (Nat.le_refl _)) (Hhg0.out.below hx (Nat.le_refl _)) (by omega) (by omega)).mono fun e w' ⟨he, hown, hb⟩ => ⟨_, he, by
        have hv := Vols.backFrom pl rs gs
        exact IntsAt.of_owned (by rw [hv.1]; exact hown) hv.in64 (by rw [hv.1]; omega), hb⟩
    have hc16 : ∀ wx, Below w.heap.size w wx → Calls Try.prog 16 #[(.agg #[x0, x1, x2, .slice oa pl.length cap, x4, x5, x6, x7, x8, x9, x10]), vr, .slice oag gs.length capg] wx fun e w' => ∃ r, e = .returned r ∧ IntsAt w' r (backFrom pl rs gs) ∧ Below wx.heap.size wx w' := fun wx hx =>
      (refBack_calls _ _ _ pl rs gs wx (Hhbas.out.below hx (Nat.le_refl _)) (Hhr.out.below hx (Nat.le_refl _)) (Hhg0.out.below hx (Nat.le_refl _)) (by omega) (by omega)).mono fun e w' ⟨he, hown, hb⟩ => ⟨_, he, by
        have hv := Vols.backFrom pl rs gs
        exact IntsAt.of_owned (by rw [hv.1]; exact hown) hv.in64 (by rw [hv.1]; omega), hb⟩
    have Hhc15 := Lib.hid hc15
    clear hc15
    have Hhc16 := Lib.hid hc16
    clear hc16
    go_wp2_with fail
    go_region_held3 (fun w' => (∀ j, w'.cell? ⟨w.heap.size, j, none⟩ = (w.alloc (.cells #[x0, x1, x2, .slice oa pl.length cap, x4, x5, x6, x7, x8, x9, x10] 31)).cell? ⟨w.heap.size, j, none⟩)) (first | exact fun j => (World.cell?_of_block ((show Below (w.heap.size + 1) w4 _ from (by ((repeat' (first | exact Below.refl _ _ | (refine Below.alloc ?_ ?_ _) | (refine Below.setCell ?_ ?_ _) | (refine Below.drew ?_) | (refine Below.trans ?_ (Below.mono (by assumption) ?_)))) <;> ((try simp only [World.size_alloc, World.size_setCell, World.size_drew] at *); omega)))).block _ (by simp))).trans (hbox4 j)) (first | (go_at_call 15; refine (Hhc15.out _ (by have t := True.intro; exact (by ((repeat' (first | exact Below.refl _ _ | (refine Below.alloc ?_ ?_ _) | (refine Below.setCell ?_ ?_ _) | (refine Below.drew ?_) | (refine Below.trans ?_ (Below.mono (by assumption) ?_)))) <;> ((try simp only [World.size_alloc, World.size_setCell, World.size_drew] at *); omega))))).mono ?_; rintro e w8 ⟨rv3, rfl, hi3, hb5⟩; have hs5 := hb5.size; try simp only [World.size_drew] at hs5) | (go_at_call 16; refine (Hhc16.out _ (by have t := True.intro; exact (by ((repeat' (first | exact Below.refl _ _ | (refine Below.alloc ?_ ?_ _) | (refine Below.setCell ?_ ?_ _) | (refine Below.drew ?_) | (refine Below.trans ?_ (Below.mono (by assumption) ?_)))) <;> ((try simp only [World.size_alloc, World.size_setCell, World.size_drew] at *); omega))))).mono ?_; rintro e w9 ⟨rv4, rfl, hi4, hb6⟩; have hs6 := hb6.size; try simp only [World.size_drew] at hs6) | (go_at_call 12; refine (SameInts_calls _ _ (backFrom pl rs gs) (backFrom pl rs gs) _ (hi3.below hb6 (Nat.le_refl _)) hi4).mono ?_; rintro e w10 ⟨rfl, hb7⟩; have hs7 := hb7.size; try simp only [World.size_drew] at hs7))
    have hd64 := day_in64 pl supply (rs := rs) (fun r hr' => by obtain ⟨_, _, _, _, h64, _⟩ := Hhr.out; exact h64 r hr')
    have hdl : (day pl rs supply).1.length ≤ 1048576 := by have := dayFrom_length pl rs (fill pl supply pl.length); unfold day; omega
    have hdv : Vols pl.length (day pl rs supply).2 := Vols.dayFrom (Vols.fill pl supply pl.length) rs
    have hg10 : GrantsAt w10 r1 (day pl rs supply).1 := (GrantsAt.of_owned HhG3.out hd64 (by omega)).below (B := w3.heap.size) (by ((repeat' (first | exact Below.refl _ _ | (refine Below.alloc ?_ ?_ _) | (refine Below.setCell ?_ ?_ _) | (refine Below.drew ?_) | (refine Below.trans ?_ (Below.mono (by assumption) ?_)))) <;> ((try simp only [World.size_alloc, World.size_setCell, World.size_drew] at *); omega))) (Nat.le_refl _)
    have hg10' : GrantsAt w10 r2 (day pl rs supply).1 := (GrantsAt.of_owned HhG4.out hd64 (by omega)).below (B := w4.heap.size) (by ((repeat' (first | exact Below.refl _ _ | (refine Below.alloc ?_ ?_ _) | (refine Below.setCell ?_ ?_ _) | (refine Below.drew ?_) | (refine Below.trans ?_ (Below.mono (by assumption) ?_)))) <;> ((try simp only [World.size_alloc, World.size_setCell, World.size_drew] at *); omega))) (Nat.le_refl _)
    have hl10 : IntsAt w10 (.slice (some ⟨g, 0, none⟩) pl.length pl.length) (day pl rs supply).2 := (IntsAt.of_owned (by rw [hdv.1]; exact HhL3.out) hdv.in64 (by rw [hdv.1]; omega)).below (B := w3.heap.size) (by ((repeat' (first | exact Below.refl _ _ | (refine Below.alloc ?_ ?_ _) | (refine Below.setCell ?_ ?_ _) | (refine Below.drew ?_) | (refine Below.trans ?_ (Below.mono (by assumption) ?_)))) <;> ((try simp only [World.size_alloc, World.size_setCell, World.size_drew] at *); omega))) (Nat.le_refl _)
    have hl10' : IntsAt w10 l2 (day pl rs supply).2 := (IntsAt.of_owned HhL4.out hdv.in64 (by rw [hdv.1]; omega)).below (B := w4.heap.size) (by ((repeat' (first | exact Below.refl _ _ | (refine Below.alloc ?_ ?_ _) | (refine Below.setCell ?_ ?_ _) | (refine Below.drew ?_) | (refine Below.trans ?_ (Below.mono (by assumption) ?_)))) <;> ((try simp only [World.size_alloc, World.size_setCell, World.size_drew] at *); omega))) (Nat.le_refl _)
    have Hhd64 := Lib.hid hd64
    clear hd64
    have Hhdl := Lib.hid hdl
    clear hdl
    have Hhdv := Lib.hid hdv
    clear hdv
    have Hhg10 := Lib.hid hg10
    clear hg10
    have Hhg10' := Lib.hid hg10'
    clear hg10'
    have Hhl10 := Lib.hid hl10
    clear hl10
    have Hhl10' := Lib.hid hl10'
    clear hl10'
    go_wp2_with fail
    refine (Same_calls r1 r2 _ _ w10 Hhg10.out Hhg10'.out).mono ?_
    rintro e w11 ⟨rfl, hB11⟩
    have hs11 := hB11.size
    go_wp2_with fail
    refine (SameInts_calls _ l2 _ _ w11 (Hhl10.out.below hB11 (Nat.le_refl _)) (Hhl10'.out.below hB11 (Nat.le_refl _))).mono ?_
    rintro e w12 ⟨rfl, hB12⟩
    have hs12 := hB12.size
    go_wp2_with fail
    go_ret
    exact ⟨ret_bool (by simp), (by ((repeat' (first | exact Below.refl _ _ | (refine Below.alloc ?_ ?_ _) | (refine Below.setCell ?_ ?_ _) | (refine Below.drew ?_) | (refine Below.trans ?_ (Below.mono (by assumption) ?_)))) <;> ((try simp only [World.size_alloc, World.size_setCell, World.size_drew] at *); omega)))⟩
  · go_wp2_with fail
    go_ret
    exact ⟨rfl, (by ((repeat' (first | exact Below.refl _ _ | (refine Below.alloc ?_ ?_ _) | (refine Below.setCell ?_ ?_ _) | (refine Below.drew ?_) | (refine Below.trans ?_ (Below.mono (by assumption) ?_)))) <;> ((try simp only [World.size_alloc, World.size_setCell, World.size_drew] at *); omega)))⟩
end Go.Proofs.Ytjikehjhmjfhfaa
