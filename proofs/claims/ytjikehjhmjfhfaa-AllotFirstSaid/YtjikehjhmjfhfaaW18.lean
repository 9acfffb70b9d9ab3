/- The law AllotFirst. -/
import Derived.Test.YtjikehjhmjfhfaaW16
import Derived.Test.YtjikehjhmjfhfaaPlain3
import Derived.Test.YtjikehjhmjfhfaaW17
import Derived.Deep.DeepCutAuto
import Derived.Deep.RegionHeld3
namespace Go.Proofs.Ytjikehjhmjfhfaa
open Go.RowKit

theorem day_take {pl : List Pl} {rs : List Rt} {supply : List Int} (n : Nat) (h : n ≤ rs.length) : (day pl (rs.take n) supply).1 = (day pl rs supply).1.take n := by
  apply List.ext_getElem?
  intro i
  by_cases hi : i < n
  · have h1 := day_at (pl := pl) (rs := rs.take n) (supply := supply) (i := i) (by rw [List.length_take]; omega)
    have h2 := day_at (pl := pl) (rs := rs) (supply := supply) (i := i) (by omega)
    rw [h1, List.getElem?_take, if_pos hi, h2]
    have e : leftAt pl (rs.take n) supply i = leftAt pl rs supply i := by
      unfold leftAt
      rw [List.take_take, Nat.min_eq_left (by omega)]
    rw [e]
    simp
  · rw [List.getElem?_eq_none (by rw [day_length, List.length_take]; omega), List.getElem?_eq_none (by simp; omega)]

theorem RightsAt.take {w : World} {oa : Option Addr} {cap m : Nat} {rs : List Rt} (h : RightsAt w (.slice oa m cap) rs) (n : Nat) (hn : n ≤ rs.length) : RightsAt w (.slice oa n cap) (rs.take n) := by
  obtain ⟨oa', cap', hv, hm, h64, hc⟩ := h
  obtain ⟨rfl, rfl, rfl⟩ := Value.slice.inj hv
  have hl : (rs.take n).length = n := by rw [List.length_take]; omega
  refine ⟨oa, cap, by rw [hl], by omega, fun r hr => h64 r (List.mem_of_mem_take hr), fun h0 => ?_⟩
  obtain ⟨b, off, rfl, hb, hc⟩ := hc (by omega)
  refine ⟨b, off, rfl, hb, fun k hk j u hu => hc k (by omega) j u ?_⟩
  rw [List.getElem_take] at hu
  exact hu
theorem GrantsAt.take {w : World} {oa : Option Addr} {cap m : Nat} {gs : List (Int × Int)} (h : GrantsAt w (.slice oa m cap) gs) (n : Nat) (hn : n ≤ gs.length) : GrantsAt w (.slice oa n cap) (gs.take n) := by
  obtain ⟨oa', cap', hv, hm, h64, hc⟩ := h
  obtain ⟨rfl, rfl, rfl⟩ := Value.slice.inj hv
  have hl : (gs.take n).length = n := by rw [List.length_take]; omega
  refine ⟨oa, cap, by rw [hl], by omega, fun r hr => h64 r (List.mem_of_mem_take hr), fun h0 => ?_⟩
  obtain ⟨b, off, rfl, hb, hc⟩ := hc (by omega)
  refine ⟨b, off, rfl, hb, fun k hk => ?_⟩
  have := hc k (by omega)
  rw [List.getElem_take]
  exact this

set_option maxRecDepth 100000 in
set_option maxHeartbeats 40000000 in
theorem First_calls (v vr vs : Value) (pl : List Pl) (rs : List Rt) (supply : List Int) (n : Int) (w : World) (h : BasinAt w v pl) (hr : RightsAt w vr rs) (hrcap : ∀ oa m cap, vr = .slice oa m cap → m ≤ cap) (hs : IntsAt w vs supply) :
    Calls Try.prog 5 #[v, vr, vs, .int .i64 n] w fun e w' => e = .returned (.bool true) ∧ Below w.heap.size w w' := by
  have hbas := h
  obtain ⟨hm, x0, x1, x2, oa, cap, x4, x5, x6, x7, x8, x9, x10, rfl, hp⟩ := h
  have hr0 := hr
  obtain ⟨oar, capr, rfl, hrm, -, -⟩ := hr
  have hcapr := hrcap _ _ _ rfl
  clear hp hrcap
  have Hhbas := Lib.hid hbas
  clear hbas
  have Hhr0 := Lib.hid hr0
  clear hr0
  have Hhs := Lib.hid hs
  clear hs
  go_enter Try.func5, Try.ntmps5
  go_wp2_with fail
  refine (small_calls _).mono ?_
  rintro e w1 ⟨rfl, hB1⟩
  have hsz1 := hB1.size
  simp only [World.size_alloc] at hsz1
  have hbox1 : ∀ j, w1.cell? ⟨w.heap.size, j, none⟩ = (w.alloc (.cells #[x0, x1, x2, .slice oa pl.length cap, x4, x5, x6, x7, x8, x9, x10] 31)).cell? ⟨w.heap.size, j, none⟩ := fun j => hB1.cell (p := ⟨w.heap.size, j, none⟩) (by simp)
  go_wp2_with fail
  refine (few_calls _ _ _ pl rs _ _ _ w1 (Hhbas.out.below (w' := w1) (by ((repeat' (first | exact Below.refl _ _ | (refine Below.alloc ?_ ?_ _) | (refine Below.setCell ?_ ?_ _) | (refine Below.drew ?_) | (refine Below.trans ?_ (Below.mono (by assumption) ?_)))) <;> ((try simp only [World.size_alloc, World.size_setCell, World.size_drew] at *); omega))) (Nat.le_refl _)) (Hhr0.out.below (w' := w1) (by ((repeat' (first | exact Below.refl _ _ | (refine Below.alloc ?_ ?_ _) | (refine Below.setCell ?_ ?_ _) | (refine Below.drew ?_) | (refine Below.trans ?_ (Below.mono (by assumption) ?_)))) <;> ((try simp only [World.size_alloc, World.size_setCell, World.size_drew] at *); omega))) (Nat.le_refl _)) rfl).mono ?_
  rintro e w2 ⟨rfl, hB2⟩
  have hsz2 := hB2.size
  have hbox2 : ∀ j, w2.cell? ⟨w.heap.size, j, none⟩ = (w.alloc (.cells #[x0, x1, x2, .slice oa pl.length cap, x4, x5, x6, x7, x8, x9, x10] 31)).cell? ⟨w.heap.size, j, none⟩ := fun j => (hB2.cell (p := ⟨w.heap.size, j, none⟩) (by simp; omega)).trans (hbox1 j)
  by_cases f1 : pl.length ≤ 64
  rotate_left
  · go_wp2_with fail
    go_ret
    exact ⟨rfl, (by ((repeat' (first | exact Below.refl _ _ | (refine Below.alloc ?_ ?_ _) | (refine Below.setCell ?_ ?_ _) | (refine Below.drew ?_) | (refine Below.trans ?_ (Below.mono (by assumption) ?_)))) <;> ((try simp only [World.size_alloc, World.size_setCell, World.size_drew] at *); omega)))⟩
  by_cases f2 : rs.length ≤ 40
  rotate_left
  · go_wp2_with fail
    go_ret
    exact ⟨rfl, (by ((repeat' (first | exact Below.refl _ _ | (refine Below.alloc ?_ ?_ _) | (refine Below.setCell ?_ ?_ _) | (refine Below.drew ?_) | (refine Below.trans ?_ (Below.mono (by assumption) ?_)))) <;> ((try simp only [World.size_alloc, World.size_setCell, World.size_drew] at *); omega)))⟩
  by_cases hn0 : n < 0
  · go_wp2_with fail
    go_ret
    exact ⟨rfl, (by ((repeat' (first | exact Below.refl _ _ | (refine Below.alloc ?_ ?_ _) | (refine Below.setCell ?_ ?_ _) | (refine Below.drew ?_) | (refine Below.trans ?_ (Below.mono (by assumption) ?_)))) <;> ((try simp only [World.size_alloc, World.size_setCell, World.size_drew] at *); omega)))⟩
  obtain ⟨n, rfl⟩ := Int.eq_ofNat_of_zero_le (show 0 ≤ n by omega)
  by_cases hn1 : (rs.length : Int) < n
  · go_wp2_with fail
    go_ret
    exact ⟨rfl, (by ((repeat' (first | exact Below.refl _ _ | (refine Below.alloc ?_ ?_ _) | (refine Below.setCell ?_ ?_ _) | (refine Below.drew ?_) | (refine Below.trans ?_ (Below.mono (by assumption) ?_)))) <;> ((try simp only [World.size_alloc, World.size_setCell, World.size_drew] at *); omega)))⟩
  clear hn0
  go_wp2_with fail
  refine (Day_calls _ _ _ pl rs supply w2 (Hhbas.out.below (w' := w2) (by ((repeat' (first | exact Below.refl _ _ | (refine Below.alloc ?_ ?_ _) | (refine Below.setCell ?_ ?_ _) | (refine Below.drew ?_) | (refine Below.trans ?_ (Below.mono (by assumption) ?_)))) <;> ((try simp only [World.size_alloc, World.size_setCell, World.size_drew] at *); omega))) (Nat.le_refl _)) (Hhr0.out.below (w' := w2) (by ((repeat' (first | exact Below.refl _ _ | (refine Below.alloc ?_ ?_ _) | (refine Below.setCell ?_ ?_ _) | (refine Below.drew ?_) | (refine Below.trans ?_ (Below.mono (by assumption) ?_)))) <;> ((try simp only [World.size_alloc, World.size_setCell, World.size_drew] at *); omega))) (Nat.le_refl _)) (Hhs.out.below (w' := w2) (by ((repeat' (first | exact Below.refl _ _ | (refine Below.alloc ?_ ?_ _) | (refine Below.setCell ?_ ?_ _) | (refine Below.drew ?_) | (refine Below.trans ?_ (Below.mono (by assumption) ?_)))) <;> ((try simp only [World.size_alloc, World.size_setCell, World.size_drew] at *); omega))) (Nat.le_refl _)) (by omega) (by omega)).mono ?_
  rintro e w3 ⟨r1, g, rfl, hG3, hL3, hgg, hB3⟩
  have hsz3 := hB3.size
  have hbox3 : ∀ j, w3.cell? ⟨w.heap.size, j, none⟩ = (w.alloc (.cells #[x0, x1, x2, .slice oa pl.length cap, x4, x5, x6, x7, x8, x9, x10] 31)).cell? ⟨w.heap.size, j, none⟩ := fun j => (hB3.cell (p := ⟨w.heap.size, j, none⟩) (by simp; omega)).trans (hbox2 j)
  obtain ⟨hG, hL⟩ := day_facts (by obtain ⟨_, _, _, _, h64, _⟩ := Hhr0.out; exact h64) (by omega) (by omega) hG3 hL3
  have hdl := day_length pl rs supply
  obtain ⟨oag, capg, rfl, hcapg⟩ : ∃ oag capg, r1 = .slice oag rs.length capg ∧ rs.length ≤ capg := by
    rcases hG3.2 with ⟨rfl, hn⟩ | ⟨g', cap, cur, rfl, hb, hgg', hnc, _⟩
    · exact ⟨_, _, by rw [← hdl, hn], by omega⟩
    · exact ⟨_, _, by rw [← hdl], by omega⟩
  clear hgg hG3 hL3
  have hni : ((n : Nat) : Int) ≤ (capr : Int) := by omega
  have hni2 : ((n : Nat) : Int) ≤ (capg : Int) := by omega
  have hn2 : n ≤ rs.length := by omega
  have hrt : RightsAt w3 (.slice oar n capr) (rs.take n) := (Hhr0.out.below (w' := w3) (by ((repeat' (first | exact Below.refl _ _ | (refine Below.alloc ?_ ?_ _) | (refine Below.setCell ?_ ?_ _) | (refine Below.drew ?_) | (refine Below.trans ?_ (Below.mono (by assumption) ?_)))) <;> ((try simp only [World.size_alloc, World.size_setCell, World.size_drew] at *); omega))) (Nat.le_refl _)).take n hn2
  have htl : (rs.take n).length = n := by rw [List.length_take]; omega
  have HhG := Lib.hid hG
  clear hG
  have HhL := Lib.hid hL
  clear hL
  have Hhdl := Lib.hid hdl
  clear hdl
  have Hhrt := Lib.hid hrt
  clear hrt
  go_upto_region 6 with (fail)
  go_cut [13, 14] (fun s13 s14 wc => ∃ gt : Nat, s14 = (.slice (some ⟨gt, 0, none⟩) pl.length pl.length) ∧ wc.ownsRow (w3.heap.size + 2) 47 2 s13 (day pl (rs.take n) supply).1.length (gcells (day pl (rs.take n) supply).1) ∧
     wc.ownsRow (w3.heap.size + 1) 3 1 (.slice (some ⟨gt, 0, none⟩) pl.length pl.length) pl.length ((day pl (rs.take n) supply).2.map (.int .i64)) ∧ gt = w3.heap.size + 1 ∧ Below w3.heap.size w3 wc)
  case first =>
    go_region_held3 (fun w' => (∀ j, w'.cell? ⟨w.heap.size, j, none⟩ = (w.alloc (.cells #[x0, x1, x2, .slice oa pl.length cap, x4, x5, x6, x7, x8, x9, x10] 31)).cell? ⟨w.heap.size, j, none⟩)) (first | exact fun j => (World.cell?_of_block ((show Below (w.heap.size + 1) w3 _ from (by ((repeat' (first | exact Below.refl _ _ | (refine Below.alloc ?_ ?_ _) | (refine Below.setCell ?_ ?_ _) | (refine Below.drew ?_) | (refine Below.trans ?_ (Below.mono (by assumption) ?_)))) <;> ((try simp only [World.size_alloc, World.size_setCell, World.size_drew] at *); omega)))).block _ (by simp))).trans (hbox3 j)) (first | (go_at_call 10; refine (Day_calls _ _ _ pl (rs.take n) supply w3.drew (Hhbas.out.below (Below.drew (by ((repeat' (first | exact Below.refl _ _ | (refine Below.alloc ?_ ?_ _) | (refine Below.setCell ?_ ?_ _) | (refine Below.drew ?_) | (refine Below.trans ?_ (Below.mono (by assumption) ?_)))) <;> ((try simp only [World.size_alloc, World.size_setCell, World.size_drew] at *); omega)))) (Nat.le_refl _)) Hhrt.out (Hhs.out.below (Below.drew (by ((repeat' (first | exact Below.refl _ _ | (refine Below.alloc ?_ ?_ _) | (refine Below.setCell ?_ ?_ _) | (refine Below.drew ?_) | (refine Below.trans ?_ (Below.mono (by assumption) ?_)))) <;> ((try simp only [World.size_alloc, World.size_setCell, World.size_drew] at *); omega)))) (Nat.le_refl _)) (by omega) (by omega)).mono ?_; rintro e w4 ⟨r2, gt, rfl, hG4, hL4, hgt, hB4⟩; have hs4 := hB4.size; try simp only [World.size_drew] at hs4))
    all_goals
      obtain rfl : gt = w3.heap.size + 1 := hgt
      go_wp2_with fail
      go_meet
      exact ⟨w3.heap.size + 1, rfl, hG4, hL4, rfl, (Below.refl _ _).drew.trans hB4⟩
  obtain ⟨gt, rfl, hG4, hL4, hgt, hB4⟩ := hcut
  obtain ⟨w4, rfl⟩ : ∃ w4 : World, w4 = wc := ⟨_, rfl⟩
  have hsz4 := hB4.size
  have hgt' : gt = w3.heap.size + 1 := hgt
  have hgt4 := (hL4.lt gt rfl).2
  have hL4' : w4.ownsRow (w3.heap.size + 1) 3 1 (.slice (some ⟨gt, 0, none⟩) pl.length pl.length) pl.length ((leftAt pl rs supply n).map (.int .i64)) := hL4
  obtain ⟨hG4', -⟩ := day_facts (by obtain ⟨_, _, _, _, h64, _⟩ := Hhrt.out; exact h64) (by omega) (by omega) hG4 hL4
  have hdt := day_take (pl := pl) (supply := supply) n hn2
  have hdl4 := day_length pl (rs.take n) supply
  rw [htl] at hdl4
  obtain ⟨oah, caph, hoah⟩ : ∃ oah caph, u13 = .slice oah n caph := by obtain ⟨a, c, e, _⟩ := hG4'; exact ⟨a, c, by rw [e, hdl4]⟩
  subst hoah
  have hgt3 := ((HhG.out.below (w' := w4) hB4 (Nat.le_refl _)).take n (by rw [Hhdl.out]; exact hn2))
  rw [← hdt] at hgt3
  have hbox4 : ∀ j, w4.cell? ⟨w.heap.size, j, none⟩ = (w.alloc (.cells #[x0, x1, x2, .slice oa pl.length cap, x4, x5, x6, x7, x8, x9, x10] 31)).cell? ⟨w.heap.size, j, none⟩ := fun j => (hB4.cell (p := ⟨w.heap.size, j, none⟩) (by simp; omega)).trans (hbox3 j)
  clear hgt hG4 hL4
  have HhL4' := Lib.hid hL4'
  clear hL4'
  have HhG4' := Lib.hid hG4'
  clear hG4'
  have Hhdt := Lib.hid hdt
  clear hdt
  have Hhdl4 := Lib.hid hdl4
  clear hdl4
  have Hhgt3 := Lib.hid hgt3
  clear hgt3
  have Hhgt' := Lib.hid hgt'
  clear hgt'
  have Hhtl := Lib.hid htl
  clear htl
  go_wp2_with fail
  refine (Same_calls _ _ _ _ w4 Hhgt3.out HhG4'.out).mono ?_
  rintro e w5 ⟨rfl, hB5⟩
  have hsz5 := hB5.size
  obtain ⟨B, hBe⟩ : ∃ B, B = w3.heap.size + 1 := ⟨_, rfl⟩
  have hBgt : B ≤ gt := by have := Hhgt'.out; omega
  have hBw3 : w3.heap.size < B := by omega
  have hL5 : w5.ownsRow B 3 1 (.slice (some ⟨gt, 0, none⟩) pl.length pl.length) pl.length ((leftAt pl rs supply n).map (.int .i64)) := by rw [hBe]; exact ownsRow_below HhL4'.out hB5 (Nat.le_refl _)
  have hbox5 : ∀ j, w5.cell? ⟨w.heap.size, j, none⟩ = (w.alloc (.cells #[x0, x1, x2, .slice oa pl.length cap, x4, x5, x6, x7, x8, x9, x10] 31)).cell? ⟨w.heap.size, j, none⟩ := fun j => (hB5.cell (p := ⟨w.heap.size, j, none⟩) (by simp; omega)).trans (hbox4 j)
  have HhL5 := Lib.hid hL5
  clear hL5
  have HhBe := Lib.hid hBe
  clear hBe
  go_wp2_with fail
  go_loopw [15] (fun s15 wr => ∃ i : Nat, n ≤ i ∧ i ≤ rs.length ∧ s15 = .int .i64 i ∧ wr.ownsRow B 3 1 (.slice (some ⟨gt, 0, none⟩) pl.length pl.length) pl.length ((leftAt pl rs supply i).map (.int .i64)) ∧ Below gt w5 wr) (fun s15 _ => rs.length - (intOf s15).toNat)
  case atStart => exact ⟨n, Nat.le_refl _, by omega, rfl, HhL5.out, Below.refl _ _⟩
  case round =>
    obtain ⟨i, hni3, hi, rfl, hLr, hBr⟩ := hrel
    have hszr := hBr.size
    have hboxr : ∀ j, wr.cell? ⟨w.heap.size, j, none⟩ = (w.alloc (.cells #[x0, x1, x2, .slice oa pl.length cap, x4, x5, x6, x7, x8, x9, x10] 31)).cell? ⟨w.heap.size, j, none⟩ := fun j => (hBr.cell (p := ⟨w.heap.size, j, none⟩) (by simp; omega)).trans (hbox5 j)
    have hvol := leftAt_vols pl rs supply i
    by_cases hlt : i < rs.length
    · have hd := day_at (pl := pl) (supply := supply) hlt
      rw [List.getElem?_eq_getElem (by rw [Hhdl.out]; exact hlt), Option.some.injEq] at hd
      have hstep := leftAt_succ (pl := pl) (supply := supply) hlt
      have hgr : grant pl (leftAt pl rs supply i) rs[i] = if reach pl rs[i].place = [] then 0 else max 0 (least rs[i].rate (leftAt pl rs supply i) (reach pl rs[i].place)) := rfl
      have hmx := least_max0 (leftAt pl rs supply i) (fun k => (hvol.2 k).1) (reach pl rs[i].place) rs[i].rate
      have hge := grant_ge pl (leftAt pl rs supply i) rs[i]
      have hgu := grant_64 hvol rs[i]
      have hgle := grant_le hvol rs[i]
      have hway := reach_ways pl rs[i].place
      have hrB := Hhr0.out.below (w' := wr) (by ((repeat' (first | exact Below.refl _ _ | (refine Below.alloc ?_ ?_ _) | (refine Below.setCell ?_ ?_ _) | (refine Below.drew ?_) | (refine Below.trans ?_ (Below.mono (by assumption) ?_)))) <;> ((try simp only [World.size_alloc, World.size_setCell, World.size_drew] at *); omega))) (Nat.le_refl _)
      have hr64 := hrB.in64 hlt
      obtain ⟨b, off, rfl, hb, hrc⟩ := hrB.at' hlt
      generalize rs[i] = r at *
      obtain ⟨-, -, -, d3, d4, -, -, -, -⟩ := right_cells hrc
      clear hrB hrc
      generalize leftAt pl rs supply i = left at *
      have Hhd := Lib.hid hd
      clear hd
      have Hhstep := Lib.hid hstep
      clear hstep
      have Hhgr := Lib.hid hgr
      clear hgr
      have Hhmx := Lib.hid hmx
      clear hmx
      have Hhgle := Lib.hid hgle
      clear hgle
      have Hhway := Lib.hid hway
      clear hway
      have Hhr64 := Lib.hid hr64
      clear hr64
      have Hhvol := Lib.hid hvol
      clear hvol
      have HhLr := Lib.hid hLr
      clear hLr
      go_wp2_with fail
      go_still_tail 6, (by kernel_rfl)
      go_wp2_with fail
      refine (Reach_calls _ pl r.place wr.drew (Hhbas.out.below (Below.drew (by ((repeat' (first | exact Below.refl _ _ | (refine Below.alloc ?_ ?_ _) | (refine Below.setCell ?_ ?_ _) | (refine Below.drew ?_) | (refine Below.trans ?_ (Below.mono (by assumption) ?_)))) <;> ((try simp only [World.size_alloc, World.size_setCell, World.size_drew] at *); omega)))) (Nat.le_refl _)) Hhr64.out.2.2.2.1 (by omega)).mono ?_
      rintro e w6 ⟨rv, rfl, hown6, hB6⟩
      replace hB6 : Below wr.heap.size wr w6 := (Below.refl _ _).drew.trans hB6
      replace hown6 : w6.ownsRow wr.heap.size 3 1 rv (reach pl r.place).length ((reach pl r.place).map (.int .i64)) := hown6
      have hsz6 := hB6.size
      have hL6 := ownsRow_below HhLr.out hB6 (Nat.le_refl _)
      have hbox6 : ∀ j, w6.cell? ⟨w.heap.size, j, none⟩ = (w.alloc (.cells #[x0, x1, x2, .slice oa pl.length cap, x4, x5, x6, x7, x8, x9, x10] 31)).cell? ⟨w.heap.size, j, none⟩ := fun j => (hB6.cell (p := ⟨w.heap.size, j, none⟩) (by simp; omega)).trans (hboxr j)
      replace d4 : w6.cell? ⟨b, off + i * 9 + 4, none⟩ = some (.int .i64 r.rate) := by rw [← d4]; exact hB6.cell (p := ⟨b, _, none⟩) hb
      obtain ⟨oa6, cap6, rfl⟩ := own_open hown6
      clear d3
      generalize reach pl r.place = rl at *
      generalize grant pl left r = gr at *
      have hrl := Hhway.out.le
      have HhL6 := Lib.hid hL6
      clear hL6
      have Hhown6 := Lib.hid hown6
      clear hown6
      by_cases hrate : 0 < r.rate
      · by_cases hr0 : rl.length = 0
        · have hG0 : least (0) left rl = gr := by
            obtain rfl := List.eq_nil_of_length_eq_zero hr0
            have := Hhgr.out
            simp at this
            simp [least, this]
          have HhG0 := Lib.hid hG0
          clear hG0
          go_wp2_with fail
          go_loop [17, 18] (fun s17 s18 => ∃ j : Nat, j ≤ rl.length ∧ s18 = .int .i64 j ∧ s17 = .int .i64 (least (0) left (rl.take j))) (fun _ s18 => rl.length - (intOf s18).toNat)
          case atStart => exact ⟨0, by omega, rfl, by simp [least]⟩
          case round =>
            obtain ⟨j, hj, rfl, rfl⟩ := hrel
            by_cases hjl : j < rl.length
            · exfalso; omega
            · obtain rfl : j = rl.length := by omega
              rw [List.take_length]
              have hgrant : least (0) left rl = gr := HhG0.out
              rw [hgrant]
              have Hhgrant := Lib.hid hgrant
              clear hgrant
              go_wp2_with fail
              obtain ⟨wo3, rfl⟩ : ∃ wo3 : World, wo3 = wr := ⟨_, rfl⟩
              go_loopw [19] (fun s19 wr => ∃ j : Nat, j ≤ rl.length ∧ s19 = .int .i64 j ∧ wr.ownsRow B 3 1 (.slice (some ⟨gt, 0, none⟩) pl.length pl.length) pl.length ((subAll gr (rl.take j) left).map (.int .i64)) ∧
                 wr.ownsRow wo3.heap.size 3 1 (.slice oa6 rl.length cap6) rl.length (rl.map (.int .i64)) ∧ Below gt w6 wr) (fun s19 _ => rl.length - (intOf s19).toNat)
              case atStart => exact ⟨0, by omega, rfl, by simpa [subAll] using HhL6.out, Hhown6.out, Below.refl _ _⟩
              case round =>
                obtain ⟨j, hj, rfl, hL7, hR7, hB7⟩ := hrel
                have hbox7 : ∀ j, wr.cell? ⟨w.heap.size, j, none⟩ = (w.alloc (.cells #[x0, x1, x2, .slice oa pl.length cap, x4, x5, x6, x7, x8, x9, x10] 31)).cell? ⟨w.heap.size, j, none⟩ := fun j => (hB7.cell (p := ⟨w.heap.size, j, none⟩) (by simp; omega)).trans (hbox6 j)
                have hsz7 := hB7.size
                by_cases hjl : j < rl.length
                · exfalso; omega
                · obtain rfl : j = rl.length := by omega
                  rw [List.take_length] at hL7
                  have hG7 := HhG.out.below (w' := wr) (B := w3.heap.size) (by ((repeat' (first | exact Below.refl _ _ | (refine Below.alloc ?_ ?_ _) | (refine Below.setCell ?_ ?_ _) | (refine Below.drew ?_) | (refine Below.trans ?_ (Below.mono (by assumption) ?_)))) <;> ((try simp only [World.size_alloc, World.size_setCell, World.size_drew] at *); omega))) (Nat.le_refl _)
                  obtain ⟨bg, og, rfl, hbg, -, c2⟩ := hG7.at' (show i < _ by rw [Hhdl.out]; exact hlt)
                  rw [Hhd.out] at c2
                  simp only at c2
                  clear hG7
                  have HhL7 := Lib.hid hL7
                  clear hL7
                  have HhR7 := Lib.hid hR7
                  clear hR7
                  go_wp2_with fail
                  refine ⟨⟨i + 1, by omega, by omega, by go_num, ?_, (by ((repeat' (first | exact Below.refl _ _ | (refine Below.alloc ?_ ?_ _) | (refine Below.setCell ?_ ?_ _) | (refine Below.drew ?_) | (refine Below.trans ?_ (Below.mono (by assumption) ?_)))) <;> ((try simp only [World.size_alloc, World.size_setCell, World.size_drew] at *); omega)))⟩, by simp [intOf]; omega⟩
                  rw [Hhstep.out]
                  exact HhL7.out
        · have hG0 : least (r.rate) left rl = gr := by
            have := Hhgr.out
            rw [if_neg (by intro h; simp [h] at hr0), ← Hhmx.out, show max 0 r.rate = r.rate by omega] at this
            exact this.symm
          have HhG0 := Lib.hid hG0
          clear hG0
          go_wp2_with fail
          go_loop [17, 18] (fun s17 s18 => ∃ j : Nat, j ≤ rl.length ∧ s18 = .int .i64 j ∧ s17 = .int .i64 (least (r.rate) left (rl.take j))) (fun _ s18 => rl.length - (intOf s18).toNat)
          case atStart => exact ⟨0, by omega, rfl, by simp [least]⟩
          case round =>
            obtain ⟨j, hj, rfl, rfl⟩ := hrel
            by_cases hjl : j < rl.length
            · have hnext : least (r.rate) left (rl.take (j + 1)) = min (least (r.rate) left (rl.take j)) (nth left (nth rl j).toNat) := by rw [take_snoc' _ j hjl, least_snoc, ← nth_eq _ j hjl]
              generalize least (r.rate) left (rl.take j) = x at *
              obtain ⟨g2, rfl, hg2, hg2s, hcr, -⟩ := own_cell Hhown6.out hjl
              have hq := Hhway.out.2 (nth rl j) (by rw [nth_eq _ j hjl]; exact List.getElem_mem hjl)
              obtain ⟨q, hq'⟩ := Int.eq_ofNat_of_zero_le hq.1
              rw [hq'] at hcr hq hnext
              have hql : q < pl.length := by omega
              obtain ⟨g3, hg3, _, _, hcl, hfl⟩ := own_cell HhL6.out hql
              simp only [Option.some.injEq, Addr.mk.injEq, and_true] at hg3
              subst hg3
              have Hhnext := Lib.hid hnext
              clear hnext
              have Hhq := Lib.hid hq
              clear hq
              have Hhq' := Lib.hid hq'
              clear hq'
              by_cases hmin : nth left q < x
              all_goals
                go_wp2_with fail
                refine ⟨⟨j + 1, by omega, by go_num, ?_⟩, by simp [intOf]; omega⟩
                rw [Hhnext.out]
                simp [hmin]
                try omega
            · obtain rfl : j = rl.length := by omega
              rw [List.take_length]
              have hgrant : least (r.rate) left rl = gr := HhG0.out
              rw [hgrant]
              have Hhgrant := Lib.hid hgrant
              clear hgrant
              go_wp2_with fail
              obtain ⟨wo3, rfl⟩ : ∃ wo3 : World, wo3 = wr := ⟨_, rfl⟩
              go_loopw [19] (fun s19 wr => ∃ j : Nat, j ≤ rl.length ∧ s19 = .int .i64 j ∧ wr.ownsRow B 3 1 (.slice (some ⟨gt, 0, none⟩) pl.length pl.length) pl.length ((subAll gr (rl.take j) left).map (.int .i64)) ∧
                 wr.ownsRow wo3.heap.size 3 1 (.slice oa6 rl.length cap6) rl.length (rl.map (.int .i64)) ∧ Below gt w6 wr) (fun s19 _ => rl.length - (intOf s19).toNat)
              case atStart => exact ⟨0, by omega, rfl, by simpa [subAll] using HhL6.out, Hhown6.out, Below.refl _ _⟩
              case round =>
                obtain ⟨j, hj, rfl, hL7, hR7, hB7⟩ := hrel
                have hbox7 : ∀ j, wr.cell? ⟨w.heap.size, j, none⟩ = (w.alloc (.cells #[x0, x1, x2, .slice oa pl.length cap, x4, x5, x6, x7, x8, x9, x10] 31)).cell? ⟨w.heap.size, j, none⟩ := fun j => (hB7.cell (p := ⟨w.heap.size, j, none⟩) (by simp; omega)).trans (hbox6 j)
                have hsz7 := hB7.size
                by_cases hjl : j < rl.length
                · obtain ⟨g2, rfl, hg2, hg2s, hcr, -⟩ := own_cell hR7 hjl
                  have hq := Hhway.out.2 (nth rl j) (by rw [nth_eq _ j hjl]; exact List.getElem_mem hjl)
                  obtain ⟨q, hq'⟩ := Int.eq_ofNat_of_zero_le hq.1
                  rw [hq'] at hcr hq
                  have hql : q < pl.length := by omega
                  obtain ⟨g3, hg3, _, _, hcl, hfl⟩ := own_cell hL7 hql
                  simp only [Option.some.injEq, Addr.mk.injEq, and_true] at hg3
                  subst hg3
                  have hv := sub_at Hhvol.out Hhway.out hge Hhgle.out hjl
                  rw [hq', Int.toNat_natCast] at hv
                  generalize hleft : subAll gr (rl.take j) left = left2 at *
                  have hv0 := hv.1
                  have hv1 := hv.2
                  have hown9 := hL7
                  clear hL7 hv
                  have Hhown9 := Lib.hid hown9
                  clear hown9
                  have HhR7 := Lib.hid hR7
                  clear hR7
                  have Hhq' := Lib.hid hq'
                  clear hq'
                  have Hhq := Lib.hid hq
                  clear hq
                  have Hhleft := Lib.hid hleft
                  clear hleft
                  go_wp2_with fail
                  go_still_tail 15, (by kernel_rfl)
                  go_wp2_with fail
                  refine ⟨⟨j + 1, by omega, by go_num, ?_, ?_, (by ((repeat' (first | exact Below.refl _ _ | (refine Below.alloc ?_ ?_ _) | (refine Below.setCell ?_ ?_ _) | (refine Below.drew ?_) | (refine Below.trans ?_ (Below.mono (by assumption) ?_)))) <;> ((try simp only [World.size_alloc, World.size_setCell, World.size_drew] at *); omega)))⟩, by simp [intOf]; omega⟩
                  · have h := (World.ownsRow.stored Hhown9.out q (.int .i64 (nth left2 q - gr))).1
                    rw [take_snoc' _ j hjl, subAll_snoc, Hhleft.out, ← nth_eq _ j hjl, Hhq'.out]
                    simp only [subAt, Int.toNat_natCast, List.map_set]
                    exact h.drew
                  · exact (ownsRow_setCell_below HhR7.out (by simp; omega) _).drew
                · obtain rfl : j = rl.length := by omega
                  rw [List.take_length] at hL7
                  have hG7 := HhG.out.below (w' := wr) (B := w3.heap.size) (by ((repeat' (first | exact Below.refl _ _ | (refine Below.alloc ?_ ?_ _) | (refine Below.setCell ?_ ?_ _) | (refine Below.drew ?_) | (refine Below.trans ?_ (Below.mono (by assumption) ?_)))) <;> ((try simp only [World.size_alloc, World.size_setCell, World.size_drew] at *); omega))) (Nat.le_refl _)
                  obtain ⟨bg, og, rfl, hbg, -, c2⟩ := hG7.at' (show i < _ by rw [Hhdl.out]; exact hlt)
                  rw [Hhd.out] at c2
                  simp only at c2
                  clear hG7
                  have HhL7 := Lib.hid hL7
                  clear hL7
                  have HhR7 := Lib.hid hR7
                  clear hR7
                  go_wp2_with fail
                  refine ⟨⟨i + 1, by omega, by omega, by go_num, ?_, (by ((repeat' (first | exact Below.refl _ _ | (refine Below.alloc ?_ ?_ _) | (refine Below.setCell ?_ ?_ _) | (refine Below.drew ?_) | (refine Below.trans ?_ (Below.mono (by assumption) ?_)))) <;> ((try simp only [World.size_alloc, World.size_setCell, World.size_drew] at *); omega)))⟩, by simp [intOf]; omega⟩
                  rw [Hhstep.out]
                  exact HhL7.out
      · by_cases hr0 : rl.length = 0
        · have hG0 : least (0) left rl = gr := by
            obtain rfl := List.eq_nil_of_length_eq_zero hr0
            have := Hhgr.out
            simp at this
            simp [least, this]
          have HhG0 := Lib.hid hG0
          clear hG0
          go_wp2_with fail
          go_loop [17, 18] (fun s17 s18 => ∃ j : Nat, j ≤ rl.length ∧ s18 = .int .i64 j ∧ s17 = .int .i64 (least (0) left (rl.take j))) (fun _ s18 => rl.length - (intOf s18).toNat)
          case atStart => exact ⟨0, by omega, rfl, by simp [least]⟩
          case round =>
            obtain ⟨j, hj, rfl, rfl⟩ := hrel
            by_cases hjl : j < rl.length
            · exfalso; omega
            · obtain rfl : j = rl.length := by omega
              rw [List.take_length]
              have hgrant : least (0) left rl = gr := HhG0.out
              rw [hgrant]
              have Hhgrant := Lib.hid hgrant
              clear hgrant
              go_wp2_with fail
              obtain ⟨wo3, rfl⟩ : ∃ wo3 : World, wo3 = wr := ⟨_, rfl⟩
              go_loopw [19] (fun s19 wr => ∃ j : Nat, j ≤ rl.length ∧ s19 = .int .i64 j ∧ wr.ownsRow B 3 1 (.slice (some ⟨gt, 0, none⟩) pl.length pl.length) pl.length ((subAll gr (rl.take j) left).map (.int .i64)) ∧
                 wr.ownsRow wo3.heap.size 3 1 (.slice oa6 rl.length cap6) rl.length (rl.map (.int .i64)) ∧ Below gt w6 wr) (fun s19 _ => rl.length - (intOf s19).toNat)
              case atStart => exact ⟨0, by omega, rfl, by simpa [subAll] using HhL6.out, Hhown6.out, Below.refl _ _⟩
              case round =>
                obtain ⟨j, hj, rfl, hL7, hR7, hB7⟩ := hrel
                have hbox7 : ∀ j, wr.cell? ⟨w.heap.size, j, none⟩ = (w.alloc (.cells #[x0, x1, x2, .slice oa pl.length cap, x4, x5, x6, x7, x8, x9, x10] 31)).cell? ⟨w.heap.size, j, none⟩ := fun j => (hB7.cell (p := ⟨w.heap.size, j, none⟩) (by simp; omega)).trans (hbox6 j)
                have hsz7 := hB7.size
                by_cases hjl : j < rl.length
                · exfalso; omega
                · obtain rfl : j = rl.length := by omega
                  rw [List.take_length] at hL7
                  have hG7 := HhG.out.below (w' := wr) (B := w3.heap.size) (by ((repeat' (first | exact Below.refl _ _ | (refine Below.alloc ?_ ?_ _) | (refine Below.setCell ?_ ?_ _) | (refine Below.drew ?_) | (refine Below.trans ?_ (Below.mono (by assumption) ?_)))) <;> ((try simp only [World.size_alloc, World.size_setCell, World.size_drew] at *); omega))) (Nat.le_refl _)
                  obtain ⟨bg, og, rfl, hbg, -, c2⟩ := hG7.at' (show i < _ by rw [Hhdl.out]; exact hlt)
                  rw [Hhd.out] at c2
                  simp only at c2
                  clear hG7
                  have HhL7 := Lib.hid hL7
                  clear hL7
                  have HhR7 := Lib.hid hR7
                  clear hR7
                  go_wp2_with fail
                  refine ⟨⟨i + 1, by omega, by omega, by go_num, ?_, (by ((repeat' (first | exact Below.refl _ _ | (refine Below.alloc ?_ ?_ _) | (refine Below.setCell ?_ ?_ _) | (refine Below.drew ?_) | (refine Below.trans ?_ (Below.mono (by assumption) ?_)))) <;> ((try simp only [World.size_alloc, World.size_setCell, World.size_drew] at *); omega)))⟩, by simp [intOf]; omega⟩
                  rw [Hhstep.out]
                  exact HhL7.out
        · have hG0 : least (0) left rl = gr := by
            have := Hhgr.out
            rw [if_neg (by intro h; simp [h] at hr0), ← Hhmx.out, show max 0 r.rate = 0 by omega] at this
            exact this.symm
          have HhG0 := Lib.hid hG0
          clear hG0
          go_wp2_with fail
          go_loop [17, 18] (fun s17 s18 => ∃ j : Nat, j ≤ rl.length ∧ s18 = .int .i64 j ∧ s17 = .int .i64 (least (0) left (rl.take j))) (fun _ s18 => rl.length - (intOf s18).toNat)
          case atStart => exact ⟨0, by omega, rfl, by simp [least]⟩
          case round =>
            obtain ⟨j, hj, rfl, rfl⟩ := hrel
            by_cases hjl : j < rl.length
            · have hnext : least (0) left (rl.take (j + 1)) = min (least (0) left (rl.take j)) (nth left (nth rl j).toNat) := by rw [take_snoc' _ j hjl, least_snoc, ← nth_eq _ j hjl]
              generalize least (0) left (rl.take j) = x at *
              obtain ⟨g2, rfl, hg2, hg2s, hcr, -⟩ := own_cell Hhown6.out hjl
              have hq := Hhway.out.2 (nth rl j) (by rw [nth_eq _ j hjl]; exact List.getElem_mem hjl)
              obtain ⟨q, hq'⟩ := Int.eq_ofNat_of_zero_le hq.1
              rw [hq'] at hcr hq hnext
              have hql : q < pl.length := by omega
              obtain ⟨g3, hg3, _, _, hcl, hfl⟩ := own_cell HhL6.out hql
              simp only [Option.some.injEq, Addr.mk.injEq, and_true] at hg3
              subst hg3
              have Hhnext := Lib.hid hnext
              clear hnext
              have Hhq := Lib.hid hq
              clear hq
              have Hhq' := Lib.hid hq'
              clear hq'
              by_cases hmin : nth left q < x
              all_goals
                go_wp2_with fail
                refine ⟨⟨j + 1, by omega, by go_num, ?_⟩, by simp [intOf]; omega⟩
                rw [Hhnext.out]
                simp [hmin]
                try omega
            · obtain rfl : j = rl.length := by omega
              rw [List.take_length]
              have hgrant : least (0) left rl = gr := HhG0.out
              rw [hgrant]
              have Hhgrant := Lib.hid hgrant
              clear hgrant
              go_wp2_with fail
              obtain ⟨wo3, rfl⟩ : ∃ wo3 : World, wo3 = wr := ⟨_, rfl⟩
              go_loopw [19] (fun s19 wr => ∃ j : Nat, j ≤ rl.length ∧ s19 = .int .i64 j ∧ wr.ownsRow B 3 1 (.slice (some ⟨gt, 0, none⟩) pl.length pl.length) pl.length ((subAll gr (rl.take j) left).map (.int .i64)) ∧
                 wr.ownsRow wo3.heap.size 3 1 (.slice oa6 rl.length cap6) rl.length (rl.map (.int .i64)) ∧ Below gt w6 wr) (fun s19 _ => rl.length - (intOf s19).toNat)
              case atStart => exact ⟨0, by omega, rfl, by simpa [subAll] using HhL6.out, Hhown6.out, Below.refl _ _⟩
              case round =>
                obtain ⟨j, hj, rfl, hL7, hR7, hB7⟩ := hrel
                have hbox7 : ∀ j, wr.cell? ⟨w.heap.size, j, none⟩ = (w.alloc (.cells #[x0, x1, x2, .slice oa pl.length cap, x4, x5, x6, x7, x8, x9, x10] 31)).cell? ⟨w.heap.size, j, none⟩ := fun j => (hB7.cell (p := ⟨w.heap.size, j, none⟩) (by simp; omega)).trans (hbox6 j)
                have hsz7 := hB7.size
                by_cases hjl : j < rl.length
                · obtain ⟨g2, rfl, hg2, hg2s, hcr, -⟩ := own_cell hR7 hjl
                  have hq := Hhway.out.2 (nth rl j) (by rw [nth_eq _ j hjl]; exact List.getElem_mem hjl)
                  obtain ⟨q, hq'⟩ := Int.eq_ofNat_of_zero_le hq.1
                  rw [hq'] at hcr hq
                  have hql : q < pl.length := by omega
                  obtain ⟨g3, hg3, _, _, hcl, hfl⟩ := own_cell hL7 hql
                  simp only [Option.some.injEq, Addr.mk.injEq, and_true] at hg3
                  subst hg3
                  have hv := sub_at Hhvol.out Hhway.out hge Hhgle.out hjl
                  rw [hq', Int.toNat_natCast] at hv
                  generalize hleft : subAll gr (rl.take j) left = left2 at *
                  have hv0 := hv.1
                  have hv1 := hv.2
                  have hown9 := hL7
                  clear hL7 hv
                  have Hhown9 := Lib.hid hown9
                  clear hown9
                  have HhR7 := Lib.hid hR7
                  clear hR7
                  have Hhq' := Lib.hid hq'
                  clear hq'
                  have Hhq := Lib.hid hq
                  clear hq
                  have Hhleft := Lib.hid hleft
                  clear hleft
                  go_wp2_with fail
                  go_still_tail 15, (by kernel_rfl)
                  go_wp2_with fail
                  refine ⟨⟨j + 1, by omega, by go_num, ?_, ?_, (by ((repeat' (first | exact Below.refl _ _ | (refine Below.alloc ?_ ?_ _) | (refine Below.setCell ?_ ?_ _) | (refine Below.drew ?_) | (refine Below.trans ?_ (Below.mono (by assumption) ?_)))) <;> ((try simp only [World.size_alloc, World.size_setCell, World.size_drew] at *); omega)))⟩, by simp [intOf]; omega⟩
                  · have h := (World.ownsRow.stored Hhown9.out q (.int .i64 (nth left2 q - gr))).1
                    rw [take_snoc' _ j hjl, subAll_snoc, Hhleft.out, ← nth_eq _ j hjl, Hhq'.out]
                    simp only [subAt, Int.toNat_natCast, List.map_set]
                    exact h.drew
                  · exact (ownsRow_setCell_below HhR7.out (by simp; omega) _).drew
                · obtain rfl : j = rl.length := by omega
                  rw [List.take_length] at hL7
                  have hG7 := HhG.out.below (w' := wr) (B := w3.heap.size) (by ((repeat' (first | exact Below.refl _ _ | (refine Below.alloc ?_ ?_ _) | (refine Below.setCell ?_ ?_ _) | (refine Below.drew ?_) | (refine Below.trans ?_ (Below.mono (by assumption) ?_)))) <;> ((try simp only [World.size_alloc, World.size_setCell, World.size_drew] at *); omega))) (Nat.le_refl _)
                  obtain ⟨bg, og, rfl, hbg, -, c2⟩ := hG7.at' (show i < _ by rw [Hhdl.out]; exact hlt)
                  rw [Hhd.out] at c2
                  simp only at c2
                  clear hG7
                  have HhL7 := Lib.hid hL7
                  clear hL7
                  have HhR7 := Lib.hid hR7
                  clear hR7
                  go_wp2_with fail
                  refine ⟨⟨i + 1, by omega, by omega, by go_num, ?_, (by ((repeat' (first | exact Below.refl _ _ | (refine Below.alloc ?_ ?_ _) | (refine Below.setCell ?_ ?_ _) | (refine Below.drew ?_) | (refine Below.trans ?_ (Below.mono (by assumption) ?_)))) <;> ((try simp only [World.size_alloc, World.size_setCell, World.size_drew] at *); omega)))⟩, by simp [intOf]; omega⟩
                  rw [Hhstep.out]
                  exact HhL7.out
    · obtain rfl : i = rs.length := by omega
      have hLw := HhL.out.below (w' := wr) (B := w3.heap.size) (by ((repeat' (first | exact Below.refl _ _ | (refine Below.alloc ?_ ?_ _) | (refine Below.setCell ?_ ?_ _) | (refine Below.drew ?_) | (refine Below.trans ?_ (Below.mono (by assumption) ?_)))) <;> ((try simp only [World.size_alloc, World.size_setCell, World.size_drew] at *); omega))) (Nat.le_refl _)
      have hTw : IntsAt wr (.slice (some ⟨gt, 0, none⟩) pl.length pl.length) (leftAt pl rs supply rs.length) := by
        have h0 := hvol.1
        have h := IntsAt.of_owned (v := (.slice (some ⟨gt, 0, none⟩) pl.length pl.length)) (l := leftAt pl rs supply rs.length) (by rw [h0]; exact hLr) hvol.in64 (by omega)
        exact h
      rw [← day_left] at hTw
      have HhLw := Lib.hid hLw
      clear hLw
      have HhTw := Lib.hid hTw
      clear hTw
      have HhLr := Lib.hid hLr
      clear hLr
      have Hhvol := Lib.hid hvol
      clear hvol
      go_wp2_with fail
      refine (SameInts_calls _ _ _ _ wr HhLw.out HhTw.out).mono ?_
      rintro e w6 ⟨rfl, hB6⟩
      have hsz6 := hB6.size
      go_wp2_with fail
      go_ret
      exact ⟨ret_bool (by simp), (by ((repeat' (first | exact Below.refl _ _ | (refine Below.alloc ?_ ?_ _) | (refine Below.setCell ?_ ?_ _) | (refine Below.drew ?_) | (refine Below.trans ?_ (Below.mono (by assumption) ?_)))) <;> ((try simp only [World.size_alloc, World.size_setCell, World.size_drew] at *); omega)))⟩
end Go.Proofs.Ytjikehjhmjfhfaa
