/- The law AllotStops. -/
import Derived.Test.YtjikehjhmjfhfaaW16
import Derived.Test.YtjikehjhmjfhfaaPlain3
import Derived.Deep.RegionHeld3
namespace Go.Proofs.Ytjikehjhmjfhfaa
open Go.RowKit

theorem day_in64 (pl : List Pl) (supply : List Int) {rs : List Rt} (hr : ∀ r ∈ rs, r.in64) : ∀ x ∈ (day pl rs supply).1, In64 x.1 ∧ In64 x.2 := by
  intro x hx
  obtain ⟨i, hi, rfl⟩ := List.getElem_of_mem hx
  have hi' : i < rs.length := by rwa [day_length] at hi
  have := day_at (pl := pl) (supply := supply) hi'
  rw [List.getElem?_eq_getElem hi] at this
  simp only [Option.some.injEq] at this
  rw [this]
  have h1 := grant_ge pl (leftAt pl rs supply i) rs[i]
  have h2 := grant_64 (leftAt_vols pl rs supply i) rs[i]
  exact ⟨(hr _ (List.getElem_mem hi')).1, by unfold In64; omega⟩

/-- what a day leaves in memory -/
theorem day_facts {w3 : World} {B B2 g : Nat} {r1 : Value} {pl : List Pl} {rs : List Rt} {supply : List Int} (h64 : ∀ r ∈ rs, r.in64) (f1 : pl.length ≤ 1048576) (f2 : rs.length ≤ 1048576)
    (hG3 : w3.ownsRow B 47 2 r1 (day pl rs supply).1.length (gcells (day pl rs supply).1)) (hL3 : w3.ownsRow B2 3 1 (.slice (some ⟨g, 0, none⟩) pl.length pl.length) pl.length ((day pl rs supply).2.map (.int .i64))) :
    GrantsAt w3 r1 (day pl rs supply).1 ∧ IntsAt w3 (.slice (some ⟨g, 0, none⟩) pl.length pl.length) (day pl rs supply).2 := by
  have hl := day_length pl rs supply
  have hv := leftAt_vols pl rs supply rs.length
  rw [← day_left] at hv
  exact ⟨GrantsAt.of_owned hG3 (day_in64 pl supply h64) (by omega), IntsAt.of_owned (by rw [hv.1]; exact hL3) hv.in64 (by rw [hv.1]; omega)⟩

set_option maxRecDepth 100000 in
set_option maxHeartbeats 40000000 in
theorem Stops_calls (v vr vs : Value) (pl : List Pl) (rs : List Rt) (supply : List Int) (w : World) (h : BasinAt w v pl) (hr : RightsAt w vr rs) (hs : IntsAt w vs supply) :
    Calls Try.prog 4 #[v, vr, vs] w fun e w' => e = .returned (.bool true) ∧ Below w.heap.size w w' := by
  have hbas := h
  obtain ⟨hm, x0, x1, x2, oa, cap, x4, x5, x6, x7, x8, x9, x10, rfl, hp⟩ := h
  have hr0 := hr
  obtain ⟨oar, capr, rfl, hrm, -, -⟩ := hr
  clear hp
  have Hhbas := Lib.hid hbas
  clear hbas
  have Hhr0 := Lib.hid hr0
  clear hr0
  have Hhs := Lib.hid hs
  clear hs
  go_enter Try.func4, Try.ntmps4
  go_wp2_with fail
  refine (small_calls _).mono ?_
  rintro e w1 ⟨rfl, hB1⟩
  have hsz1 := hB1.size
  simp only [World.size_alloc] at hsz1
  have hbox1 : ∀ j, w1.cell? ⟨w.heap.size, j, none⟩ = (w.alloc (.cells #[x0, x1, x2, .slice oa pl.length cap, x4, x5, x6, x7, x8, x9, x10] 31)).cell? ⟨w.heap.size, j, none⟩ := fun j => hB1.cell (p := ⟨w.heap.size, j, none⟩) (by simp)
  go_wp2_with fail
  refine (few_calls _ _ _ pl rs _ _ _ w1 (Hhbas.out.below (w' := w1) (by ((repeat' (first | exact Below.refl _ _ | (refine Below.alloc ?_ ?_ _) | (refine Below.setCell ?_ ?_ _) | (refine Below.drew ?_) | (refine Below.trans ?_ (Below.mono (by assumption) ?_)))) <;> ((try simp only [World.size_alloc, World.size_setCell, World.size_drew] at *); omega))) (Nat.le_refl _)) (Hhr0.out.below (w' := w1) (by ((repeat' (first | exact Below.refl _ _ | (refine Below.alloc ?_ ?_ _) | (refine Below.setCell ?_ ?_ _) | (refine Below.drew ?_) | (refine Below.trans ?_ (Below.mono (by assumption) ?_)))) <;> ((try simp only [World.size_alloc, World.size_setCell, World.size_drew] at *); omega))) (Nat.le_refl _)) rfl).mono ?_
  rintro e w2 ⟨rfl, hB2⟩
  have hsz2 := hB2.size
  have hbox2 : ∀ j, w2.cell? ⟨w.heap.size, j, none⟩ = (w.alloc (.cells #[x0, x1, x2, .slice oa pl.length cap, x4, x5, x6, x7, x8, x9, x10] 31)).cell? ⟨w.heap.size, j, none⟩ := fun j => (hB2.cell (p := ⟨w.heap.size, j, none⟩) (by simp; omega)).trans (hbox1 j)
  by_cases f1 : pl.length ≤ 64
  rotate_left
  · go_wp2_with fail
    go_ret
    exact ⟨rfl, (by ((repeat' (first | exact Below.refl _ _ | (refine Below.alloc ?_ ?_ _) | (refine Below.setCell ?_ ?_ _) | (refine Below.drew ?_) | (refine Below.trans ?_ (Below.mono (by assumption) ?_)))) <;> ((try simp only [World.size_alloc, World.size_setCell, World.size_drew] at *); omega)))⟩
  by_cases f2 : rs.length ≤ 40
  rotate_left
  · go_wp2_with fail
    go_ret
    exact ⟨rfl, (by ((repeat' (first | exact Below.refl _ _ | (refine Below.alloc ?_ ?_ _) | (refine Below.setCell ?_ ?_ _) | (refine Below.drew ?_) | (refine Below.trans ?_ (Below.mono (by assumption) ?_)))) <;> ((try simp only [World.size_alloc, World.size_setCell, World.size_drew] at *); omega)))⟩
  go_wp2_with fail
  refine (Day_calls _ _ _ pl rs supply w2 (Hhbas.out.below (w' := w2) (by ((repeat' (first | exact Below.refl _ _ | (refine Below.alloc ?_ ?_ _) | (refine Below.setCell ?_ ?_ _) | (refine Below.drew ?_) | (refine Below.trans ?_ (Below.mono (by assumption) ?_)))) <;> ((try simp only [World.size_alloc, World.size_setCell, World.size_drew] at *); omega))) (Nat.le_refl _)) (Hhr0.out.below (w' := w2) (by ((repeat' (first | exact Below.refl _ _ | (refine Below.alloc ?_ ?_ _) | (refine Below.setCell ?_ ?_ _) | (refine Below.drew ?_) | (refine Below.trans ?_ (Below.mono (by assumption) ?_)))) <;> ((try simp only [World.size_alloc, World.size_setCell, World.size_drew] at *); omega))) (Nat.le_refl _)) (Hhs.out.below (w' := w2) (by ((repeat' (first | exact Below.refl _ _ | (refine Below.alloc ?_ ?_ _) | (refine Below.setCell ?_ ?_ _) | (refine Below.drew ?_) | (refine Below.trans ?_ (Below.mono (by assumption) ?_)))) <;> ((try simp only [World.size_alloc, World.size_setCell, World.size_drew] at *); omega))) (Nat.le_refl _)) (by omega) (by omega)).mono ?_
  rintro e w3 ⟨r1, g, rfl, hG3, hL3, hgg, hB3⟩
  have hsz3 := hB3.size
  have hbox3 : ∀ j, w3.cell? ⟨w.heap.size, j, none⟩ = (w.alloc (.cells #[x0, x1, x2, .slice oa pl.length cap, x4, x5, x6, x7, x8, x9, x10] 31)).cell? ⟨w.heap.size, j, none⟩ := fun j => (hB3.cell (p := ⟨w.heap.size, j, none⟩) (by simp; omega)).trans (hbox2 j)
  obtain ⟨hG, hL⟩ := day_facts (by obtain ⟨_, _, _, _, h64, _⟩ := Hhr0.out; exact h64) (by omega) (by omega) hG3 hL3
  have hdl := day_length pl rs supply
  obtain ⟨oag, capg, rfl⟩ : ∃ oag capg, r1 = .slice oag rs.length capg := by obtain ⟨a, c, e, _⟩ := hG; exact ⟨a, c, by rw [e, hdl]⟩
  clear hgg hG3 hL3
  have HhG := Lib.hid hG
  clear hG
  have HhL := Lib.hid hL
  clear hL
  have Hhdl := Lib.hid hdl
  clear hdl
  go_wp2_with fail
  go_loopw [11] (fun s11 wr => ∃ i : Nat, i ≤ rs.length ∧ s11 = .int .i64 i ∧ Below w3.heap.size w3 wr) (fun s11 _ => rs.length - (intOf s11).toNat)
  case atStart => exact ⟨0, by omega, rfl, Below.refl _ _⟩
  case round =>
    obtain ⟨i, hi, rfl, hB⟩ := hrel
    have hsz := hB.size
    have hbox : ∀ j, wr.cell? ⟨w.heap.size, j, none⟩ = (w.alloc (.cells #[x0, x1, x2, .slice oa pl.length cap, x4, x5, x6, x7, x8, x9, x10] 31)).cell? ⟨w.heap.size, j, none⟩ := fun j => (World.cell?_of_block ((show Below (w.heap.size + 1) w3 wr from (by ((repeat' (first | exact Below.refl _ _ | (refine Below.alloc ?_ ?_ _) | (refine Below.setCell ?_ ?_ _) | (refine Below.drew ?_) | (refine Below.trans ?_ (Below.mono (by assumption) ?_)))) <;> ((try simp only [World.size_alloc, World.size_setCell, World.size_drew] at *); omega)))).block _ (by simp))).trans (hbox3 j)
    by_cases hlt : i < rs.length
    · have hd := day_at (pl := pl) (supply := supply) hlt
      have hst := stops (pl := pl) (supply := supply) hlt
      have hge := grant_ge pl (leftAt pl rs supply i) rs[i]
      have hler := grant_le_rate pl (leftAt pl rs supply i) rs[i]
      have hnot := reach_not (pl := pl) (p := rs[i].place)
      have hgn : reach pl rs[i].place = [] → grant pl (leftAt pl rs supply i) rs[i] = 0 := fun h => by unfold grant; rw [if_pos h]
      have hGB := HhG.out.below hB (Nat.le_refl _)
      obtain ⟨bg, og, rfl, hbg, c1, c2⟩ := hGB.at' (show i < _ by rw [Hhdl.out]; exact hlt)
      rw [List.getElem?_eq_getElem (by rw [Hhdl.out]; exact hlt), Option.some.injEq] at hd
      rw [hd] at c1 c2
      simp only at c1 c2
      have hrB := Hhr0.out.below (w' := wr) (by ((repeat' (first | exact Below.refl _ _ | (refine Below.alloc ?_ ?_ _) | (refine Below.setCell ?_ ?_ _) | (refine Below.drew ?_) | (refine Below.trans ?_ (Below.mono (by assumption) ?_)))) <;> ((try simp only [World.size_alloc, World.size_setCell, World.size_drew] at *); omega))) (Nat.le_refl _)
      have hr64 := hrB.in64 hlt
      obtain ⟨b, off, rfl, hb, hrc⟩ := hrB.at' hlt
      generalize grant pl (leftAt pl rs supply i) rs[i] = n at *
      generalize rs[i] = r at *
      obtain ⟨d0, d1, d2, d3, d4, d5, d6, d7, d8⟩ := right_cells hrc
      have hrc' : ∀ (wx : World), Below wr.heap.size wr wx → wx.cell? ⟨b, off + i * 9, none⟩ = some (.int .i64 r.id) ∧ wx.cell? ⟨b, off + i * 9 + 3, none⟩ = some (.int .i64 r.place) ∧ wx.cell? ⟨b, off + i * 9 + 4, none⟩ = some (.int .i64 r.rate) ∧ wx.cell? ⟨bg, og + i * 2, none⟩ = some (.int .i64 r.id) ∧ wx.cell? ⟨bg, og + i * 2 + 1, none⟩ = some (.int .i64 n) := fun wx hx =>
        ⟨by rw [← d0]; exact hx.cell (p := ⟨b, _, none⟩) hb, by rw [← d3]; exact hx.cell (p := ⟨b, _, none⟩) hb, by rw [← d4]; exact hx.cell (p := ⟨b, _, none⟩) hb, by rw [← c1]; exact hx.cell (p := ⟨bg, _, none⟩) hbg, by rw [← c2]; exact hx.cell (p := ⟨bg, _, none⟩) hbg⟩
      clear hGB hrB hrc
      have Hhd := Lib.hid hd
      clear hd
      have Hhst := Lib.hid hst
      clear hst
      have Hhler := Lib.hid hler
      clear hler
      have Hhnot := Lib.hid hnot
      clear hnot
      have Hhgn := Lib.hid hgn
      clear hgn
      have Hhr64 := Lib.hid hr64
      clear hr64
      have Hhrc' := Lib.hid hrc'
      clear hrc'
      have Hc1 := Lib.hid c1
      clear c1
      have Hc2 := Lib.hid c2
      clear c2
      go_wp2_with fail
      go_still_tail 5, (by kernel_rfl)
      go_wp2_with fail
      refine (place_calls _ pl r wr.drew (Hhbas.out.below (Below.drew (by ((repeat' (first | exact Below.refl _ _ | (refine Below.alloc ?_ ?_ _) | (refine Below.setCell ?_ ?_ _) | (refine Below.drew ?_) | (refine Below.trans ?_ (Below.mono (by assumption) ?_)))) <;> ((try simp only [World.size_alloc, World.size_setCell, World.size_drew] at *); omega)))) (Nat.le_refl _))).mono ?_
      rintro e w4 ⟨rfl, hB4⟩
      replace hB4 : Below wr.heap.size wr w4 := (Below.refl _ _).drew.trans hB4
      have hsz4 := hB4.size
      clear d0 d1 d2 d3 d4 d5 d6 d7 d8
      obtain ⟨d0, d3, d4, c1, c2⟩ := Hhrc'.out w4 hB4
      have hbox4 : ∀ j, w4.cell? ⟨w.heap.size, j, none⟩ = (w.alloc (.cells #[x0, x1, x2, .slice oa pl.length cap, x4, x5, x6, x7, x8, x9, x10] 31)).cell? ⟨w.heap.size, j, none⟩ := fun j => (World.cell?_of_block ((show Below (w.heap.size + 1) w3 w4 from (by ((repeat' (first | exact Below.refl _ _ | (refine Below.alloc ?_ ?_ _) | (refine Below.setCell ?_ ?_ _) | (refine Below.drew ?_) | (refine Below.trans ?_ (Below.mono (by assumption) ?_)))) <;> ((try simp only [World.size_alloc, World.size_setCell, World.size_drew] at *); omega)))).block _ (by simp))).trans (hbox3 j)
      have hatd : isPlace pl r.place = decide (0 ≤ r.place ∧ r.place < pl.length) := by unfold isPlace; rw [Bool.eq_iff_iff]; simp
      have hfin : n < r.rate → isPlace pl r.place = true → (reach pl r.place).any (fun q => nth (day pl rs supply).2 q.toNat == 0) = true := fun h1 h2 => Hhst.out (by rw [hatd] at h2; simpa using h2) h1
      have hn0 : isPlace pl r.place = false → n = 0 := fun h => Hhgn.out (Hhnot.out (by rw [hatd] at h; simpa using h))
      have hle1 : ¬ 0 < r.rate → n ≤ 0 := fun h => by have := Hhler.out; omega
      have hle2 : 0 < r.rate → n ≤ r.rate := fun h => by have := Hhler.out; omega
      generalize hat : isPlace pl r.place = t at *
      have Hhatd := Lib.hid hatd
      clear hatd
      have Hhfin := Lib.hid hfin
      clear hfin
      have Hhn0 := Lib.hid hn0
      clear hn0
      have Hhat := Lib.hid hat
      clear hat
      have Hhle1 := Lib.hid hle1
      clear hle1
      have Hhle2 := Lib.hid hle2
      clear hle2
      have hcases : (t = true ∨ (t = false ∧ n = 0)) := by cases t; exact .inr ⟨rfl, Hhn0.out rfl⟩; exact .inl rfl
      have hdn : decide (n < 0) = false := by simp; omega
      by_cases hrate : 0 < r.rate
      · have hle := Hhle2.out hrate
        have hdr : decide (r.rate < n) = false := by simp; omega
        rcases hcases with rfl | ⟨rfl, rfl⟩
        · by_cases hge : r.rate ≤ n
          · have hdg : decide (r.rate ≤ n) = true := by simp; omega
            go_wp2_with fail
            go_quiet (fail)
            clear d0 d3 d4 c1 c2
            have hB5 : Below w4.heap.size w4 (w4.drewN nq) := below_drewN (Below.refl _ _) _
            generalize w4.drewN nq = w5 at *
            have hsz5 := hB5.size
            obtain ⟨d0, d3, d4, c1, c2⟩ := Hhrc'.out w5 (by ((repeat' (first | exact Below.refl _ _ | (refine Below.alloc ?_ ?_ _) | (refine Below.setCell ?_ ?_ _) | (refine Below.drew ?_) | (refine Below.trans ?_ (Below.mono (by assumption) ?_)))) <;> ((try simp only [World.size_alloc, World.size_setCell, World.size_drew] at *); omega)))
            go_wp2_with fail
            go_quiet (fail)
            clear d0 d3 d4 c1 c2
            have hB6 : Below w5.heap.size w5 (w5.drewN nq) := below_drewN (Below.refl _ _) _
            generalize w5.drewN nq = w6 at *
            have hsz6 := hB6.size
            obtain ⟨-, d3, -, -, -⟩ := Hhrc'.out w6 (by ((repeat' (first | exact Below.refl _ _ | (refine Below.alloc ?_ ?_ _) | (refine Below.setCell ?_ ?_ _) | (refine Below.drew ?_) | (refine Below.trans ?_ (Below.mono (by assumption) ?_)))) <;> ((try simp only [World.size_alloc, World.size_setCell, World.size_drew] at *); omega)))
            have hbox6 : ∀ j, w6.cell? ⟨w.heap.size, j, none⟩ = (w.alloc (.cells #[x0, x1, x2, .slice oa pl.length cap, x4, x5, x6, x7, x8, x9, x10] 31)).cell? ⟨w.heap.size, j, none⟩ := fun j => (World.cell?_of_block ((show Below (w.heap.size + 1) w3 w6 from (by ((repeat' (first | exact Below.refl _ _ | (refine Below.alloc ?_ ?_ _) | (refine Below.setCell ?_ ?_ _) | (refine Below.drew ?_) | (refine Below.trans ?_ (Below.mono (by assumption) ?_)))) <;> ((try simp only [World.size_alloc, World.size_setCell, World.size_drew] at *); omega)))).block _ (by simp))).trans (hbox3 j)
            go_wp2_with fail
            go_still_tail 6, (by kernel_rfl)
            go_wp2_with fail
            refine (Reach_calls _ pl r.place w6.drew (Hhbas.out.below (Below.drew (by ((repeat' (first | exact Below.refl _ _ | (refine Below.alloc ?_ ?_ _) | (refine Below.setCell ?_ ?_ _) | (refine Below.drew ?_) | (refine Below.trans ?_ (Below.mono (by assumption) ?_)))) <;> ((try simp only [World.size_alloc, World.size_setCell, World.size_drew] at *); omega)))) (Nat.le_refl _)) Hhr64.out.2.2.2.1 (by omega)).mono ?_
            rintro e w7 ⟨rv, rfl, hown7, hB7⟩
            replace hB7 : Below w6.heap.size w6 w7 := (Below.refl _ _).drew.trans hB7
            have hsz7 := hB7.size
            have hway := reach_ways pl r.place
            have hL7 : IntsAt w7 (.slice (some ⟨g, 0, none⟩) pl.length pl.length) (day pl rs supply).2 := HhL.out.below (w' := w7) (B := w3.heap.size) (by ((repeat' (first | exact Below.refl _ _ | (refine Below.alloc ?_ ?_ _) | (refine Below.setCell ?_ ?_ _) | (refine Below.drew ?_) | (refine Below.trans ?_ (Below.mono (by assumption) ?_)))) <;> ((try simp only [World.size_alloc, World.size_setCell, World.size_drew] at *); omega))) (Nat.le_refl _)
            have hdl2 : (day pl rs supply).2.length = pl.length := by rw [day_left]; exact (leftAt_vols pl rs supply rs.length).1
            obtain ⟨oa7, cap7, rfl⟩ := own_open hown7
            clear d3
            generalize reach pl r.place = rl at *
            have Hhway := Lib.hid hway
            clear hway
            have HhL7 := Lib.hid hL7
            clear hL7
            have Hhown7 := Lib.hid hown7
            clear hown7
            have Hhdl2 := Lib.hid hdl2
            clear hdl2
            go_wp2_with fail
            go_loop [13, 15] (fun s13 s15 => ∃ k : Nat, k ≤ rl.length ∧ s15 = .int .i64 k ∧ s13 = .bool true) (fun _ s15 => rl.length - (intOf s15).toNat)
            case atStart => exact ⟨0, by omega, rfl, rfl⟩
            case round =>
              obtain ⟨k, hk, rfl, rfl⟩ := hrel
              have hrl := Hhway.out.le
              by_cases hkl : k < rl.length
              · obtain ⟨gk, rfl, -, -, hck, -⟩ := own_cell Hhown7.out hkl
                have hq := Hhway.out.2 (nth rl k) (by rw [nth_eq _ k hkl]; exact List.getElem_mem hkl)
                obtain ⟨q, hq'⟩ := Int.eq_ofNat_of_zero_le hq.1
                have hql : q < pl.length := by omega
                obtain ⟨-, bl, ol, hbo, -, hcl⟩ := HhL7.out.at' (k := q) (by rw [Hhdl2.out]; exact hql)
                simp only [Option.some.injEq, Addr.mk.injEq, and_true] at hbo
                obtain ⟨rfl, rfl⟩ := hbo
                rw [Nat.zero_add] at hcl
                rw [hq'] at hck
                have Hhq := Lib.hid hq
                clear hq
                have Hhq' := Lib.hid hq'
                clear hq'
                go_wp2_with fail
                exact ⟨⟨k + 1, by omega, by go_num, rfl⟩, by simp [intOf]; omega⟩
              · obtain rfl : k = rl.length := by omega
                go_wp2_with fail
                exact ⟨⟨i + 1, by omega, by go_num, (by ((repeat' (first | exact Below.refl _ _ | (refine Below.alloc ?_ ?_ _) | (refine Below.setCell ?_ ?_ _) | (refine Below.drew ?_) | (refine Below.trans ?_ (Below.mono (by assumption) ?_)))) <;> ((try simp only [World.size_alloc, World.size_setCell, World.size_drew] at *); omega)))⟩, by simp [intOf]; omega⟩
          · have hdg : decide (r.rate ≤ n) = false := by simp; omega
            go_wp2_with fail
            go_quiet (fail)
            clear d0 d3 d4 c1 c2
            have hB5 : Below w4.heap.size w4 (w4.drewN nq) := below_drewN (Below.refl _ _) _
            generalize w4.drewN nq = w5 at *
            have hsz5 := hB5.size
            obtain ⟨d0, d3, d4, c1, c2⟩ := Hhrc'.out w5 (by ((repeat' (first | exact Below.refl _ _ | (refine Below.alloc ?_ ?_ _) | (refine Below.setCell ?_ ?_ _) | (refine Below.drew ?_) | (refine Below.trans ?_ (Below.mono (by assumption) ?_)))) <;> ((try simp only [World.size_alloc, World.size_setCell, World.size_drew] at *); omega)))
            go_wp2_with fail
            go_quiet (fail)
            clear d0 d3 d4 c1 c2
            have hB6 : Below w5.heap.size w5 (w5.drewN nq) := below_drewN (Below.refl _ _) _
            generalize w5.drewN nq = w6 at *
            have hsz6 := hB6.size
            obtain ⟨-, d3, -, -, -⟩ := Hhrc'.out w6 (by ((repeat' (first | exact Below.refl _ _ | (refine Below.alloc ?_ ?_ _) | (refine Below.setCell ?_ ?_ _) | (refine Below.drew ?_) | (refine Below.trans ?_ (Below.mono (by assumption) ?_)))) <;> ((try simp only [World.size_alloc, World.size_setCell, World.size_drew] at *); omega)))
            have hbox6 : ∀ j, w6.cell? ⟨w.heap.size, j, none⟩ = (w.alloc (.cells #[x0, x1, x2, .slice oa pl.length cap, x4, x5, x6, x7, x8, x9, x10] 31)).cell? ⟨w.heap.size, j, none⟩ := fun j => (World.cell?_of_block ((show Below (w.heap.size + 1) w3 w6 from (by ((repeat' (first | exact Below.refl _ _ | (refine Below.alloc ?_ ?_ _) | (refine Below.setCell ?_ ?_ _) | (refine Below.drew ?_) | (refine Below.trans ?_ (Below.mono (by assumption) ?_)))) <;> ((try simp only [World.size_alloc, World.size_setCell, World.size_drew] at *); omega)))).block _ (by simp))).trans (hbox3 j)
            go_wp2_with fail
            go_still_tail 6, (by kernel_rfl)
            go_wp2_with fail
            refine (Reach_calls _ pl r.place w6.drew (Hhbas.out.below (Below.drew (by ((repeat' (first | exact Below.refl _ _ | (refine Below.alloc ?_ ?_ _) | (refine Below.setCell ?_ ?_ _) | (refine Below.drew ?_) | (refine Below.trans ?_ (Below.mono (by assumption) ?_)))) <;> ((try simp only [World.size_alloc, World.size_setCell, World.size_drew] at *); omega)))) (Nat.le_refl _)) Hhr64.out.2.2.2.1 (by omega)).mono ?_
            rintro e w7 ⟨rv, rfl, hown7, hB7⟩
            replace hB7 : Below w6.heap.size w6 w7 := (Below.refl _ _).drew.trans hB7
            have hsz7 := hB7.size
            have hway := reach_ways pl r.place
            have hL7 : IntsAt w7 (.slice (some ⟨g, 0, none⟩) pl.length pl.length) (day pl rs supply).2 := HhL.out.below (w' := w7) (B := w3.heap.size) (by ((repeat' (first | exact Below.refl _ _ | (refine Below.alloc ?_ ?_ _) | (refine Below.setCell ?_ ?_ _) | (refine Below.drew ?_) | (refine Below.trans ?_ (Below.mono (by assumption) ?_)))) <;> ((try simp only [World.size_alloc, World.size_setCell, World.size_drew] at *); omega))) (Nat.le_refl _)
            have hdl2 : (day pl rs supply).2.length = pl.length := by rw [day_left]; exact (leftAt_vols pl rs supply rs.length).1
            obtain ⟨oa7, cap7, rfl⟩ := own_open hown7
            clear d3
            generalize reach pl r.place = rl at *
            have Hhway := Lib.hid hway
            clear hway
            have HhL7 := Lib.hid hL7
            clear hL7
            have Hhown7 := Lib.hid hown7
            clear hown7
            have Hhdl2 := Lib.hid hdl2
            clear hdl2
            go_wp2_with fail
            go_loop [13, 15] (fun s13 s15 => ∃ k : Nat, k ≤ rl.length ∧ s15 = .int .i64 k ∧ s13 = .bool ((rl.take k).any (fun q => nth (day pl rs supply).2 q.toNat == 0))) (fun _ s15 => rl.length - (intOf s15).toNat)
            case atStart => exact ⟨0, by omega, rfl, rfl⟩
            case round =>
              obtain ⟨k, hk, rfl, rfl⟩ := hrel
              have hrl := Hhway.out.le
              by_cases hkl : k < rl.length
              · obtain ⟨gk, rfl, -, -, hck, -⟩ := own_cell Hhown7.out hkl
                have hq := Hhway.out.2 (nth rl k) (by rw [nth_eq _ k hkl]; exact List.getElem_mem hkl)
                obtain ⟨q, hq'⟩ := Int.eq_ofNat_of_zero_le hq.1
                have hql : q < pl.length := by omega
                obtain ⟨-, bl, ol, hbo, -, hcl⟩ := HhL7.out.at' (k := q) (by rw [Hhdl2.out]; exact hql)
                simp only [Option.some.injEq, Addr.mk.injEq, and_true] at hbo
                obtain ⟨rfl, rfl⟩ := hbo
                rw [Nat.zero_add] at hcl
                rw [hq'] at hck
                have Hhq := Lib.hid hq
                clear hq
                have Hhq' := Lib.hid hq'
                clear hq'
                have hsn : ((rl.take (k + 1)).any (fun q => nth (day pl rs supply).2 q.toNat == 0)) = (((rl.take k).any (fun q => nth (day pl rs supply).2 q.toNat == 0)) || (nth (day pl rs supply).2 q == 0)) := by
                  rw [take_snoc' _ k hkl, List.any_append, ← nth_eq _ k hkl, Hhq'.out]
                  simp
                generalize hx : (rl.take k).any (fun q => nth (day pl rs supply).2 q.toNat == 0) = x at *
                have Hhsn := Lib.hid hsn
                clear hsn
                have Hhx := Lib.hid hx
                clear hx
                cases x
                all_goals
                  go_wp2_with fail
                  exact ⟨⟨k + 1, by omega, by go_num, by rw [Hhsn.out]; simp⟩, by simp [intOf]; omega⟩
              · obtain rfl : k = rl.length := by omega
                rw [List.take_length]
                have hany := Hhfin.out (by omega) (by first | rfl | trivial)
                go_wp2_with fail
                exact ⟨⟨i + 1, by omega, by go_num, (by ((repeat' (first | exact Below.refl _ _ | (refine Below.alloc ?_ ?_ _) | (refine Below.setCell ?_ ?_ _) | (refine Below.drew ?_) | (refine Below.trans ?_ (Below.mono (by assumption) ?_)))) <;> ((try simp only [World.size_alloc, World.size_setCell, World.size_drew] at *); omega)))⟩, by simp [intOf]; omega⟩
        · have hge : ¬ r.rate ≤ 0 := by omega
          have hdg : decide (r.rate ≤ 0) = false := by simp; omega
          go_wp2_with fail
          go_quiet (fail)
          clear d0 d3 d4 c1 c2
          have hB5 : Below w4.heap.size w4 (w4.drewN nq) := below_drewN (Below.refl _ _) _
          generalize w4.drewN nq = w5 at *
          have hsz5 := hB5.size
          obtain ⟨d0, d3, d4, c1, c2⟩ := Hhrc'.out w5 (by ((repeat' (first | exact Below.refl _ _ | (refine Below.alloc ?_ ?_ _) | (refine Below.setCell ?_ ?_ _) | (refine Below.drew ?_) | (refine Below.trans ?_ (Below.mono (by assumption) ?_)))) <;> ((try simp only [World.size_alloc, World.size_setCell, World.size_drew] at *); omega)))
          go_wp2_with fail
          go_quiet (fail)
          clear d0 d3 d4 c1 c2
          have hB6 : Below w5.heap.size w5 (w5.drewN nq) := below_drewN (Below.refl _ _) _
          generalize w5.drewN nq = w6 at *
          have hsz6 := hB6.size
          obtain ⟨-, d3, -, -, -⟩ := Hhrc'.out w6 (by ((repeat' (first | exact Below.refl _ _ | (refine Below.alloc ?_ ?_ _) | (refine Below.setCell ?_ ?_ _) | (refine Below.drew ?_) | (refine Below.trans ?_ (Below.mono (by assumption) ?_)))) <;> ((try simp only [World.size_alloc, World.size_setCell, World.size_drew] at *); omega)))
          have hbox6 : ∀ j, w6.cell? ⟨w.heap.size, j, none⟩ = (w.alloc (.cells #[x0, x1, x2, .slice oa pl.length cap, x4, x5, x6, x7, x8, x9, x10] 31)).cell? ⟨w.heap.size, j, none⟩ := fun j => (World.cell?_of_block ((show Below (w.heap.size + 1) w3 w6 from (by ((repeat' (first | exact Below.refl _ _ | (refine Below.alloc ?_ ?_ _) | (refine Below.setCell ?_ ?_ _) | (refine Below.drew ?_) | (refine Below.trans ?_ (Below.mono (by assumption) ?_)))) <;> ((try simp only [World.size_alloc, World.size_setCell, World.size_drew] at *); omega)))).block _ (by simp))).trans (hbox3 j)
          go_wp2_with fail
          go_still_tail 6, (by kernel_rfl)
          go_wp2_with fail
          refine (Reach_calls _ pl r.place w6.drew (Hhbas.out.below (Below.drew (by ((repeat' (first | exact Below.refl _ _ | (refine Below.alloc ?_ ?_ _) | (refine Below.setCell ?_ ?_ _) | (refine Below.drew ?_) | (refine Below.trans ?_ (Below.mono (by assumption) ?_)))) <;> ((try simp only [World.size_alloc, World.size_setCell, World.size_drew] at *); omega)))) (Nat.le_refl _)) Hhr64.out.2.2.2.1 (by omega)).mono ?_
          rintro e w7 ⟨rv, rfl, hown7, hB7⟩
          replace hB7 : Below w6.heap.size w6 w7 := (Below.refl _ _).drew.trans hB7
          have hsz7 := hB7.size
          have hway := reach_ways pl r.place
          have hL7 : IntsAt w7 (.slice (some ⟨g, 0, none⟩) pl.length pl.length) (day pl rs supply).2 := HhL.out.below (w' := w7) (B := w3.heap.size) (by ((repeat' (first | exact Below.refl _ _ | (refine Below.alloc ?_ ?_ _) | (refine Below.setCell ?_ ?_ _) | (refine Below.drew ?_) | (refine Below.trans ?_ (Below.mono (by assumption) ?_)))) <;> ((try simp only [World.size_alloc, World.size_setCell, World.size_drew] at *); omega))) (Nat.le_refl _)
          have hdl2 : (day pl rs supply).2.length = pl.length := by rw [day_left]; exact (leftAt_vols pl rs supply rs.length).1
          obtain ⟨oa7, cap7, rfl⟩ := own_open hown7
          clear d3
          generalize reach pl r.place = rl at *
          have Hhway := Lib.hid hway
          clear hway
          have HhL7 := Lib.hid hL7
          clear hL7
          have Hhown7 := Lib.hid hown7
          clear hown7
          have Hhdl2 := Lib.hid hdl2
          clear hdl2
          go_wp2_with fail
          go_loop [13, 15] (fun s13 s15 => ∃ k : Nat, k ≤ rl.length ∧ s15 = .int .i64 k ∧ s13 = .bool true) (fun _ s15 => rl.length - (intOf s15).toNat)
          case atStart => exact ⟨0, by omega, rfl, rfl⟩
          case round =>
            obtain ⟨k, hk, rfl, rfl⟩ := hrel
            have hrl := Hhway.out.le
            by_cases hkl : k < rl.length
            · obtain ⟨gk, rfl, -, -, hck, -⟩ := own_cell Hhown7.out hkl
              have hq := Hhway.out.2 (nth rl k) (by rw [nth_eq _ k hkl]; exact List.getElem_mem hkl)
              obtain ⟨q, hq'⟩ := Int.eq_ofNat_of_zero_le hq.1
              have hql : q < pl.length := by omega
              obtain ⟨-, bl, ol, hbo, -, hcl⟩ := HhL7.out.at' (k := q) (by rw [Hhdl2.out]; exact hql)
              simp only [Option.some.injEq, Addr.mk.injEq, and_true] at hbo
              obtain ⟨rfl, rfl⟩ := hbo
              rw [Nat.zero_add] at hcl
              rw [hq'] at hck
              have Hhq := Lib.hid hq
              clear hq
              have Hhq' := Lib.hid hq'
              clear hq'
              go_wp2_with fail
              exact ⟨⟨k + 1, by omega, by go_num, rfl⟩, by simp [intOf]; omega⟩
            · obtain rfl : k = rl.length := by omega
              go_wp2_with fail
              exact ⟨⟨i + 1, by omega, by go_num, (by ((repeat' (first | exact Below.refl _ _ | (refine Below.alloc ?_ ?_ _) | (refine Below.setCell ?_ ?_ _) | (refine Below.drew ?_) | (refine Below.trans ?_ (Below.mono (by assumption) ?_)))) <;> ((try simp only [World.size_alloc, World.size_setCell, World.size_drew] at *); omega)))⟩, by simp [intOf]; omega⟩
      · obtain rfl : n = 0 := by have := Hhle1.out hrate; omega
        have hge : r.rate ≤ 0 := by omega
        have hdg : decide (r.rate ≤ 0) = true := by simp; omega
        rcases hcases with rfl | ⟨rfl, -⟩
        · go_wp2_with fail
          go_quiet (fail)
          clear d0 d3 d4 c1 c2
          have hB5 : Below w4.heap.size w4 (w4.drewN nq) := below_drewN (Below.refl _ _) _
          generalize w4.drewN nq = w5 at *
          have hsz5 := hB5.size
          obtain ⟨d0, d3, d4, c1, c2⟩ := Hhrc'.out w5 (by ((repeat' (first | exact Below.refl _ _ | (refine Below.alloc ?_ ?_ _) | (refine Below.setCell ?_ ?_ _) | (refine Below.drew ?_) | (refine Below.trans ?_ (Below.mono (by assumption) ?_)))) <;> ((try simp only [World.size_alloc, World.size_setCell, World.size_drew] at *); omega)))
          go_wp2_with fail
          go_quiet (fail)
          clear d0 d3 d4 c1 c2
          have hB6 : Below w5.heap.size w5 (w5.drewN nq) := below_drewN (Below.refl _ _) _
          generalize w5.drewN nq = w6 at *
          have hsz6 := hB6.size
          obtain ⟨-, d3, -, -, -⟩ := Hhrc'.out w6 (by ((repeat' (first | exact Below.refl _ _ | (refine Below.alloc ?_ ?_ _) | (refine Below.setCell ?_ ?_ _) | (refine Below.drew ?_) | (refine Below.trans ?_ (Below.mono (by assumption) ?_)))) <;> ((try simp only [World.size_alloc, World.size_setCell, World.size_drew] at *); omega)))
          have hbox6 : ∀ j, w6.cell? ⟨w.heap.size, j, none⟩ = (w.alloc (.cells #[x0, x1, x2, .slice oa pl.length cap, x4, x5, x6, x7, x8, x9, x10] 31)).cell? ⟨w.heap.size, j, none⟩ := fun j => (World.cell?_of_block ((show Below (w.heap.size + 1) w3 w6 from (by ((repeat' (first | exact Below.refl _ _ | (refine Below.alloc ?_ ?_ _) | (refine Below.setCell ?_ ?_ _) | (refine Below.drew ?_) | (refine Below.trans ?_ (Below.mono (by assumption) ?_)))) <;> ((try simp only [World.size_alloc, World.size_setCell, World.size_drew] at *); omega)))).block _ (by simp))).trans (hbox3 j)
          go_wp2_with fail
          go_still_tail 6, (by kernel_rfl)
          go_wp2_with fail
          refine (Reach_calls _ pl r.place w6.drew (Hhbas.out.below (Below.drew (by ((repeat' (first | exact Below.refl _ _ | (refine Below.alloc ?_ ?_ _) | (refine Below.setCell ?_ ?_ _) | (refine Below.drew ?_) | (refine Below.trans ?_ (Below.mono (by assumption) ?_)))) <;> ((try simp only [World.size_alloc, World.size_setCell, World.size_drew] at *); omega)))) (Nat.le_refl _)) Hhr64.out.2.2.2.1 (by omega)).mono ?_
          rintro e w7 ⟨rv, rfl, hown7, hB7⟩
          replace hB7 : Below w6.heap.size w6 w7 := (Below.refl _ _).drew.trans hB7
          have hsz7 := hB7.size
          have hway := reach_ways pl r.place
          have hL7 : IntsAt w7 (.slice (some ⟨g, 0, none⟩) pl.length pl.length) (day pl rs supply).2 := HhL.out.below (w' := w7) (B := w3.heap.size) (by ((repeat' (first | exact Below.refl _ _ | (refine Below.alloc ?_ ?_ _) | (refine Below.setCell ?_ ?_ _) | (refine Below.drew ?_) | (refine Below.trans ?_ (Below.mono (by assumption) ?_)))) <;> ((try simp only [World.size_alloc, World.size_setCell, World.size_drew] at *); omega))) (Nat.le_refl _)
          have hdl2 : (day pl rs supply).2.length = pl.length := by rw [day_left]; exact (leftAt_vols pl rs supply rs.length).1
          obtain ⟨oa7, cap7, rfl⟩ := own_open hown7
          clear d3
          generalize reach pl r.place = rl at *
          have Hhway := Lib.hid hway
          clear hway
          have HhL7 := Lib.hid hL7
          clear hL7
          have Hhown7 := Lib.hid hown7
          clear hown7
          have Hhdl2 := Lib.hid hdl2
          clear hdl2
          go_wp2_with fail
          go_loop [13, 15] (fun s13 s15 => ∃ k : Nat, k ≤ rl.length ∧ s15 = .int .i64 k ∧ s13 = .bool true) (fun _ s15 => rl.length - (intOf s15).toNat)
          case atStart => exact ⟨0, by omega, rfl, rfl⟩
          case round =>
            obtain ⟨k, hk, rfl, rfl⟩ := hrel
            have hrl := Hhway.out.le
            by_cases hkl : k < rl.length
            · obtain ⟨gk, rfl, -, -, hck, -⟩ := own_cell Hhown7.out hkl
              have hq := Hhway.out.2 (nth rl k) (by rw [nth_eq _ k hkl]; exact List.getElem_mem hkl)
              obtain ⟨q, hq'⟩ := Int.eq_ofNat_of_zero_le hq.1
              have hql : q < pl.length := by omega
              obtain ⟨-, bl, ol, hbo, -, hcl⟩ := HhL7.out.at' (k := q) (by rw [Hhdl2.out]; exact hql)
              simp only [Option.some.injEq, Addr.mk.injEq, and_true] at hbo
              obtain ⟨rfl, rfl⟩ := hbo
              rw [Nat.zero_add] at hcl
              rw [hq'] at hck
              have Hhq := Lib.hid hq
              clear hq
              have Hhq' := Lib.hid hq'
              clear hq'
              go_wp2_with fail
              exact ⟨⟨k + 1, by omega, by go_num, rfl⟩, by simp [intOf]; omega⟩
            · obtain rfl : k = rl.length := by omega
              go_wp2_with fail
              exact ⟨⟨i + 1, by omega, by go_num, (by ((repeat' (first | exact Below.refl _ _ | (refine Below.alloc ?_ ?_ _) | (refine Below.setCell ?_ ?_ _) | (refine Below.drew ?_) | (refine Below.trans ?_ (Below.mono (by assumption) ?_)))) <;> ((try simp only [World.size_alloc, World.size_setCell, World.size_drew] at *); omega)))⟩, by simp [intOf]; omega⟩
        · go_wp2_with fail
          go_quiet (fail)
          clear d0 d3 d4 c1 c2
          have hB5 : Below w4.heap.size w4 (w4.drewN nq) := below_drewN (Below.refl _ _) _
          generalize w4.drewN nq = w5 at *
          have hsz5 := hB5.size
          obtain ⟨d0, d3, d4, c1, c2⟩ := Hhrc'.out w5 (by ((repeat' (first | exact Below.refl _ _ | (refine Below.alloc ?_ ?_ _) | (refine Below.setCell ?_ ?_ _) | (refine Below.drew ?_) | (refine Below.trans ?_ (Below.mono (by assumption) ?_)))) <;> ((try simp only [World.size_alloc, World.size_setCell, World.size_drew] at *); omega)))
          go_wp2_with fail
          go_quiet (fail)
          clear d0 d3 d4 c1 c2
          have hB6 : Below w5.heap.size w5 (w5.drewN nq) := below_drewN (Below.refl _ _) _
          generalize w5.drewN nq = w6 at *
          have hsz6 := hB6.size
          obtain ⟨-, d3, -, -, -⟩ := Hhrc'.out w6 (by ((repeat' (first | exact Below.refl _ _ | (refine Below.alloc ?_ ?_ _) | (refine Below.setCell ?_ ?_ _) | (refine Below.drew ?_) | (refine Below.trans ?_ (Below.mono (by assumption) ?_)))) <;> ((try simp only [World.size_alloc, World.size_setCell, World.size_drew] at *); omega)))
          have hbox6 : ∀ j, w6.cell? ⟨w.heap.size, j, none⟩ = (w.alloc (.cells #[x0, x1, x2, .slice oa pl.length cap, x4, x5, x6, x7, x8, x9, x10] 31)).cell? ⟨w.heap.size, j, none⟩ := fun j => (World.cell?_of_block ((show Below (w.heap.size + 1) w3 w6 from (by ((repeat' (first | exact Below.refl _ _ | (refine Below.alloc ?_ ?_ _) | (refine Below.setCell ?_ ?_ _) | (refine Below.drew ?_) | (refine Below.trans ?_ (Below.mono (by assumption) ?_)))) <;> ((try simp only [World.size_alloc, World.size_setCell, World.size_drew] at *); omega)))).block _ (by simp))).trans (hbox3 j)
          go_wp2_with fail
          go_still_tail 6, (by kernel_rfl)
          go_wp2_with fail
          refine (Reach_calls _ pl r.place w6.drew (Hhbas.out.below (Below.drew (by ((repeat' (first | exact Below.refl _ _ | (refine Below.alloc ?_ ?_ _) | (refine Below.setCell ?_ ?_ _) | (refine Below.drew ?_) | (refine Below.trans ?_ (Below.mono (by assumption) ?_)))) <;> ((try simp only [World.size_alloc, World.size_setCell, World.size_drew] at *); omega)))) (Nat.le_refl _)) Hhr64.out.2.2.2.1 (by omega)).mono ?_
          rintro e w7 ⟨rv, rfl, hown7, hB7⟩
          replace hB7 : Below w6.heap.size w6 w7 := (Below.refl _ _).drew.trans hB7
          have hsz7 := hB7.size
          have hway := reach_ways pl r.place
          have hL7 : IntsAt w7 (.slice (some ⟨g, 0, none⟩) pl.length pl.length) (day pl rs supply).2 := HhL.out.below (w' := w7) (B := w3.heap.size) (by ((repeat' (first | exact Below.refl _ _ | (refine Below.alloc ?_ ?_ _) | (refine Below.setCell ?_ ?_ _) | (refine Below.drew ?_) | (refine Below.trans ?_ (Below.mono (by assumption) ?_)))) <;> ((try simp only [World.size_alloc, World.size_setCell, World.size_drew] at *); omega))) (Nat.le_refl _)
          have hdl2 : (day pl rs supply).2.length = pl.length := by rw [day_left]; exact (leftAt_vols pl rs supply rs.length).1
          obtain ⟨oa7, cap7, rfl⟩ := own_open hown7
          clear d3
          generalize reach pl r.place = rl at *
          have Hhway := Lib.hid hway
          clear hway
          have HhL7 := Lib.hid hL7
          clear hL7
          have Hhown7 := Lib.hid hown7
          clear hown7
          have Hhdl2 := Lib.hid hdl2
          clear hdl2
          go_wp2_with fail
          go_loop [13, 15] (fun s13 s15 => ∃ k : Nat, k ≤ rl.length ∧ s15 = .int .i64 k ∧ s13 = .bool true) (fun _ s15 => rl.length - (intOf s15).toNat)
          case atStart => exact ⟨0, by omega, rfl, rfl⟩
          case round =>
            obtain ⟨k, hk, rfl, rfl⟩ := hrel
            have hrl := Hhway.out.le
            by_cases hkl : k < rl.length
            · obtain ⟨gk, rfl, -, -, hck, -⟩ := own_cell Hhown7.out hkl
              have hq := Hhway.out.2 (nth rl k) (by rw [nth_eq _ k hkl]; exact List.getElem_mem hkl)
              obtain ⟨q, hq'⟩ := Int.eq_ofNat_of_zero_le hq.1
              have hql : q < pl.length := by omega
              obtain ⟨-, bl, ol, hbo, -, hcl⟩ := HhL7.out.at' (k := q) (by rw [Hhdl2.out]; exact hql)
              simp only [Option.some.injEq, Addr.mk.injEq, and_true] at hbo
              obtain ⟨rfl, rfl⟩ := hbo
              rw [Nat.zero_add] at hcl
              rw [hq'] at hck
              have Hhq := Lib.hid hq
              clear hq
              have Hhq' := Lib.hid hq'
              clear hq'
              go_wp2_with fail
              exact ⟨⟨k + 1, by omega, by go_num, rfl⟩, by simp [intOf]; omega⟩
            · obtain rfl : k = rl.length := by omega
              go_wp2_with fail
              exact ⟨⟨i + 1, by omega, by go_num, (by ((repeat' (first | exact Below.refl _ _ | (refine Below.alloc ?_ ?_ _) | (refine Below.setCell ?_ ?_ _) | (refine Below.drew ?_) | (refine Below.trans ?_ (Below.mono (by assumption) ?_)))) <;> ((try simp only [World.size_alloc, World.size_setCell, World.size_drew] at *); omega)))⟩, by simp [intOf]; omega⟩
    · obtain rfl : i = rs.length := by omega
      go_wp2_with fail
      obtain ⟨wo, rfl⟩ : ∃ wo : World, wo = wr := ⟨_, rfl⟩
      go_loopw [16] (fun s16 wr => ∃ q : Nat, q ≤ pl.length ∧ s16 = .int .i64 q ∧ Below w3.heap.size w3 wr) (fun s16 _ => pl.length - (intOf s16).toNat)
      case atStart => exact ⟨0, by omega, rfl, hB⟩
      case round =>
        clear hbox hB
        obtain ⟨q, hq, rfl, hB⟩ := hrel
        have hsz := hB.size
        have hbox : ∀ j, wr.cell? ⟨w.heap.size, j, none⟩ = (w.alloc (.cells #[x0, x1, x2, .slice oa pl.length cap, x4, x5, x6, x7, x8, x9, x10] 31)).cell? ⟨w.heap.size, j, none⟩ := fun j => (World.cell?_of_block ((show Below (w.heap.size + 1) w3 wr from (by ((repeat' (first | exact Below.refl _ _ | (refine Below.alloc ?_ ?_ _) | (refine Below.setCell ?_ ?_ _) | (refine Below.drew ?_) | (refine Below.trans ?_ (Below.mono (by assumption) ?_)))) <;> ((try simp only [World.size_alloc, World.size_setCell, World.size_drew] at *); omega)))).block _ (by simp))).trans (hbox3 j)
        by_cases hqlt : q < pl.length
        · have h0 : there pl supply q = nth (leftAt pl rs supply 0) q := by rw [leftAt_zero, fill_there]
          have hend : nth (leftAt pl rs supply rs.length) q = nth (day pl rs supply).2 q := by rw [day_left]
          have hlp := (leftAt_vols pl rs supply rs.length).2 q
          rw [hend] at hlp
          have Hh0 := Lib.hid h0
          clear h0
          have Hhend := Lib.hid hend
          clear hend
          go_wp2_with fail
          refine (There_calls _ _ pl supply q wr (Hhbas.out.below (by ((repeat' (first | exact Below.refl _ _ | (refine Below.alloc ?_ ?_ _) | (refine Below.setCell ?_ ?_ _) | (refine Below.drew ?_) | (refine Below.trans ?_ (Below.mono (by assumption) ?_)))) <;> ((try simp only [World.size_alloc, World.size_setCell, World.size_drew] at *); omega))) (Nat.le_refl _)) (Hhs.out.below (w' := wr) (by ((repeat' (first | exact Below.refl _ _ | (refine Below.alloc ?_ ?_ _) | (refine Below.setCell ?_ ?_ _) | (refine Below.drew ?_) | (refine Below.trans ?_ (Below.mono (by assumption) ?_)))) <;> ((try simp only [World.size_alloc, World.size_setCell, World.size_drew] at *); omega))) (Nat.le_refl _)) (by omega)).mono ?_
          rintro e w4 ⟨rfl, hB4⟩
          have hsz4 := hB4.size
          rw [Hh0.out]
          go_wp2_with fail
          obtain ⟨wq, rfl⟩ : ∃ wq : World, wq = wr := ⟨_, rfl⟩
          go_loopw [17, 18] (fun s17 s18 wr => ∃ i : Nat, i ≤ rs.length ∧ s18 = .int .i64 i ∧ s17 = .int .i64 (nth (leftAt pl rs supply i) q) ∧ Below w4.heap.size w4 wr) (fun _ s18 _ => rs.length - (intOf s18).toNat)
          case atStart => exact ⟨0, by omega, rfl, rfl, Below.refl _ _⟩
          case round =>
            clear hbox
            obtain ⟨i, hi2, rfl, rfl, hBx⟩ := hrel
            have hszx := hBx.size
            have hbox : ∀ j, wr.cell? ⟨w.heap.size, j, none⟩ = (w.alloc (.cells #[x0, x1, x2, .slice oa pl.length cap, x4, x5, x6, x7, x8, x9, x10] 31)).cell? ⟨w.heap.size, j, none⟩ := fun j => (World.cell?_of_block ((show Below (w.heap.size + 1) w3 wr from (by ((repeat' (first | exact Below.refl _ _ | (refine Below.alloc ?_ ?_ _) | (refine Below.setCell ?_ ?_ _) | (refine Below.drew ?_) | (refine Below.trans ?_ (Below.mono (by assumption) ?_)))) <;> ((try simp only [World.size_alloc, World.size_setCell, World.size_drew] at *); omega)))).block _ (by simp))).trans (hbox3 j)
            have hlq := (leftAt_vols pl rs supply i).2 q
            by_cases hilt : i < rs.length
            · have hln := leftAt_nth (pl := pl) (supply := supply) hilt q
              have hlq1 := (leftAt_vols pl rs supply (i + 1)).2 q
              have hd := day_at (pl := pl) (supply := supply) hilt
              have hGB := HhG.out.below (w' := wr) (B := w3.heap.size) (by ((repeat' (first | exact Below.refl _ _ | (refine Below.alloc ?_ ?_ _) | (refine Below.setCell ?_ ?_ _) | (refine Below.drew ?_) | (refine Below.trans ?_ (Below.mono (by assumption) ?_)))) <;> ((try simp only [World.size_alloc, World.size_setCell, World.size_drew] at *); omega))) (Nat.le_refl _)
              obtain ⟨bg, og, rfl, hbg, c1, c2⟩ := hGB.at' (show i < _ by rw [Hhdl.out]; exact hilt)
              rw [List.getElem?_eq_getElem (by rw [Hhdl.out]; exact hilt), Option.some.injEq] at hd
              rw [hd] at c2
              simp only at c2
              have hrB := Hhr0.out.below (w' := wr) (by ((repeat' (first | exact Below.refl _ _ | (refine Below.alloc ?_ ?_ _) | (refine Below.setCell ?_ ?_ _) | (refine Below.drew ?_) | (refine Below.trans ?_ (Below.mono (by assumption) ?_)))) <;> ((try simp only [World.size_alloc, World.size_setCell, World.size_drew] at *); omega))) (Nat.le_refl _)
              have hr64 := hrB.in64 hilt
              obtain ⟨b, off, rfl, hb, hrc⟩ := hrB.at' hilt
              have hge := grant_ge pl (leftAt pl rs supply i) rs[i]
              have hgu := grant_64 (leftAt_vols pl rs supply i) rs[i]
              generalize grant pl (leftAt pl rs supply i) rs[i] = n at *
              generalize rs[i] = r at *
              obtain ⟨-, -, -, d3, -, -, -, -, -⟩ := right_cells hrc
              have hw := reach_ways pl r.place
              have hc13 : ∀ wx, Below w.heap.size w wx → Calls Try.prog 13 #[(.agg #[x0, x1, x2, .slice oa pl.length cap, x4, x5, x6, x7, x8, x9, x10]), .int .i64 r.place] wx fun e w' => ∃ rv, e = .returned rv ∧ IntsAt w' rv (reach pl r.place) ∧ Below wx.heap.size wx w' := fun wx hx =>
                (Reach_calls _ pl r.place wx (Hhbas.out.below (w' := wx) hx (Nat.le_refl _)) hr64.2.2.2.1 (by omega)).mono fun e w' ⟨rv, he, hown, hb⟩ => ⟨rv, he, IntsAt.of_owned hown (fun x hx => by have := hw.2 x hx; unfold In64; omega) (by have := hw.le; omega), hb⟩
              rw [show (reach pl r.place).any (fun x => x == (q : Int)) = has (reach pl r.place) q from rfl] at hln
              generalize hm1 : nth (leftAt pl rs supply (i + 1)) q = m1 at *
              generalize hm0 : nth (leftAt pl rs supply i) q = m0 at *
              have hrcw : ∀ (wx : World), Below wr.heap.size wr wx → wx.cell? ⟨b, off + i * 9 + 3, none⟩ = some (.int .i64 r.place) := fun wx hx => by rw [← d3]; exact hx.cell (p := ⟨b, _, none⟩) hb
              have hrcg : ∀ (wx : World), Below wr.heap.size wr wx → wx.cell? ⟨bg, og + i * 2 + 1, none⟩ = some (.int .i64 n) := fun wx hx => by rw [← c2]; exact hx.cell (p := ⟨bg, _, none⟩) hbg
              clear hGB hrB hrc c1 c2
              have Hhd := Lib.hid hd
              clear hd
              have Hhr64 := Lib.hid hr64
              clear hr64
              have Hhw := Lib.hid hw
              clear hw
              have Hhc13 := Lib.hid hc13
              clear hc13
              have Hhm0 := Lib.hid hm0
              clear hm0
              have Hhm1 := Lib.hid hm1
              clear hm1
              have Hhrcw := Lib.hid hrcw
              clear hrcw
              have Hhrcg := Lib.hid hrcg
              clear hrcg
              have hln2 : has (reach pl r.place) q = true → m1 = m0 - n := fun h => by rw [hln, if_pos h]
              have hln3 : has (reach pl r.place) q = false → m1 = m0 := fun h => by rw [hln, if_neg (by rw [h]; simp)]; omega
              clear hln
              have Hhln2 := Lib.hid hln2
              clear hln2
              have Hhln3 := Lib.hid hln3
              clear hln3
              go_wp2_with fail
              go_region_held3 (fun w' => (∀ j, w'.cell? ⟨w.heap.size, j, none⟩ = (w.alloc (.cells #[x0, x1, x2, .slice oa pl.length cap, x4, x5, x6, x7, x8, x9, x10] 31)).cell? ⟨w.heap.size, j, none⟩) ∧ w'.cell? ⟨b, off + i * 9 + 3, none⟩ = some (.int .i64 r.place)) (first | exact ⟨fun j => (World.cell?_of_block ((show Below (w.heap.size + 1) wr _ from (by ((repeat' (first | exact Below.refl _ _ | (refine Below.alloc ?_ ?_ _) | (refine Below.setCell ?_ ?_ _) | (refine Below.drew ?_) | (refine Below.trans ?_ (Below.mono (by assumption) ?_)))) <;> ((try simp only [World.size_alloc, World.size_setCell, World.size_drew] at *); omega)))).block _ (by simp))).trans (hbox j), Hhrcw.out _ (by ((repeat' (first | exact Below.refl _ _ | (refine Below.alloc ?_ ?_ _) | (refine Below.setCell ?_ ?_ _) | (refine Below.drew ?_) | (refine Below.trans ?_ (Below.mono (by assumption) ?_)))) <;> ((try simp only [World.size_alloc, World.size_setCell, World.size_drew] at *); omega)))⟩) (first | (go_at_call 13; refine (Hhc13.out _ (by have t := True.intro; exact (by ((repeat' (first | exact Below.refl _ _ | (refine Below.alloc ?_ ?_ _) | (refine Below.setCell ?_ ?_ _) | (refine Below.drew ?_) | (refine Below.trans ?_ (Below.mono (by assumption) ?_)))) <;> ((try simp only [World.size_alloc, World.size_setCell, World.size_drew] at *); omega))))).mono ?_; rintro e w5 ⟨rv, rfl, hi5, hB5⟩; have hs5 := hB5.size; try simp only [World.size_drew] at hs5) | (go_at_call 20; refine (Has_calls rv (reach pl r.place) q _ hi5).mono ?_; rintro e w6 ⟨rfl, rfl⟩))
              have c2 := Hhrcg.out w5 (by ((repeat' (first | exact Below.refl _ _ | (refine Below.alloc ?_ ?_ _) | (refine Below.setCell ?_ ?_ _) | (refine Below.drew ?_) | (refine Below.trans ?_ (Below.mono (by assumption) ?_)))) <;> ((try simp only [World.size_alloc, World.size_setCell, World.size_drew] at *); omega)))
              by_cases hh : has (reach pl r.place) q = true
              · have hmn := Hhln2.out hh
                rw [hh]
                have Hhmn := Lib.hid hmn
                clear hmn
                go_wp2_with fail
                exact ⟨⟨i + 1, by omega, by go_num, by rw [Hhm1.out, Hhmn.out], (by ((repeat' (first | exact Below.refl _ _ | (refine Below.alloc ?_ ?_ _) | (refine Below.setCell ?_ ?_ _) | (refine Below.drew ?_) | (refine Below.trans ?_ (Below.mono (by assumption) ?_)))) <;> ((try simp only [World.size_alloc, World.size_setCell, World.size_drew] at *); omega)))⟩, by simp [intOf]; omega⟩
              · have hh' : has (reach pl r.place) q = false := by simpa using hh
                have hmn := Hhln3.out hh'
                rw [hh']
                clear hh
                have Hhmn := Lib.hid hmn
                clear hmn
                go_wp2_with fail
                exact ⟨⟨i + 1, by omega, by go_num, by rw [Hhm1.out, Hhmn.out], (by ((repeat' (first | exact Below.refl _ _ | (refine Below.alloc ?_ ?_ _) | (refine Below.setCell ?_ ?_ _) | (refine Below.drew ?_) | (refine Below.trans ?_ (Below.mono (by assumption) ?_)))) <;> ((try simp only [World.size_alloc, World.size_setCell, World.size_drew] at *); omega)))⟩, by simp [intOf]; omega⟩
            · obtain rfl : i = rs.length := by omega
              have hLx := HhL.out.below (w' := wr) (B := w3.heap.size) (by ((repeat' (first | exact Below.refl _ _ | (refine Below.alloc ?_ ?_ _) | (refine Below.setCell ?_ ?_ _) | (refine Below.drew ?_) | (refine Below.trans ?_ (Below.mono (by assumption) ?_)))) <;> ((try simp only [World.size_alloc, World.size_setCell, World.size_drew] at *); omega))) (Nat.le_refl _)
              have hdl2 : (day pl rs supply).2.length = pl.length := by rw [day_left]; exact (leftAt_vols pl rs supply rs.length).1
              obtain ⟨-, bl, ol, hbo, -, hcl⟩ := hLx.at' (k := q) (by rw [hdl2]; exact hqlt)
              simp only [Option.some.injEq, Addr.mk.injEq, and_true] at hbo
              obtain ⟨rfl, rfl⟩ := hbo
              rw [Nat.zero_add] at hcl
              rw [Hhend.out]
              clear hLx
              have Hhdl2 := Lib.hid hdl2
              clear hdl2
              go_wp2_with fail
              exact ⟨⟨q + 1, by omega, by go_num, (by ((repeat' (first | exact Below.refl _ _ | (refine Below.alloc ?_ ?_ _) | (refine Below.setCell ?_ ?_ _) | (refine Below.drew ?_) | (refine Below.trans ?_ (Below.mono (by assumption) ?_)))) <;> ((try simp only [World.size_alloc, World.size_setCell, World.size_drew] at *); omega)))⟩, by simp [intOf]; omega⟩
        · go_wp2_with fail
          go_ret
          exact ⟨rfl, (by ((repeat' (first | exact Below.refl _ _ | (refine Below.alloc ?_ ?_ _) | (refine Below.setCell ?_ ?_ _) | (refine Below.drew ?_) | (refine Below.trans ?_ (Below.mono (by assumption) ?_)))) <;> ((try simp only [World.size_alloc, World.size_setCell, World.size_drew] at *); omega)))⟩
end Go.Proofs.Ytjikehjhmjfhfaa
