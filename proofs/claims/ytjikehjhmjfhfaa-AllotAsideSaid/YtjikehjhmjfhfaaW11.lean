/- The walk of the reference's Day. -/
import Derived.Test.YtjikehjhmjfhfaaW10
import Derived.Test.YtjikehjhmjfhfaaW6
namespace Go.Proofs.Ytjikehjhmjfhfaa
open Go.RowKit

theorem least_max0 (left : List Int) (hl : ∀ k, 0 ≤ nth left k) : ∀ (l : List Int) (n : Int), least (max 0 n) left l = max 0 (least n left l)
  | [], n => by simp [least]
  | q :: l, n => by
    have h := least_max0 left hl l (min n (nth left q.toNat))
    simp only [least, List.foldl_cons] at h ⊢
    rw [← h]
    congr 1
    have := hl q.toNat
    omega

theorem ownsRow_lt {w w' : World} {B : Nat} {base : Nat} {e : TypeId} {size : Nat} {v : Value} {n : Nat} {xs : List Value} (h : w.ownsRow base e size v n xs) (hv : ∀ k, v.ownBlock = some k → k < B) (hb : Below B w w') : w'.ownsRow base e size v n xs := by
  obtain ⟨h1, h2⟩ := h
  refine ⟨h1, ?_⟩
  rcases h2 with h2 | ⟨g, cap, cur, hv', hg, hh, r⟩
  · exact .inl h2
  · refine .inr ⟨g, cap, cur, hv', hg, ?_, r⟩
    subst hv'
    rw [hb.block g (hv g rfl)]
    exact hh

set_option maxRecDepth 100000 in
set_option maxHeartbeats 2000000 in
theorem refDay_calls (v vr vs : Value) (pl : List Pl) (roster : List Rt) (supply : List Int) (w : World) (h : BasinAt w v pl) (hr : RightsAt w vr roster) (hs : IntsAt w vs supply)
    (hl : pl.length ≤ 1048576) (hl2 : roster.length ≤ 1048576) :
    Calls Try.prog 11 #[v, vr, vs] w fun e w' => ∃ r1 r2, e = .returned (.tuple #[r1, r2]) ∧
       w'.ownsRow w.heap.size 47 2 r1 (day pl roster supply).1.length (gcells (day pl roster supply).1) ∧
       w'.ownsRow w.heap.size 3 1 r2 (day pl roster supply).2.length ((day pl roster supply).2.map (.int .i64)) ∧ Below w.heap.size w w' := by
  obtain ⟨hm, x0, x1, x2, oa, cap, x4, x5, x6, x7, x8, x9, x10, rfl, hp⟩ := h
  obtain ⟨oas, caps, rfl, hsm, hs64, hsc⟩ := hs
  obtain ⟨oar, capr, rfl, hrm, hr64, hrc⟩ := hr
  have hr' : RightsAt w (.slice oar roster.length capr) roster := ⟨oar, capr, rfl, hrm, hr64, hrc⟩
  have hs' : IntsAt w (.slice oas supply.length caps) supply := ⟨oas, caps, rfl, hsm, hs64, hsc⟩
  clear hr64 hrc hsc hs64
  have Hhp := Lib.hid hp
  clear hp
  have Hhs' := Lib.hid hs'
  clear hs'
  have Hhr' := Lib.hid hr'
  clear hr'
  go_enter Try.func11, Try.ntmps11
  go_wp2_with fail
  go_loopw [8, 9] (fun s8 s9 wr => ∃ k : Nat, k ≤ pl.length ∧ s9 = .int .i64 k ∧ wr.ownsRow (w.heap.size + 1) 3 1 s8 k (((List.range k).map (fun q => there pl supply (q : Nat))).map (.int .i64)) ∧
      Below (w.heap.size + 1) (w.alloc (.cells #[x0, x1, x2, .slice oa pl.length cap, x4, x5, x6, x7, x8, x9, x10] 31)) wr) (fun _ s9 _ => pl.length - (intOf s9).toNat)
  case atStart => exact ⟨0, by omega, rfl, by simpa using World.ownsRow_nil _ _ _ _, Below.refl _ _⟩
  case round =>
    obtain ⟨k, hk, rfl, hown, hB⟩ := hrel
    have hbox : ∀ j, wr.cell? ⟨w.heap.size, j, none⟩ = (w.alloc (.cells #[x0, x1, x2, .slice oa pl.length cap, x4, x5, x6, x7, x8, x9, x10] 31)).cell? ⟨w.heap.size, j, none⟩ := fun j => hB.cell (p := ⟨w.heap.size, j, none⟩) (by simp)
    have hsz := hB.size
    simp only [World.size_alloc] at hsz
    by_cases hlt : k < pl.length
    · have Hhown := Lib.hid hown
      clear hown
      go_wp2_with fail
      refine (There_calls (.agg #[x0, x1, x2, .slice oa pl.length cap, x4, x5, x6, x7, x8, x9, x10]) _ pl supply k wr ⟨hm, x0, x1, x2, oa, cap, x4, x5, x6, x7, x8, x9, x10, rfl, Hhp.out.below (by ((repeat' (first | exact Below.refl _ _ | (refine Below.alloc ?_ ?_ _) | (refine Below.setCell ?_ ?_ _) | (refine Below.drew ?_) | (refine Below.trans ?_ (Below.mono (by assumption) ?_)))) <;> ((try simp only [World.size_alloc, World.size_setCell, World.size_drew] at *); omega))) (Nat.le_refl _)⟩ (Hhs'.out.below (by ((repeat' (first | exact Below.refl _ _ | (refine Below.alloc ?_ ?_ _) | (refine Below.setCell ?_ ?_ _) | (refine Below.drew ?_) | (refine Below.trans ?_ (Below.mono (by assumption) ?_)))) <;> ((try simp only [World.size_alloc, World.size_setCell, World.size_drew] at *); omega))) (Nat.le_refl _)) hl).mono ?_
      rintro e w2 ⟨rfl, hB2⟩
      have hsz2 := hB2.size
      have hbox2 : ∀ j, w2.cell? ⟨w.heap.size, j, none⟩ = wr.cell? ⟨w.heap.size, j, none⟩ := fun j => hB2.cell (p := ⟨w.heap.size, j, none⟩) (by simp; omega)
      have hown2 := ownsRow_below Hhown.out hB2 (Nat.le_refl _)
      have Hhown2 := Lib.hid hown2
      clear hown2
      go_wp2_with (at_builtin; refine append_int rfl _ _ rfl (w.heap.size + 1) u8 k _ rfl (Hhown2.out.alloc _) w2.heap.size (there pl supply k) rfl (by simp) (by omega) (by simp; omega) ?_)
      intro v' w3 hown3 hB3
      go_wp2_with fail
      refine ⟨⟨k + 1, by omega, by go_num, ?_, (by ((repeat' (first | exact Below.refl _ _ | (refine Below.alloc ?_ ?_ _) | (refine Below.setCell ?_ ?_ _) | (refine Below.drew ?_) | (refine Below.trans ?_ (Below.mono (by assumption) ?_)))) <;> ((try simp only [World.size_alloc, World.size_setCell, World.size_drew] at *); omega)))⟩, by simp [intOf]; omega⟩
      simpa [List.range_succ] using hown3
    · obtain rfl : k = pl.length := by omega
      rw [← fill_eq] at hown
      have hlt2 := hown.lt
      obtain ⟨ol, capl, rfl⟩ := own_open hown
      clear hlt hk
      have Hhown := Lib.hid hown
      clear hown
      go_wp2_with fail
      obtain ⟨wo, rfl⟩ : ∃ wo : World, wo = wr := ⟨_, rfl⟩
      go_loopw [10, 11] (fun s10 s11 wr => ∃ k : Nat, k ≤ roster.length ∧ s11 = .int .i64 k ∧
         wr.ownsRow (w.heap.size + 1) 3 1 (.slice ol pl.length capl) pl.length ((dayFrom pl (roster.take k) (fill pl supply pl.length)).2.map (.int .i64)) ∧
         wr.ownsRow wo.heap.size 47 2 s10 (dayFrom pl (roster.take k) (fill pl supply pl.length)).1.length (gcells (dayFrom pl (roster.take k) (fill pl supply pl.length)).1) ∧
         Below (w.heap.size + 1) (w.alloc (.cells #[x0, x1, x2, .slice oa pl.length cap, x4, x5, x6, x7, x8, x9, x10] 31)) wr ∧ wo.heap.size ≤ wr.heap.size) (fun _ s11 _ => roster.length - (intOf s11).toNat)
      case atStart => exact ⟨0, by omega, rfl, by simpa [dayFrom] using Hhown.out, by simpa [dayFrom, gcells] using World.ownsRow_nil _ _ _ _, hB, Nat.le_refl _⟩
      case round =>
        clear hbox hB
        obtain ⟨k, hk, rfl, hownL, hownO, hB, hwo⟩ := hrel
        have hbox : ∀ j, wr.cell? ⟨w.heap.size, j, none⟩ = (w.alloc (.cells #[x0, x1, x2, .slice oa pl.length cap, x4, x5, x6, x7, x8, x9, x10] 31)).cell? ⟨w.heap.size, j, none⟩ := fun j => hB.cell (p := ⟨w.heap.size, j, none⟩) (by simp)
        have hvol : Vols pl.length (dayFrom pl (roster.take k) (fill pl supply pl.length)).2 := Vols.dayFrom (Vols.fill pl supply pl.length) _
        have hlen := dayFrom_length pl (roster.take k) (fill pl supply pl.length)
        rw [List.length_take, Nat.min_eq_left hk] at hlen
        by_cases hlt : k < roster.length
        · have hstep : dayFrom pl (roster.take (k + 1)) (fill pl supply pl.length) = ((dayFrom pl (roster.take k) (fill pl supply pl.length)).1 ++ [(roster[k].id, grant pl (dayFrom pl (roster.take k) (fill pl supply pl.length)).2 roster[k])], subAll (grant pl (dayFrom pl (roster.take k) (fill pl supply pl.length)).2 roster[k]) (reach pl roster[k].place) (dayFrom pl (roster.take k) (fill pl supply pl.length)).2) := by
            rw [take_snoc' _ k hlt, dayFrom_snoc]
            rfl
          generalize dayFrom pl (roster.take k) (fill pl supply pl.length) = st at *
          have hrs := Hhr'.out.below (w' := wr) (by ((repeat' (first | exact Below.refl _ _ | (refine Below.alloc ?_ ?_ _) | (refine Below.setCell ?_ ?_ _) | (refine Below.drew ?_) | (refine Below.trans ?_ (Below.mono (by assumption) ?_)))) <;> ((try simp only [World.size_alloc, World.size_setCell, World.size_drew] at *); omega))) (Nat.le_refl _)
          obtain ⟨oar', capr', hv, _, hr64, hrc⟩ := hrs
          obtain ⟨rfl, _, rfl⟩ := Value.slice.inj hv
          obtain ⟨b, off, rfl, hbl, hrc⟩ := hrc (by omega)
          replace hrc := hrc k hlt
          replace hr64 := hr64 _ (List.getElem_mem hlt)
          have hblw : b < w.heap.size := by
            obtain ⟨_, _, hv2, _, _, hc9⟩ := Hhr'.out
            obtain ⟨h1, _, _⟩ := Value.slice.inj hv2
            obtain ⟨b', off', hb', hlt', _⟩ := hc9 (by omega)
            rw [← h1] at hb'
            simp only [Option.some.injEq, Addr.mk.injEq] at hb'
            omega
          have hrcw : ∀ (wx : World), Below w.heap.size wr wx → ∀ j u, roster[k].cells[j]? = some u → wx.cell? ⟨b, off + k * 9 + j, none⟩ = some u := fun wx hx j u hu => by
            rw [← hrc j u hu]; exact hx.cell (p := ⟨b, _, none⟩) hblw
          generalize roster[k] = r at *
          obtain ⟨c0, c1, c2, c3, c4, c5, c6, c7, c8⟩ := right_cells hrc
          have hstl : st.1.length ≤ 1048576 := by omega
          have hblr : b < wr.heap.size := by omega
          clear hv hrc c0 c1 c2 c5 c6 c7 c8
          have HhownL := Lib.hid hownL
          clear hownL
          have HhownO := Lib.hid hownO
          clear hownO
          have Hhvol := Lib.hid hvol
          clear hvol
          have Hhstep := Lib.hid hstep
          clear hstep
          have Hhr64 := Lib.hid hr64
          clear hr64
          have Hhlen := Lib.hid hlen
          clear hlen
          have Hhrcw := Lib.hid hrcw
          clear hrcw
          go_wp2_with fail
          go_still_tail 6, (by kernel_rfl)
          go_wp2_with fail
          refine (refReach_calls (.agg #[x0, x1, x2, .slice oa pl.length cap, x4, x5, x6, x7, x8, x9, x10]) pl r.place wr.drew ⟨hm, x0, x1, x2, oa, cap, x4, x5, x6, x7, x8, x9, x10, rfl, Hhp.out.below (Below.drew (by ((repeat' (first | exact Below.refl _ _ | (refine Below.alloc ?_ ?_ _) | (refine Below.setCell ?_ ?_ _) | (refine Below.drew ?_) | (refine Below.trans ?_ (Below.mono (by assumption) ?_)))) <;> ((try simp only [World.size_alloc, World.size_setCell, World.size_drew] at *); omega)))) (Nat.le_refl _)⟩ Hhr64.out.2.2.2.1 hl).mono ?_
          rintro e w2 ⟨rv, rfl, hown2, hB2⟩
          replace hB2 : Below wr.heap.size wr w2 := (Below.refl _ _).drew.trans hB2
          replace hown2 : w2.ownsRow wr.heap.size 3 1 rv (reach pl r.place).length ((reach pl r.place).map (.int .i64)) := hown2
          have hsz2 := hB2.size
          have hbox2 : ∀ j, w2.cell? ⟨w.heap.size, j, none⟩ = (w.alloc (.cells #[x0, x1, x2, .slice oa pl.length cap, x4, x5, x6, x7, x8, x9, x10] 31)).cell? ⟨w.heap.size, j, none⟩ := fun j => (hB2.cell (p := ⟨w.heap.size, j, none⟩) (by simp; omega)).trans (hbox j)
          have d4 : w2.cell? ⟨b, off + k * 9 + 4, none⟩ = some (.int .i64 r.rate) := by rw [← c4]; exact hB2.cell (p := ⟨b, _, none⟩) hblr
          have d0 : w2.cell? ⟨b, off + k * 9, none⟩ = some (.int .i64 r.id) := Hhrcw.out w2 (hB2.mono (by omega)) 0 _ rfl
          have hL2 := ownsRow_below HhownL.out hB2 (Nat.le_refl _)
          have hO2 := ownsRow_below HhownO.out hB2 (Nat.le_refl _)
          have hway := reach_ways pl r.place
          have hrl := hway.le
          have hge := grant_ge pl st.2 r
          have hg64 := grant_64 Hhvol.out r
          have hgle := grant_le Hhvol.out r
          have hgr : grant pl st.2 r = if reach pl r.place = [] then 0 else max 0 (least r.rate st.2 (reach pl r.place)) := rfl
          have hmx := least_max0 st.2 (fun k => (Hhvol.out.2 k).1) (reach pl r.place) r.rate
          obtain ⟨oa2, cap2, rfl⟩ := own_open hown2
          have hown2' := hown2
          have hfresh : wo.heap.size ≤ wr.heap.size := hwo
          clear hown2
          generalize reach pl r.place = rl at *
          generalize grant pl st.2 r = gr at *
          have HhL2 := Lib.hid hL2
          clear hL2
          have HhO2 := Lib.hid hO2
          clear hO2
          have Hhway := Lib.hid hway
          clear hway
          have Hhgle := Lib.hid hgle
          clear hgle
          have Hhgr := Lib.hid hgr
          clear hgr
          have Hhown2' := Lib.hid hown2'
          clear hown2'
          have Hhmx := Lib.hid hmx
          clear hmx
          by_cases hrate : 0 < r.rate
          · by_cases hr0 : rl.length = 0
            · have hG0 : least 0 st.2 rl = gr := by
                obtain rfl := List.eq_nil_of_length_eq_zero hr0
                have := Hhgr.out
                simp at this
                simp [least, this]
              have HhG0 := Lib.hid hG0
              clear hG0
              go_wp2_with fail
              go_loop [13, 14] (fun s13 s14 => ∃ j : Nat, j ≤ rl.length ∧ s14 = .int .i64 j ∧ s13 = .int .i64 (least (0) st.2 (rl.take j))) (fun _ s14 => rl.length - (intOf s14).toNat)
              case atStart => exact ⟨0, by omega, rfl, by simp [least]⟩
              case round =>
                obtain ⟨j, hj, rfl, rfl⟩ := hrel
                by_cases hjl : j < rl.length
                · exfalso; omega
                · obtain rfl : j = rl.length := by omega
                  rw [List.take_length]
                  have hgrant : least (0) st.2 rl = gr := HhG0.out
                  rw [hgrant]
                  have Hhgrant := Lib.hid hgrant
                  clear hgrant
                  go_wp2_with fail
                  obtain ⟨wo3, rfl⟩ : ∃ wo3 : World, wo3 = wr := ⟨_, rfl⟩
                  go_loopw [15] (fun s15 wr => ∃ j : Nat, j ≤ rl.length ∧ s15 = .int .i64 j ∧ wr.ownsRow (w.heap.size + 1) 3 1 (.slice ol pl.length capl) pl.length ((subAll gr (rl.take j) st.2).map (.int .i64)) ∧
                     wr.ownsRow wo3.heap.size 3 1 (.slice oa2 rl.length cap2) rl.length (rl.map (.int .i64)) ∧ wr.ownsRow wo.heap.size 47 2 u10 st.1.length (gcells st.1) ∧ Below (w.heap.size + 1) w2 wr) (fun s15 _ => rl.length - (intOf s15).toNat)
                  case atStart => exact ⟨0, by omega, rfl, by simpa [subAll] using HhL2.out, Hhown2'.out, HhO2.out, Below.refl _ _⟩
                  case round =>
                    obtain ⟨j, hj, rfl, hL3, hR3, hO3, hB3⟩ := hrel
                    have hbox3 : ∀ j, wr.cell? ⟨w.heap.size, j, none⟩ = (w.alloc (.cells #[x0, x1, x2, .slice oa pl.length cap, x4, x5, x6, x7, x8, x9, x10] 31)).cell? ⟨w.heap.size, j, none⟩ := fun j => (hB3.cell (p := ⟨w.heap.size, j, none⟩) (by simp)).trans (hbox2 j)
                    have hsz3 := hB3.size
                    by_cases hjl : j < rl.length
                    · exfalso; omega
                    · obtain rfl : j = rl.length := by omega
                      rw [List.take_length] at hL3
                      have d0 : wr.cell? ⟨b, off + k * 9, none⟩ = some (.int .i64 r.id) := Hhrcw.out wr (by ((repeat' (first | exact Below.refl _ _ | (refine Below.alloc ?_ ?_ _) | (refine Below.setCell ?_ ?_ _) | (refine Below.drew ?_) | (refine Below.trans ?_ (Below.mono (by assumption) ?_)))) <;> ((try simp only [World.size_alloc, World.size_setCell, World.size_drew] at *); omega))) 0 _ rfl
                      have HhL3 := Lib.hid hL3
                      clear hL3
                      have HhR3 := Lib.hid hR3
                      clear hR3
                      have HhO3 := Lib.hid hO3
                      clear hO3
                      go_wp2_with (at_builtin; refine append_grant rfl _ _ rfl wo.heap.size u10 st.1.length (gcells st.1) rfl (HhO3.out.alloc _) wr.heap.size r.id gr rfl (by simp) (by simp) (by omega) (by simp; omega) ?_)
                      intro v' w3 hO4 hgb hB4
                      go_wp2_with fail
                      have hsz4 := hB4.size
                      refine ⟨⟨k + 1, by omega, by go_num, ?_, ?_, (by ((repeat' (first | exact Below.refl _ _ | (refine Below.alloc ?_ ?_ _) | (refine Below.setCell ?_ ?_ _) | (refine Below.drew ?_) | (refine Below.trans ?_ (Below.mono (by assumption) ?_)))) <;> ((try simp only [World.size_alloc, World.size_setCell, World.size_drew] at *); omega))), (by ((try simp only [World.size_alloc, World.size_setCell, World.size_drew] at *); omega))⟩, by simp [intOf]; omega⟩
                      · rw [Hhstep.out]
                        exact ownsRow_lt (HhL3.out.alloc _) (fun k hk => (hlt2 k hk).2) hB4
                      · rw [Hhstep.out]
                        simpa [gcells] using hO4
            · have hG0 : least r.rate st.2 rl = gr := by
                have := Hhgr.out
                rw [if_neg (by intro h; simp [h] at hr0), ← Hhmx.out, show max 0 r.rate = r.rate by omega] at this
                exact this.symm
              have HhG0 := Lib.hid hG0
              clear hG0
              go_wp2_with fail
              go_loop [13, 14] (fun s13 s14 => ∃ j : Nat, j ≤ rl.length ∧ s14 = .int .i64 j ∧ s13 = .int .i64 (least (r.rate) st.2 (rl.take j))) (fun _ s14 => rl.length - (intOf s14).toNat)
              case atStart => exact ⟨0, by omega, rfl, by simp [least]⟩
              case round =>
                obtain ⟨j, hj, rfl, rfl⟩ := hrel
                by_cases hjl : j < rl.length
                · have hnext : least (r.rate) st.2 (rl.take (j + 1)) = min (least (r.rate) st.2 (rl.take j)) (nth st.2 (nth rl j).toNat) := by rw [take_snoc' _ j hjl, least_snoc, ← nth_eq _ j hjl]
                  generalize least (r.rate) st.2 (rl.take j) = x at *
                  obtain ⟨g2, rfl, hg2, hg2s, hcr, -⟩ := own_cell Hhown2'.out hjl
                  have hq := Hhway.out.2 (nth rl j) (by rw [nth_eq _ j hjl]; exact List.getElem_mem hjl)
                  obtain ⟨q, hq'⟩ := Int.eq_ofNat_of_zero_le hq.1
                  rw [hq'] at hcr hq hnext
                  have hql : q < pl.length := by omega
                  obtain ⟨g3, rfl, hg3, hg3s, hcl, hfl⟩ := own_cell HhL2.out hql
                  have Hhnext := Lib.hid hnext
                  clear hnext
                  have Hhq := Lib.hid hq
                  clear hq
                  have Hhq' := Lib.hid hq'
                  clear hq'
                  by_cases hmin : nth st.2 q < x
                  all_goals
                    go_wp2_with fail
                    refine ⟨⟨j + 1, by omega, by go_num, ?_⟩, by simp [intOf]; omega⟩
                    rw [Hhnext.out]
                    simp [hmin]
                    try omega
                · obtain rfl : j = rl.length := by omega
                  rw [List.take_length]
                  have hgrant : least (r.rate) st.2 rl = gr := HhG0.out
                  rw [hgrant]
                  have Hhgrant := Lib.hid hgrant
                  clear hgrant
                  go_wp2_with fail
                  obtain ⟨wo3, rfl⟩ : ∃ wo3 : World, wo3 = wr := ⟨_, rfl⟩
                  go_loopw [15] (fun s15 wr => ∃ j : Nat, j ≤ rl.length ∧ s15 = .int .i64 j ∧ wr.ownsRow (w.heap.size + 1) 3 1 (.slice ol pl.length capl) pl.length ((subAll gr (rl.take j) st.2).map (.int .i64)) ∧
                     wr.ownsRow wo3.heap.size 3 1 (.slice oa2 rl.length cap2) rl.length (rl.map (.int .i64)) ∧ wr.ownsRow wo.heap.size 47 2 u10 st.1.length (gcells st.1) ∧ Below (w.heap.size + 1) w2 wr) (fun s15 _ => rl.length - (intOf s15).toNat)
                  case atStart => exact ⟨0, by omega, rfl, by simpa [subAll] using HhL2.out, Hhown2'.out, HhO2.out, Below.refl _ _⟩
                  case round =>
                    obtain ⟨j, hj, rfl, hL3, hR3, hO3, hB3⟩ := hrel
                    have hbox3 : ∀ j, wr.cell? ⟨w.heap.size, j, none⟩ = (w.alloc (.cells #[x0, x1, x2, .slice oa pl.length cap, x4, x5, x6, x7, x8, x9, x10] 31)).cell? ⟨w.heap.size, j, none⟩ := fun j => (hB3.cell (p := ⟨w.heap.size, j, none⟩) (by simp)).trans (hbox2 j)
                    have hsz3 := hB3.size
                    by_cases hjl : j < rl.length
                    · obtain ⟨g2, rfl, hg2, hg2s, hcr, -⟩ := own_cell hR3 hjl
                      have hq := Hhway.out.2 (nth rl j) (by rw [nth_eq _ j hjl]; exact List.getElem_mem hjl)
                      obtain ⟨q, hq'⟩ := Int.eq_ofNat_of_zero_le hq.1
                      rw [hq'] at hcr hq
                      have hql : q < pl.length := by omega
                      obtain ⟨g3, rfl, hg3, hg3s, hcl, hfl⟩ := own_cell hL3 hql
                      have hg3o := (hlt2 g3 rfl).2
                      have hv := sub_at Hhvol.out Hhway.out hge Hhgle.out hjl
                      rw [hq', Int.toNat_natCast] at hv
                      generalize hleft : subAll gr (rl.take j) st.2 = left at *
                      have hv0 := hv.1
                      have hv1 := hv.2
                      have hown9 := hL3
                      clear hL3 hv hlt2
                      have Hhown9 := Lib.hid hown9
                      clear hown9
                      have HhR3 := Lib.hid hR3
                      clear hR3
                      have Hhq' := Lib.hid hq'
                      clear hq'
                      have Hhq := Lib.hid hq
                      clear hq
                      have Hhleft := Lib.hid hleft
                      clear hleft
                      have HhO3 := Lib.hid hO3
                      clear hO3
                      go_wp2_with fail
                      go_still_tail 15, (by kernel_rfl)
                      go_wp2_with fail
                      refine ⟨⟨j + 1, by omega, by go_num, ?_, ?_, ?_, (by ((repeat' (first | exact Below.refl _ _ | (refine Below.alloc ?_ ?_ _) | (refine Below.setCell ?_ ?_ _) | (refine Below.drew ?_) | (refine Below.trans ?_ (Below.mono (by assumption) ?_)))) <;> ((try simp only [World.size_alloc, World.size_setCell, World.size_drew] at *); omega)))⟩, by simp [intOf]; omega⟩
                      · have h := (World.ownsRow.stored Hhown9.out q (.int .i64 (nth left q - gr))).1
                        rw [take_snoc' _ j hjl, subAll_snoc, Hhleft.out, ← nth_eq _ j hjl, Hhq'.out]
                        simp only [subAt, Int.toNat_natCast, List.map_set]
                        exact h.drew
                      · exact (ownsRow_setCell_below HhR3.out (by simp; omega) _).drew
                      · exact (ownsRow_setCell_below HhO3.out (by simp; omega) _).drew
                    · obtain rfl : j = rl.length := by omega
                      rw [List.take_length] at hL3
                      have d0 : wr.cell? ⟨b, off + k * 9, none⟩ = some (.int .i64 r.id) := Hhrcw.out wr (by ((repeat' (first | exact Below.refl _ _ | (refine Below.alloc ?_ ?_ _) | (refine Below.setCell ?_ ?_ _) | (refine Below.drew ?_) | (refine Below.trans ?_ (Below.mono (by assumption) ?_)))) <;> ((try simp only [World.size_alloc, World.size_setCell, World.size_drew] at *); omega))) 0 _ rfl
                      have HhL3 := Lib.hid hL3
                      clear hL3
                      have HhR3 := Lib.hid hR3
                      clear hR3
                      have HhO3 := Lib.hid hO3
                      clear hO3
                      go_wp2_with (at_builtin; refine append_grant rfl _ _ rfl wo.heap.size u10 st.1.length (gcells st.1) rfl (HhO3.out.alloc _) wr.heap.size r.id gr rfl (by simp) (by simp) (by omega) (by simp; omega) ?_)
                      intro v' w3 hO4 hgb hB4
                      go_wp2_with fail
                      have hsz4 := hB4.size
                      refine ⟨⟨k + 1, by omega, by go_num, ?_, ?_, (by ((repeat' (first | exact Below.refl _ _ | (refine Below.alloc ?_ ?_ _) | (refine Below.setCell ?_ ?_ _) | (refine Below.drew ?_) | (refine Below.trans ?_ (Below.mono (by assumption) ?_)))) <;> ((try simp only [World.size_alloc, World.size_setCell, World.size_drew] at *); omega))), (by ((try simp only [World.size_alloc, World.size_setCell, World.size_drew] at *); omega))⟩, by simp [intOf]; omega⟩
                      · rw [Hhstep.out]
                        exact ownsRow_lt (HhL3.out.alloc _) (fun k hk => (hlt2 k hk).2) hB4
                      · rw [Hhstep.out]
                        simpa [gcells] using hO4
          · by_cases hr0 : rl.length = 0
            · have hG0 : least 0 st.2 rl = gr := by
                obtain rfl := List.eq_nil_of_length_eq_zero hr0
                have := Hhgr.out
                simp at this
                simp [least, this]
              have HhG0 := Lib.hid hG0
              clear hG0
              go_wp2_with fail
              go_loop [13, 14] (fun s13 s14 => ∃ j : Nat, j ≤ rl.length ∧ s14 = .int .i64 j ∧ s13 = .int .i64 (least (0) st.2 (rl.take j))) (fun _ s14 => rl.length - (intOf s14).toNat)
              case atStart => exact ⟨0, by omega, rfl, by simp [least]⟩
              case round =>
                obtain ⟨j, hj, rfl, rfl⟩ := hrel
                by_cases hjl : j < rl.length
                · exfalso; omega
                · obtain rfl : j = rl.length := by omega
                  rw [List.take_length]
                  have hgrant : least (0) st.2 rl = gr := HhG0.out
                  rw [hgrant]
                  have Hhgrant := Lib.hid hgrant
                  clear hgrant
                  go_wp2_with fail
                  obtain ⟨wo3, rfl⟩ : ∃ wo3 : World, wo3 = wr := ⟨_, rfl⟩
                  go_loopw [15] (fun s15 wr => ∃ j : Nat, j ≤ rl.length ∧ s15 = .int .i64 j ∧ wr.ownsRow (w.heap.size + 1) 3 1 (.slice ol pl.length capl) pl.length ((subAll gr (rl.take j) st.2).map (.int .i64)) ∧
                     wr.ownsRow wo3.heap.size 3 1 (.slice oa2 rl.length cap2) rl.length (rl.map (.int .i64)) ∧ wr.ownsRow wo.heap.size 47 2 u10 st.1.length (gcells st.1) ∧ Below (w.heap.size + 1) w2 wr) (fun s15 _ => rl.length - (intOf s15).toNat)
                  case atStart => exact ⟨0, by omega, rfl, by simpa [subAll] using HhL2.out, Hhown2'.out, HhO2.out, Below.refl _ _⟩
                  case round =>
                    obtain ⟨j, hj, rfl, hL3, hR3, hO3, hB3⟩ := hrel
                    have hbox3 : ∀ j, wr.cell? ⟨w.heap.size, j, none⟩ = (w.alloc (.cells #[x0, x1, x2, .slice oa pl.length cap, x4, x5, x6, x7, x8, x9, x10] 31)).cell? ⟨w.heap.size, j, none⟩ := fun j => (hB3.cell (p := ⟨w.heap.size, j, none⟩) (by simp)).trans (hbox2 j)
                    have hsz3 := hB3.size
                    by_cases hjl : j < rl.length
                    · exfalso; omega
                    · obtain rfl : j = rl.length := by omega
                      rw [List.take_length] at hL3
                      have d0 : wr.cell? ⟨b, off + k * 9, none⟩ = some (.int .i64 r.id) := Hhrcw.out wr (by ((repeat' (first | exact Below.refl _ _ | (refine Below.alloc ?_ ?_ _) | (refine Below.setCell ?_ ?_ _) | (refine Below.drew ?_) | (refine Below.trans ?_ (Below.mono (by assumption) ?_)))) <;> ((try simp only [World.size_alloc, World.size_setCell, World.size_drew] at *); omega))) 0 _ rfl
                      have HhL3 := Lib.hid hL3
                      clear hL3
                      have HhR3 := Lib.hid hR3
                      clear hR3
                      have HhO3 := Lib.hid hO3
                      clear hO3
                      go_wp2_with (at_builtin; refine append_grant rfl _ _ rfl wo.heap.size u10 st.1.length (gcells st.1) rfl (HhO3.out.alloc _) wr.heap.size r.id gr rfl (by simp) (by simp) (by omega) (by simp; omega) ?_)
                      intro v' w3 hO4 hgb hB4
                      go_wp2_with fail
                      have hsz4 := hB4.size
                      refine ⟨⟨k + 1, by omega, by go_num, ?_, ?_, (by ((repeat' (first | exact Below.refl _ _ | (refine Below.alloc ?_ ?_ _) | (refine Below.setCell ?_ ?_ _) | (refine Below.drew ?_) | (refine Below.trans ?_ (Below.mono (by assumption) ?_)))) <;> ((try simp only [World.size_alloc, World.size_setCell, World.size_drew] at *); omega))), (by ((try simp only [World.size_alloc, World.size_setCell, World.size_drew] at *); omega))⟩, by simp [intOf]; omega⟩
                      · rw [Hhstep.out]
                        exact ownsRow_lt (HhL3.out.alloc _) (fun k hk => (hlt2 k hk).2) hB4
                      · rw [Hhstep.out]
                        simpa [gcells] using hO4
            · have hG0 : least 0 st.2 rl = gr := by
                have := Hhgr.out
                rw [if_neg (by intro h; simp [h] at hr0), ← Hhmx.out, show max 0 r.rate = 0 by omega] at this
                exact this.symm
              have HhG0 := Lib.hid hG0
              clear hG0
              go_wp2_with fail
              go_loop [13, 14] (fun s13 s14 => ∃ j : Nat, j ≤ rl.length ∧ s14 = .int .i64 j ∧ s13 = .int .i64 (least (0) st.2 (rl.take j))) (fun _ s14 => rl.length - (intOf s14).toNat)
              case atStart => exact ⟨0, by omega, rfl, by simp [least]⟩
              case round =>
                obtain ⟨j, hj, rfl, rfl⟩ := hrel
                by_cases hjl : j < rl.length
                · have hnext : least (0) st.2 (rl.take (j + 1)) = min (least (0) st.2 (rl.take j)) (nth st.2 (nth rl j).toNat) := by rw [take_snoc' _ j hjl, least_snoc, ← nth_eq _ j hjl]
                  generalize least (0) st.2 (rl.take j) = x at *
                  obtain ⟨g2, rfl, hg2, hg2s, hcr, -⟩ := own_cell Hhown2'.out hjl
                  have hq := Hhway.out.2 (nth rl j) (by rw [nth_eq _ j hjl]; exact List.getElem_mem hjl)
                  obtain ⟨q, hq'⟩ := Int.eq_ofNat_of_zero_le hq.1
                  rw [hq'] at hcr hq hnext
                  have hql : q < pl.length := by omega
                  obtain ⟨g3, rfl, hg3, hg3s, hcl, hfl⟩ := own_cell HhL2.out hql
                  have Hhnext := Lib.hid hnext
                  clear hnext
                  have Hhq := Lib.hid hq
                  clear hq
                  have Hhq' := Lib.hid hq'
                  clear hq'
                  by_cases hmin : nth st.2 q < x
                  all_goals
                    go_wp2_with fail
                    refine ⟨⟨j + 1, by omega, by go_num, ?_⟩, by simp [intOf]; omega⟩
                    rw [Hhnext.out]
                    simp [hmin]
                    try omega
                · obtain rfl : j = rl.length := by omega
                  rw [List.take_length]
                  have hgrant : least (0) st.2 rl = gr := HhG0.out
                  rw [hgrant]
                  have Hhgrant := Lib.hid hgrant
                  clear hgrant
                  go_wp2_with fail
                  obtain ⟨wo3, rfl⟩ : ∃ wo3 : World, wo3 = wr := ⟨_, rfl⟩
                  go_loopw [15] (fun s15 wr => ∃ j : Nat, j ≤ rl.length ∧ s15 = .int .i64 j ∧ wr.ownsRow (w.heap.size + 1) 3 1 (.slice ol pl.length capl) pl.length ((subAll gr (rl.take j) st.2).map (.int .i64)) ∧
                     wr.ownsRow wo3.heap.size 3 1 (.slice oa2 rl.length cap2) rl.length (rl.map (.int .i64)) ∧ wr.ownsRow wo.heap.size 47 2 u10 st.1.length (gcells st.1) ∧ Below (w.heap.size + 1) w2 wr) (fun s15 _ => rl.length - (intOf s15).toNat)
                  case atStart => exact ⟨0, by omega, rfl, by simpa [subAll] using HhL2.out, Hhown2'.out, HhO2.out, Below.refl _ _⟩
                  case round =>
                    obtain ⟨j, hj, rfl, hL3, hR3, hO3, hB3⟩ := hrel
                    have hbox3 : ∀ j, wr.cell? ⟨w.heap.size, j, none⟩ = (w.alloc (.cells #[x0, x1, x2, .slice oa pl.length cap, x4, x5, x6, x7, x8, x9, x10] 31)).cell? ⟨w.heap.size, j, none⟩ := fun j => (hB3.cell (p := ⟨w.heap.size, j, none⟩) (by simp)).trans (hbox2 j)
                    have hsz3 := hB3.size
                    by_cases hjl : j < rl.length
                    · obtain ⟨g2, rfl, hg2, hg2s, hcr, -⟩ := own_cell hR3 hjl
                      have hq := Hhway.out.2 (nth rl j) (by rw [nth_eq _ j hjl]; exact List.getElem_mem hjl)
                      obtain ⟨q, hq'⟩ := Int.eq_ofNat_of_zero_le hq.1
                      rw [hq'] at hcr hq
                      have hql : q < pl.length := by omega
                      obtain ⟨g3, rfl, hg3, hg3s, hcl, hfl⟩ := own_cell hL3 hql
                      have hg3o := (hlt2 g3 rfl).2
                      have hv := sub_at Hhvol.out Hhway.out hge Hhgle.out hjl
                      rw [hq', Int.toNat_natCast] at hv
                      generalize hleft : subAll gr (rl.take j) st.2 = left at *
                      have hv0 := hv.1
                      have hv1 := hv.2
                      have hown9 := hL3
                      clear hL3 hv hlt2
                      have Hhown9 := Lib.hid hown9
                      clear hown9
                      have HhR3 := Lib.hid hR3
                      clear hR3
                      have Hhq' := Lib.hid hq'
                      clear hq'
                      have Hhq := Lib.hid hq
                      clear hq
                      have Hhleft := Lib.hid hleft
                      clear hleft
                      have HhO3 := Lib.hid hO3
                      clear hO3
                      go_wp2_with fail
                      go_still_tail 15, (by kernel_rfl)
                      go_wp2_with fail
                      refine ⟨⟨j + 1, by omega, by go_num, ?_, ?_, ?_, (by ((repeat' (first | exact Below.refl _ _ | (refine Below.alloc ?_ ?_ _) | (refine Below.setCell ?_ ?_ _) | (refine Below.drew ?_) | (refine Below.trans ?_ (Below.mono (by assumption) ?_)))) <;> ((try simp only [World.size_alloc, World.size_setCell, World.size_drew] at *); omega)))⟩, by simp [intOf]; omega⟩
                      · have h := (World.ownsRow.stored Hhown9.out q (.int .i64 (nth left q - gr))).1
                        rw [take_snoc' _ j hjl, subAll_snoc, Hhleft.out, ← nth_eq _ j hjl, Hhq'.out]
                        simp only [subAt, Int.toNat_natCast, List.map_set]
                        exact h.drew
                      · exact (ownsRow_setCell_below HhR3.out (by simp; omega) _).drew
                      · exact (ownsRow_setCell_below HhO3.out (by simp; omega) _).drew
                    · obtain rfl : j = rl.length := by omega
                      rw [List.take_length] at hL3
                      have d0 : wr.cell? ⟨b, off + k * 9, none⟩ = some (.int .i64 r.id) := Hhrcw.out wr (by ((repeat' (first | exact Below.refl _ _ | (refine Below.alloc ?_ ?_ _) | (refine Below.setCell ?_ ?_ _) | (refine Below.drew ?_) | (refine Below.trans ?_ (Below.mono (by assumption) ?_)))) <;> ((try simp only [World.size_alloc, World.size_setCell, World.size_drew] at *); omega))) 0 _ rfl
                      have HhL3 := Lib.hid hL3
                      clear hL3
                      have HhR3 := Lib.hid hR3
                      clear hR3
                      have HhO3 := Lib.hid hO3
                      clear hO3
                      go_wp2_with (at_builtin; refine append_grant rfl _ _ rfl wo.heap.size u10 st.1.length (gcells st.1) rfl (HhO3.out.alloc _) wr.heap.size r.id gr rfl (by simp) (by simp) (by omega) (by simp; omega) ?_)
                      intro v' w3 hO4 hgb hB4
                      go_wp2_with fail
                      have hsz4 := hB4.size
                      refine ⟨⟨k + 1, by omega, by go_num, ?_, ?_, (by ((repeat' (first | exact Below.refl _ _ | (refine Below.alloc ?_ ?_ _) | (refine Below.setCell ?_ ?_ _) | (refine Below.drew ?_) | (refine Below.trans ?_ (Below.mono (by assumption) ?_)))) <;> ((try simp only [World.size_alloc, World.size_setCell, World.size_drew] at *); omega))), (by ((try simp only [World.size_alloc, World.size_setCell, World.size_drew] at *); omega))⟩, by simp [intOf]; omega⟩
                      · rw [Hhstep.out]
                        exact ownsRow_lt (HhL3.out.alloc _) (fun k hk => (hlt2 k hk).2) hB4
                      · rw [Hhstep.out]
                        simpa [gcells] using hO4
        · obtain rfl : k = roster.length := by omega
          rw [List.take_length] at hownL hownO hvol
          have HhownL := Lib.hid hownL
          clear hownL
          have HhownO := Lib.hid hownO
          clear hownO
          have Hhvol := Lib.hid hvol
          clear hvol
          go_wp2_with fail
          go_ret2
          refine ⟨_, _, rfl, ownsRow_base HhownO.out (by omega), ?_, (by ((repeat' (first | exact Below.refl _ _ | (refine Below.alloc ?_ ?_ _) | (refine Below.setCell ?_ ?_ _) | (refine Below.drew ?_) | (refine Below.trans ?_ (Below.mono (by assumption) ?_)))) <;> ((try simp only [World.size_alloc, World.size_setCell, World.size_drew] at *); omega)))⟩
          have h1 : (day pl roster supply).2.length = pl.length := Hhvol.out.1
          rw [h1]
          exact ownsRow_base HhownL.out (by omega)
end Go.Proofs.Ytjikehjhmjfhfaa
