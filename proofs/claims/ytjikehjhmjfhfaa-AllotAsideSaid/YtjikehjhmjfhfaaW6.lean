/- The walk of Day. -/
import Derived.Test.YtjikehjhmjfhfaaW5
import Derived.StillTailTactics
namespace Go.Proofs.Ytjikehjhmjfhfaa
open Go.RowKit

/-- the cells of a right -/
def Rt.cells (r : Rt) : List Value := [.int .i64 r.id, .int .i64 r.owner, .int .i64 r.date, .int .i64 r.place, .int .i64 r.rate, .int .i64 r.begins, .int .i64 r.ends, .int .i64 r.back, .int .i64 r.backTo]
def Rt.in64 (r : Rt) : Prop := In64 r.id ∧ In64 r.owner ∧ In64 r.date ∧ In64 r.place ∧ In64 r.rate ∧ In64 r.begins ∧ In64 r.ends ∧ In64 r.back ∧ In64 r.backTo

/-- a slice value reads as the rights -/
def RightsAt (w : World) (v : Value) (rs : List Rt) : Prop :=
  ∃ oa cap, v = .slice oa rs.length cap ∧ rs.length ≤ 9223372036854775807 ∧ (∀ r ∈ rs, r.in64) ∧
    (0 < rs.length → ∃ b off, oa = some ⟨b, off, none⟩ ∧ b < w.heap.size ∧ ∀ k (h : k < rs.length) j u, rs[k].cells[j]? = some u → w.cell? ⟨b, off + k * 9 + j, none⟩ = some u)

theorem RightsAt.below {w w' : World} {v : Value} {l : List Rt} {B : Nat} (h : RightsAt w v l) (hb : Below B w w') (hB : w.heap.size ≤ B) : RightsAt w' v l := by
  obtain ⟨oa, cap, rfl, hm, hr, hc⟩ := h
  refine ⟨oa, cap, rfl, hm, hr, fun h0 => ?_⟩
  obtain ⟨b, off, rfl, hb1, hc1⟩ := hc h0
  refine ⟨b, off, rfl, Nat.lt_of_lt_of_le hb1 hb.size, fun k hk j u hu => ?_⟩
  rw [← hc1 k hk j u hu]
  exact hb.cell (p := ⟨b, _, none⟩) (Nat.lt_of_lt_of_le hb1 hB)

theorem right_cells {w : World} {b o : Nat} {r : Rt} (h : ∀ j u, r.cells[j]? = some u → w.cell? ⟨b, o + j, none⟩ = some u) :
    w.cell? ⟨b, o, none⟩ = some (.int .i64 r.id) ∧ w.cell? ⟨b, o + 1, none⟩ = some (.int .i64 r.owner) ∧ w.cell? ⟨b, o + 2, none⟩ = some (.int .i64 r.date) ∧ w.cell? ⟨b, o + 3, none⟩ = some (.int .i64 r.place) ∧
    w.cell? ⟨b, o + 4, none⟩ = some (.int .i64 r.rate) ∧ w.cell? ⟨b, o + 5, none⟩ = some (.int .i64 r.begins) ∧ w.cell? ⟨b, o + 6, none⟩ = some (.int .i64 r.ends) ∧ w.cell? ⟨b, o + 7, none⟩ = some (.int .i64 r.back) ∧
    w.cell? ⟨b, o + 8, none⟩ = some (.int .i64 r.backTo) :=
  ⟨h 0 _ rfl, h 1 _ rfl, h 2 _ rfl, h 3 _ rfl, h 4 _ rfl, h 5 _ rfl, h 6 _ rfl, h 7 _ rfl, h 8 _ rfl⟩


def gcells (l : List (Int × Int)) : List Value := l.flatMap fun g => [.int .i64 g.1, .int .i64 g.2]

set_option maxRecDepth 100000 in
set_option maxHeartbeats 2000000 in
theorem Day_calls (v vr vs : Value) (pl : List Pl) (roster : List Rt) (supply : List Int) (w : World) (h : BasinAt w v pl) (hr : RightsAt w vr roster) (hs : IntsAt w vs supply)
    (hl : pl.length ≤ 1048576) (hl2 : roster.length ≤ 1048576) :
    Calls Try.prog 10 #[v, vr, vs] w fun e w' => ∃ r1 g, e = .returned (.tuple #[r1, .slice (some ⟨g, 0, none⟩) pl.length pl.length]) ∧
       w'.ownsRow (w.heap.size + 2) 47 2 r1 (day pl roster supply).1.length (gcells (day pl roster supply).1) ∧
       w'.ownsRow (w.heap.size + 1) 3 1 (.slice (some ⟨g, 0, none⟩) pl.length pl.length) pl.length ((day pl roster supply).2.map (.int .i64)) ∧ g = w.heap.size + 1 ∧ Below w.heap.size w w' := by
  obtain ⟨hm, x0, x1, x2, oa, cap, x4, x5, x6, x7, x8, x9, x10, rfl, hp⟩ := h
  obtain ⟨i0, hi, hz0, hz1, hz2⟩ := info_parts info3
  obtain ⟨oas, caps, rfl, hsm, hs64, hsc⟩ := hs
  obtain ⟨oar, capr, rfl, hrm, hr64, hrc⟩ := hr
  have hr' : RightsAt w (.slice oar roster.length capr) roster := ⟨oar, capr, rfl, hrm, hr64, hrc⟩
  clear hr64 hrc
  have hs' : IntsAt w (.slice oas supply.length caps) supply := ⟨oas, caps, rfl, hsm, hs64, hsc⟩
  have hs64' := getD_in hs64
  clear hsc hs64
  have Hhp := Lib.hid hp
  clear hp
  have Hhi := Lib.hid hi
  clear hi
  have Hhz0 := Lib.hid hz0
  clear hz0
  have Hhz1 := Lib.hid hz1
  clear hz1
  have Hhz2 := Lib.hid hz2
  clear hz2
  have Hhs' := Lib.hid hs'
  clear hs'
  have Hhr' := Lib.hid hr'
  clear hr'
  have Hhs64' := Lib.hid hs64'
  clear hs64'
  go_enter Try.func10, Try.ntmps10
  go_wp2_with (at_make; refine wpList_make_full _ rfl _ _ 29 rfl (w.heap.size + 1) 3 i0 (.int .i64 0) 1 Try.underlying29 Hhi.out Hhz0.out Hhz1.out _ _ _ _ pl.length rfl rfl rfl rfl ?b1 ?b2 ?b3 ?_)
  case b1 => rw [Hhz2.out]; omega
  case b2 => unfold maxLen; omega
  case b3 => simp
  intro w1 hown hgrow
  rw [toList_madeCells_one, show List.replicate pl.length (Value.int .i64 0) = (List.replicate pl.length 0).map (.int .i64) by simp] at hown
  have hb1 : Below (w.heap.size + 1) (w.alloc (.cells #[x0, x1, x2, .slice oa pl.length cap, x4, x5, x6, x7, x8, x9, x10] 31)) w1 := (Below.refl _ _).grown hgrow (by simp) (by simp)
  have hbox : ∀ j, w1.cell? ⟨w.heap.size, j, none⟩ = (w.alloc (.cells #[x0, x1, x2, .slice oa pl.length cap, x4, x5, x6, x7, x8, x9, x10] 31)).cell? ⟨w.heap.size, j, none⟩ := fun j => hb1.cell (p := ⟨w.heap.size, j, none⟩) (by simp)
  clear hgrow
  have Hhown := Lib.hid hown
  clear hown
  go_wp2_with fail
  go_loopw [26] (fun s26 wr => ∃ k : Nat, k ≤ pl.length ∧ s26 = .int .i64 k ∧ wr.ownsRow (w.heap.size + 1) 3 1 (.slice (some ⟨w.heap.size + 1, 0, none⟩) pl.length pl.length) pl.length ((fill pl supply k).map (.int .i64)) ∧
      Below (w.heap.size + 1) (w.alloc (.cells #[x0, x1, x2, .slice oa pl.length cap, x4, x5, x6, x7, x8, x9, x10] 31)) wr) (fun s26 _ => pl.length - (intOf s26).toNat)
  case atStart => exact ⟨0, by omega, rfl, by simpa [fill] using Hhown.out, hb1⟩
  case round =>
    clear hbox hb1
    obtain ⟨k, hk, rfl, hown1, hB⟩ := hrel
    have hbox : ∀ j, wr.cell? ⟨w.heap.size, j, none⟩ = (w.alloc (.cells #[x0, x1, x2, .slice oa pl.length cap, x4, x5, x6, x7, x8, x9, x10] 31)).cell? ⟨w.heap.size, j, none⟩ := fun j => hB.cell (p := ⟨w.heap.size, j, none⟩) (by simp)
    have hsz := hB.size
    simp only [World.size_alloc] at hsz
    have hsz' := (hown1.lt (w.heap.size + 1) rfl).2
    have Hhown1 := Lib.hid hown1
    clear hown1
    by_cases hlt : k < pl.length
    · have hsup := Hhs'.out.below (w' := wr) (by ((repeat' (first | exact Below.refl _ _ | (refine Below.alloc ?_ ?_ _) | (refine Below.setCell ?_ ?_ _) | (refine Below.drew ?_) | (refine Below.trans ?_ (Below.mono (by assumption) ?_)))) <;> ((try simp only [World.size_alloc, World.size_setCell, World.size_drew] at *); omega))) (Nat.le_refl _)
      by_cases hks : k < supply.length
      · obtain ⟨oas', caps', hv, _, _, hsc⟩ := hsup
        obtain ⟨rfl, _, rfl⟩ := Value.slice.inj hv
        obtain ⟨b, off, rfl, _, hsc⟩ := hsc (by omega)
        replace hsc := hsc k hks
        clear hv
        by_cases hneg : nth supply k < 0
        · go_wp2_with fail
          refine ⟨⟨k + 1, by omega, by go_num, ?_, hB⟩, by simp [intOf]; omega⟩
          rw [fill_succ, supplyStep, if_pos (.inr hneg)]
          exact Hhown1.out
        · go_wp2_with fail
          refine (Reach_calls (.agg #[x0, x1, x2, .slice oa pl.length cap, x4, x5, x6, x7, x8, x9, x10]) pl k wr ⟨hm, x0, x1, x2, oa, cap, x4, x5, x6, x7, x8, x9, x10, rfl, Hhp.out.below (by ((repeat' (first | exact Below.refl _ _ | (refine Below.alloc ?_ ?_ _) | (refine Below.setCell ?_ ?_ _) | (refine Below.drew ?_) | (refine Below.trans ?_ (Below.mono (by assumption) ?_)))) <;> ((try simp only [World.size_alloc, World.size_setCell, World.size_drew] at *); omega))) (Nat.le_refl _)⟩ (by unfold In64; omega) hl).mono ?_
          rintro e w2 ⟨r, rfl, hown2, hB2⟩
          have hsz2 := hB2.size
          have hrl := (reach_ways pl (k : Int)).le
          have hbox2 : ∀ j, w2.cell? ⟨w.heap.size, j, none⟩ = wr.cell? ⟨w.heap.size, j, none⟩ := fun j => hB2.cell (p := ⟨w.heap.size, j, none⟩) (by simp; omega)
          have hown3 := ownsRow_below Hhown1.out hB2 (Nat.le_refl _)
          obtain ⟨oa2, cap2, rfl⟩ := own_open hown2
          have hown2' := ownsRow_base (B' := w.heap.size + 2) hown2 (by omega)
          have hsc2 : w2.cell? ⟨b, off + k, none⟩ = some (.int .i64 (nth supply k)) := by
            rw [← hsc]; exact hB2.cell (p := ⟨b, off + k, none⟩) (World.block_lt_of_cell? _ ⟨b, off + k, none⟩ hsc)
          clear hown2
          have Hhown3 := Lib.hid hown3
          clear hown3
          have Hhown2' := Lib.hid hown2'
          clear hown2'
          go_wp2_with fail
          obtain ⟨wo, rfl⟩ : ∃ wo : World, wo = wr := ⟨_, rfl⟩
          go_loopw [44] (fun s44 wr => ∃ j : Nat, j ≤ (reach pl k).length ∧ s44 = .int .i64 j ∧ wr.ownsRow (w.heap.size + 1) 3 1 (.slice (some ⟨w.heap.size + 1, 0, none⟩) pl.length pl.length) pl.length ((addAll (nth supply k) ((reach pl k).take j) (fill pl supply k)).map (.int .i64)) ∧
              wr.ownsRow (w.heap.size + 2) 3 1 (.slice oa2 (reach pl k).length cap2) (reach pl k).length ((reach pl k).map (.int .i64)) ∧ Below (w.heap.size + 1) w2 wr) (fun s44 _ => (reach pl k).length - (intOf s44).toNat)
          case atStart => exact ⟨0, by omega, rfl, by simpa [addAll] using Hhown3.out, Hhown2'.out, Below.refl _ _⟩
          case round =>
            obtain ⟨j, hj, rfl, hownL, hownR, hB3⟩ := hrel
            have hsz3 := hB3.size
            have hbox3 : ∀ j, wr.cell? ⟨w.heap.size, j, none⟩ = w2.cell? ⟨w.heap.size, j, none⟩ := fun j => hB3.cell (p := ⟨w.heap.size, j, none⟩) (by simp)
            have hblt : b < w.heap.size + 1 := by
              obtain ⟨_, _, hv, _, _, hsc9⟩ := Hhs'.out
              obtain ⟨rfl, _, rfl⟩ := Value.slice.inj hv
              obtain ⟨b', off', hbo, hb', _⟩ := hsc9 (by omega)
              simp only [Option.some.injEq, Addr.mk.injEq] at hbo
              omega
            have hsc3 : wr.cell? ⟨b, off + k, none⟩ = some (.int .i64 (nth supply k)) := by
              rw [← hsc2]; exact hB3.cell (p := ⟨b, off + k, none⟩) hblt
            by_cases hjl : j < (reach pl k).length
            · obtain ⟨g2, rfl, hg2, hg2s, hcr, -⟩ := own_cell hownR hjl
              have hq := (reach_ways pl k).2 (nth (reach pl k) j) (by rw [nth_eq _ j hjl]; exact List.getElem_mem hjl)
              obtain ⟨q, hq'⟩ := Int.eq_ofNat_of_zero_le hq.1
              rw [hq'] at hcr hq
              have hql : q < pl.length := by omega
              obtain ⟨g3, hg3, _, _, hcl, hfl⟩ := own_cell hownL hql
              simp only [Option.some.injEq, Addr.mk.injEq, and_true] at hg3
              subst hg3
              have hv := Vols.addAll (s := nth supply k) (by omega) ((reach pl k).take j) (Vols.fill pl supply k)
              generalize hleft : addAll (nth supply k) ((reach pl k).take j) (fill pl supply k) = left at *
              have hx64 : In64 (nth left q) := by have := hv.2 q; unfold In64; omega
              have hy64 := Hhs64'.out k
              have hown9 := hownL
              clear hownL
              have Hhown9 := Lib.hid hown9
              clear hown9
              have HhownR := Lib.hid hownR
              clear hownR
              have Hhq' := Lib.hid hq'
              clear hq'
              have Hhq := Lib.hid hq
              clear hq
              have Hhleft := Lib.hid hleft
              clear hleft
              have Hhv := Lib.hid hv
              clear hv
              have Hhx64 := Lib.hid hx64
              clear hx64
              have Hhy64 := Lib.hid hy64
              clear hy64
              go_wp2_with fail
              go_still_tail 12, (by kernel_rfl)
              still_call ((Add_calls (nth left q) (nth supply k) wr.drew Hhx64.out Hhy64.out).mono (fun e w' h => ⟨h.1, h.2.symm⟩))
              repeat still_step
              refine wpStill_nil ?_
              go_wp2_with fail
              refine ⟨⟨j + 1, by omega, by go_num, ?_, ?_, (by ((repeat' (first | exact Below.refl _ _ | (refine Below.alloc ?_ ?_ _) | (refine Below.setCell ?_ ?_ _) | (refine Below.drew ?_) | (refine Below.trans ?_ (Below.mono (by assumption) ?_)))) <;> ((try simp only [World.size_alloc, World.size_setCell, World.size_drew] at *); omega)))⟩, by simp [intOf]; omega⟩
              · have h := (World.ownsRow.stored Hhown9.out q (.int .i64 (addS (nth left q) (nth supply k)))).1
                rw [take_snoc' _ j hjl, addAll_snoc, Hhleft.out, ← nth_eq _ j hjl, Hhq'.out]
                simp only [addAt, Int.toNat_natCast, List.map_set]
                exact h.drew
              · exact (ownsRow_setCell_below HhownR.out (by simp) _).drew
            · go_wp2_with fail
              refine ⟨⟨k + 1, by omega, by go_num, ?_, (by ((repeat' (first | exact Below.refl _ _ | (refine Below.alloc ?_ ?_ _) | (refine Below.setCell ?_ ?_ _) | (refine Below.drew ?_) | (refine Below.trans ?_ (Below.mono (by assumption) ?_)))) <;> ((try simp only [World.size_alloc, World.size_setCell, World.size_drew] at *); omega)))⟩, by simp [intOf]; omega⟩
              rw [fill_succ, supplyStep, if_neg (by omega)]
              rw [List.take_of_length_le (by omega)] at hownL
              exact hownL
      · clear hsup
        go_wp2_with fail
        refine ⟨⟨k + 1, by omega, by go_num, ?_, hB⟩, by simp [intOf]; omega⟩
        rw [fill_succ, supplyStep, if_pos (.inl (by omega))]
        exact Hhown1.out
    · obtain rfl : k = pl.length := by omega
      clear hlt hk
      go_wp2_with fail
      obtain ⟨wo, rfl⟩ : ∃ wo : World, wo = wr := ⟨_, rfl⟩
      go_loopw [12, 64] (fun s12 s64 wr => ∃ k : Nat, k ≤ roster.length ∧ s64 = .int .i64 k ∧
         wr.ownsRow (w.heap.size + 1) 3 1 (.slice (some ⟨w.heap.size + 1, 0, none⟩) pl.length pl.length) pl.length ((dayFrom pl (roster.take k) (fill pl supply pl.length)).2.map (.int .i64)) ∧
         wr.ownsRow (w.heap.size + 2) 47 2 s12 (dayFrom pl (roster.take k) (fill pl supply pl.length)).1.length (gcells (dayFrom pl (roster.take k) (fill pl supply pl.length)).1) ∧
         Below (w.heap.size + 1) (w.alloc (.cells #[x0, x1, x2, .slice oa pl.length cap, x4, x5, x6, x7, x8, x9, x10] 31)) wr) (fun _ s64 _ => roster.length - (intOf s64).toNat)
      case atStart => exact ⟨0, by omega, rfl, by simpa [dayFrom] using Hhown1.out, by simpa [dayFrom, gcells] using World.ownsRow_nil _ _ _ _, hB⟩
      case round =>
        clear hbox hB hsz hsz'
        obtain ⟨k, hk, rfl, hownL, hownO, hB⟩ := hrel
        have hbox : ∀ j, wr.cell? ⟨w.heap.size, j, none⟩ = (w.alloc (.cells #[x0, x1, x2, .slice oa pl.length cap, x4, x5, x6, x7, x8, x9, x10] 31)).cell? ⟨w.heap.size, j, none⟩ := fun j => hB.cell (p := ⟨w.heap.size, j, none⟩) (by simp)
        have hsz' := (hownL.lt (w.heap.size + 1) rfl).2
        have hlen := dayFrom_length pl (roster.take k) (fill pl supply pl.length)
        rw [List.length_take, Nat.min_eq_left hk] at hlen
        have hvol : Vols pl.length (dayFrom pl (roster.take k) (fill pl supply pl.length)).2 := Vols.dayFrom (Vols.fill pl supply pl.length) _
        by_cases hlt : k < roster.length
        · have hstep : dayFrom pl (roster.take (k + 1)) (fill pl supply pl.length) = ((dayFrom pl (roster.take k) (fill pl supply pl.length)).1 ++ [(roster[k].id, grant pl (dayFrom pl (roster.take k) (fill pl supply pl.length)).2 roster[k])], subAll (grant pl (dayFrom pl (roster.take k) (fill pl supply pl.length)).2 roster[k]) (reach pl roster[k].place) (dayFrom pl (roster.take k) (fill pl supply pl.length)).2) := by
            rw [take_snoc' _ k hlt, dayFrom_snoc]
            rfl
          generalize dayFrom pl (roster.take k) (fill pl supply pl.length) = st at *
          have hrs := Hhr'.out.below (w' := wr) (by ((repeat' (first | exact Below.refl _ _ | (refine Below.alloc ?_ ?_ _) | (refine Below.setCell ?_ ?_ _) | (refine Below.drew ?_) | (refine Below.trans ?_ (Below.mono (by assumption) ?_)))) <;> ((try simp only [World.size_alloc, World.size_setCell, World.size_drew] at *); omega))) (Nat.le_refl _)
          obtain ⟨oar', capr', hv, _, hr64, hrc⟩ := hrs
          obtain ⟨rfl, _, rfl⟩ := Value.slice.inj hv
          obtain ⟨b, off, rfl, _, hrc⟩ := hrc (by omega)
          replace hrc := hrc k hlt
          replace hr64 := hr64 _ (List.getElem_mem hlt)
          generalize roster[k] = r at *
          obtain ⟨c0, c1, c2, c3, c4, c5, c6, c7, c8⟩ := right_cells hrc
          clear hv hrc
          have hstl : st.1.length ≤ 1048576 := by omega
          have HhownL := Lib.hid hownL
          clear hownL
          have HhownO := Lib.hid hownO
          clear hownO
          have Hhvol := Lib.hid hvol
          clear hvol
          have Hhstep := Lib.hid hstep
          clear hstep
          have Hhr64 := Lib.hid hr64
          clear hr64
          have Hhlen := Lib.hid hlen
          clear hlen
          have hbox' : ∀ j, (wr.alloc (.cells #[.int .i64 r.id, .int .i64 r.owner, .int .i64 r.date, .int .i64 r.place, .int .i64 r.rate, .int .i64 r.begins, .int .i64 r.ends, .int .i64 r.back, .int .i64 r.backTo] 45)).cell? ⟨w.heap.size, j, none⟩ = (w.alloc (.cells #[x0, x1, x2, .slice oa pl.length cap, x4, x5, x6, x7, x8, x9, x10] 31)).cell? ⟨w.heap.size, j, none⟩ := fun j => (World.cell?_of_block (Below.heap_alloc _ _ _ (by simp; omega))).trans (hbox j)
          go_wp2_with fail
          refine (Reach_calls (.agg #[x0, x1, x2, .slice oa pl.length cap, x4, x5, x6, x7, x8, x9, x10]) pl r.place (wr.alloc (.cells #[.int .i64 r.id, .int .i64 r.owner, .int .i64 r.date, .int .i64 r.place, .int .i64 r.rate, .int .i64 r.begins, .int .i64 r.ends, .int .i64 r.back, .int .i64 r.backTo] 45)) ⟨hm, x0, x1, x2, oa, cap, x4, x5, x6, x7, x8, x9, x10, rfl, Hhp.out.below (by ((repeat' (first | exact Below.refl _ _ | (refine Below.alloc ?_ ?_ _) | (refine Below.setCell ?_ ?_ _) | (refine Below.drew ?_) | (refine Below.trans ?_ (Below.mono (by assumption) ?_)))) <;> ((try simp only [World.size_alloc, World.size_setCell, World.size_drew] at *); omega))) (Nat.le_refl _)⟩ Hhr64.out.2.2.2.1 hl).mono ?_
          rintro e w2 ⟨rv, rfl, hown2, hB2⟩
          have hsz2 := hB2.size
          simp only [World.size_alloc] at hsz2
          have hbox2 : ∀ j, w2.cell? ⟨w.heap.size, j, none⟩ = (w.alloc (.cells #[x0, x1, x2, .slice oa pl.length cap, x4, x5, x6, x7, x8, x9, x10] 31)).cell? ⟨w.heap.size, j, none⟩ := fun j => (hB2.cell (p := ⟨w.heap.size, j, none⟩) (by simp; omega)).trans (hbox' j)
          have hrc2 : ∀ j, w2.cell? ⟨wr.heap.size, j, none⟩ = (wr.alloc (.cells #[.int .i64 r.id, .int .i64 r.owner, .int .i64 r.date, .int .i64 r.place, .int .i64 r.rate, .int .i64 r.begins, .int .i64 r.ends, .int .i64 r.back, .int .i64 r.backTo] 45)).cell? ⟨wr.heap.size, j, none⟩ := fun j => hB2.cell (p := ⟨wr.heap.size, j, none⟩) (by simp)
          have hL2 : w2.ownsRow (w.heap.size + 1) 3 1 (.slice (some ⟨w.heap.size + 1, 0, none⟩) pl.length pl.length) pl.length (st.2.map (.int .i64)) := ownsRow_below (HhownL.out.alloc _) hB2 (Nat.le_refl _)
          have hO2 : w2.ownsRow (w.heap.size + 2) 47 2 u12 st.1.length (gcells st.1) := ownsRow_below (HhownO.out.alloc _) hB2 (Nat.le_refl _)
          have hway := reach_ways pl r.place
          have hrl := hway.le
          have hge := grant_ge pl st.2 r
          have hg64 := grant_64 Hhvol.out r
          have hgle := grant_le Hhvol.out r
          have hgr : grant pl st.2 r = if reach pl r.place = [] then 0 else max 0 (least r.rate st.2 (reach pl r.place)) := rfl
          have hint2 : IntsAt w2 rv (reach pl r.place) := IntsAt.of_owned hown2 (fun x hx => by have := hway.2 x hx; unfold In64; omega) (by omega)
          have hintL : IntsAt w2 (.slice (some ⟨w.heap.size + 1, 0, none⟩) pl.length pl.length) st.2 := by
            have h0 := Hhvol.out.1
            have h := IntsAt.of_owned (v := (.slice (some ⟨w.heap.size + 1, 0, none⟩) pl.length pl.length)) (l := st.2) (by rw [h0]; exact hL2) Hhvol.out.in64 (by omega)
            exact h
          obtain ⟨oa2, cap2, rfl⟩ := own_open hown2
          have hown2' := ownsRow_base (B' := w.heap.size + 2) hown2 (by simp; omega)
          clear hown2
          generalize reach pl r.place = rl at *
          generalize grant pl st.2 r = g at *
          have HhL2 := Lib.hid hL2
          clear hL2
          have HhO2 := Lib.hid hO2
          clear hO2
          have Hhway := Lib.hid hway
          clear hway
          have Hhgle := Lib.hid hgle
          clear hgle
          have Hhgr := Lib.hid hgr
          clear hgr
          have Hhint2 := Lib.hid hint2
          clear hint2
          have HhintL := Lib.hid hintL
          clear hintL
          have Hhown2' := Lib.hid hown2'
          clear hown2'
          go_wp2_with fail
          refine (least_calls r.rate _ _ st.2 rl w2 HhintL.out Hhint2.out (fun x hx => by rw [Hhvol.out.1]; exact Hhway.out.2 x hx)).mono ?_
          rintro e w' ⟨rfl, rfl⟩
          have hO2k : ∀ {wx : World}, w2.grownBy wx (some (w.heap.size + 1)) → wx.ownsRow (w.heap.size + 2) 47 2 u12 st.1.length (gcells st.1) := fun h =>
            HhO2.out.kept h (by
              cases hob : u12.ownBlock with
              | none => exact .inl rfl
              | some g => right; have := (HhO2.out.lt g hob).1; intro e; simp at e; omega)
          generalize hmm : least r.rate st.2 rl = m at *
          by_cases hr0 : rl.length = 0
          · obtain rfl : g = 0 := by have := Hhgr.out; rw [if_pos (List.eq_nil_of_length_eq_zero hr0)] at this; exact this
            by_cases hm0 : 0 < m
            all_goals
             go_wp2_with fail
             obtain ⟨wo2, rfl⟩ : ∃ wo2 : World, wo2 = wr := ⟨_, rfl⟩
             go_loopw [83] (fun s83 wr => ∃ j : Nat, j ≤ rl.length ∧ s83 = .int .i64 j ∧ wr.ownsRow (w.heap.size + 1) 3 1 (.slice (some ⟨w.heap.size + 1, 0, none⟩) pl.length pl.length) pl.length ((subAll (0) (rl.take j) st.2).map (.int .i64)) ∧
                wr.ownsRow (w.heap.size + 2) 3 1 (.slice oa2 rl.length cap2) rl.length (rl.map (.int .i64)) ∧ Below (w.heap.size + 1) w2 wr ∧ w2.grownBy wr (some (w.heap.size + 1))) (fun s83 _ => rl.length - (intOf s83).toNat)
             case atStart => exact ⟨0, by omega, rfl, by simpa [subAll] using HhL2.out, Hhown2'.out, Below.refl _ _, World.grownBy.refl _ _⟩
             case round =>
               obtain ⟨j, hj, rfl, hL3, hR3, hB3, hG3⟩ := hrel
               have hbox3 : ∀ j, wr.cell? ⟨w.heap.size, j, none⟩ = (w.alloc (.cells #[x0, x1, x2, .slice oa pl.length cap, x4, x5, x6, x7, x8, x9, x10] 31)).cell? ⟨w.heap.size, j, none⟩ := fun j => (hB3.cell (p := ⟨w.heap.size, j, none⟩) (by simp)).trans (hbox2 j)
               have hsz3 := hB3.size
               by_cases hjl : j < rl.length
               · exfalso; omega
               · obtain rfl : j = rl.length := by omega
                 rw [List.take_length] at hL3
                 have hO3 := hO2k hG3
                 have hrc3 : ∀ j, wr.cell? ⟨wo2.heap.size, j, none⟩ = (wo2.alloc (.cells #[.int .i64 r.id, .int .i64 r.owner, .int .i64 r.date, .int .i64 r.place, .int .i64 r.rate, .int .i64 r.begins, .int .i64 r.ends, .int .i64 r.back, .int .i64 r.backTo] 45)).cell? ⟨wo2.heap.size, j, none⟩ := fun j => (World.cell?_of_block (hG3.block wo2.heap.size (by omega) (by simp; omega))).trans (hrc2 j)
                 have HhL3 := Lib.hid hL3
                 clear hL3
                 have HhR3 := Lib.hid hR3
                 clear hR3
                 go_wp2_with (at_builtin; refine append_grant rfl _ _ rfl (w.heap.size + 2) u12 st.1.length (gcells st.1) rfl (hO3.alloc _) wr.heap.size r.id (0) rfl (by simp) (by simp) (by omega) (by simp; omega) ?_)
                 intro v' w3 hO4 hgb hB4
                 go_wp2_with fail
                 refine ⟨⟨k + 1, by omega, by go_num, ?_, ?_, (by ((repeat' (first | exact Below.refl _ _ | (refine Below.alloc ?_ ?_ _) | (refine Below.setCell ?_ ?_ _) | (refine Below.drew ?_) | (refine Below.trans ?_ (Below.mono (by assumption) ?_)))) <;> ((try simp only [World.size_alloc, World.size_setCell, World.size_drew] at *); omega)))⟩, by simp [intOf]; omega⟩
                 · rw [Hhstep.out]
                   exact ownsRow_blk (HhL3.out.alloc _) (hB4.block _ (by omega))
                 · rw [Hhstep.out]
                   simpa [gcells] using hO4
          · by_cases hm0 : 0 < m
            · obtain rfl : m = g := by
                have := Hhgr.out
                rw [if_neg (by intro h; simp [h] at hr0)] at this
                omega
              go_wp2_with fail
              obtain ⟨wo2, rfl⟩ : ∃ wo2 : World, wo2 = wr := ⟨_, rfl⟩
              go_loopw [83] (fun s83 wr => ∃ j : Nat, j ≤ rl.length ∧ s83 = .int .i64 j ∧ wr.ownsRow (w.heap.size + 1) 3 1 (.slice (some ⟨w.heap.size + 1, 0, none⟩) pl.length pl.length) pl.length ((subAll (m) (rl.take j) st.2).map (.int .i64)) ∧
                 wr.ownsRow (w.heap.size + 2) 3 1 (.slice oa2 rl.length cap2) rl.length (rl.map (.int .i64)) ∧ Below (w.heap.size + 1) w2 wr ∧ w2.grownBy wr (some (w.heap.size + 1))) (fun s83 _ => rl.length - (intOf s83).toNat)
              case atStart => exact ⟨0, by omega, rfl, by simpa [subAll] using HhL2.out, Hhown2'.out, Below.refl _ _, World.grownBy.refl _ _⟩
              case round =>
                obtain ⟨j, hj, rfl, hL3, hR3, hB3, hG3⟩ := hrel
                have hbox3 : ∀ j, wr.cell? ⟨w.heap.size, j, none⟩ = (w.alloc (.cells #[x0, x1, x2, .slice oa pl.length cap, x4, x5, x6, x7, x8, x9, x10] 31)).cell? ⟨w.heap.size, j, none⟩ := fun j => (hB3.cell (p := ⟨w.heap.size, j, none⟩) (by simp)).trans (hbox2 j)
                have hsz3 := hB3.size
                by_cases hjl : j < rl.length
                · obtain ⟨g2, rfl, hg2, hg2s, hcr, -⟩ := own_cell hR3 hjl
                  have hq := Hhway.out.2 (nth rl j) (by rw [nth_eq _ j hjl]; exact List.getElem_mem hjl)
                  obtain ⟨q, hq'⟩ := Int.eq_ofNat_of_zero_le hq.1
                  rw [hq'] at hcr hq
                  have hql : q < pl.length := by omega
                  obtain ⟨g3, hg3, _, _, hcl, hfl⟩ := own_cell hL3 hql
                  simp only [Option.some.injEq, Addr.mk.injEq, and_true] at hg3
                  subst hg3
                  have hv := sub_at Hhvol.out Hhway.out hge Hhgle.out hjl
                  rw [hq', Int.toNat_natCast] at hv
                  generalize hleft : subAll (m) (rl.take j) st.2 = left at *
                  have hv0 := hv.1
                  have hv1 := hv.2
                  have hown9 := hL3
                  clear hL3 hv
                  have Hhown9 := Lib.hid hown9
                  clear hown9
                  have HhR3 := Lib.hid hR3
                  clear hR3
                  have Hhq' := Lib.hid hq'
                  clear hq'
                  have Hhq := Lib.hid hq
                  clear hq
                  have Hhleft := Lib.hid hleft
                  clear hleft
                  go_wp2_with fail
                  refine ⟨⟨j + 1, by omega, by go_num, ?_, ?_, (by ((repeat' (first | exact Below.refl _ _ | (refine Below.alloc ?_ ?_ _) | (refine Below.setCell ?_ ?_ _) | (refine Below.drew ?_) | (refine Below.trans ?_ (Below.mono (by assumption) ?_)))) <;> ((try simp only [World.size_alloc, World.size_setCell, World.size_drew] at *); omega))), ?_⟩, by simp [intOf]; omega⟩
                  · have h := (World.ownsRow.stored Hhown9.out q (.int .i64 (nth left q - (m)))).1
                    rw [take_snoc' _ j hjl, subAll_snoc, Hhleft.out, ← nth_eq _ j hjl, Hhq'.out]
                    simp only [subAt, Int.toNat_natCast, List.map_set]
                    all_goals (simpa using h)
                  · exact ownsRow_setCell_below HhR3.out (by simp) _
                  · exact grownBy_setCell hG3 rfl _
                · obtain rfl : j = rl.length := by omega
                  rw [List.take_length] at hL3
                  have hO3 := hO2k hG3
                  have hrc3 : ∀ j, wr.cell? ⟨wo2.heap.size, j, none⟩ = (wo2.alloc (.cells #[.int .i64 r.id, .int .i64 r.owner, .int .i64 r.date, .int .i64 r.place, .int .i64 r.rate, .int .i64 r.begins, .int .i64 r.ends, .int .i64 r.back, .int .i64 r.backTo] 45)).cell? ⟨wo2.heap.size, j, none⟩ := fun j => (World.cell?_of_block (hG3.block wo2.heap.size (by omega) (by simp; omega))).trans (hrc2 j)
                  have HhL3 := Lib.hid hL3
                  clear hL3
                  have HhR3 := Lib.hid hR3
                  clear hR3
                  go_wp2_with (at_builtin; refine append_grant rfl _ _ rfl (w.heap.size + 2) u12 st.1.length (gcells st.1) rfl (hO3.alloc _) wr.heap.size r.id (m) rfl (by simp) (by simp) (by omega) (by simp; omega) ?_)
                  intro v' w3 hO4 hgb hB4
                  go_wp2_with fail
                  refine ⟨⟨k + 1, by omega, by go_num, ?_, ?_, (by ((repeat' (first | exact Below.refl _ _ | (refine Below.alloc ?_ ?_ _) | (refine Below.setCell ?_ ?_ _) | (refine Below.drew ?_) | (refine Below.trans ?_ (Below.mono (by assumption) ?_)))) <;> ((try simp only [World.size_alloc, World.size_setCell, World.size_drew] at *); omega)))⟩, by simp [intOf]; omega⟩
                  · rw [Hhstep.out]
                    exact ownsRow_blk (HhL3.out.alloc _) (hB4.block _ (by omega))
                  · rw [Hhstep.out]
                    simpa [gcells] using hO4
            · obtain rfl : g = 0 := by
                have := Hhgr.out
                rw [if_neg (by intro h; simp [h] at hr0)] at this
                omega
              go_wp2_with fail
              obtain ⟨wo2, rfl⟩ : ∃ wo2 : World, wo2 = wr := ⟨_, rfl⟩
              go_loopw [83] (fun s83 wr => ∃ j : Nat, j ≤ rl.length ∧ s83 = .int .i64 j ∧ wr.ownsRow (w.heap.size + 1) 3 1 (.slice (some ⟨w.heap.size + 1, 0, none⟩) pl.length pl.length) pl.length ((subAll (0) (rl.take j) st.2).map (.int .i64)) ∧
                 wr.ownsRow (w.heap.size + 2) 3 1 (.slice oa2 rl.length cap2) rl.length (rl.map (.int .i64)) ∧ Below (w.heap.size + 1) w2 wr ∧ w2.grownBy wr (some (w.heap.size + 1))) (fun s83 _ => rl.length - (intOf s83).toNat)
              case atStart => exact ⟨0, by omega, rfl, by simpa [subAll] using HhL2.out, Hhown2'.out, Below.refl _ _, World.grownBy.refl _ _⟩
              case round =>
                obtain ⟨j, hj, rfl, hL3, hR3, hB3, hG3⟩ := hrel
                have hbox3 : ∀ j, wr.cell? ⟨w.heap.size, j, none⟩ = (w.alloc (.cells #[x0, x1, x2, .slice oa pl.length cap, x4, x5, x6, x7, x8, x9, x10] 31)).cell? ⟨w.heap.size, j, none⟩ := fun j => (hB3.cell (p := ⟨w.heap.size, j, none⟩) (by simp)).trans (hbox2 j)
                have hsz3 := hB3.size
                by_cases hjl : j < rl.length
                · obtain ⟨g2, rfl, hg2, hg2s, hcr, -⟩ := own_cell hR3 hjl
                  have hq := Hhway.out.2 (nth rl j) (by rw [nth_eq _ j hjl]; exact List.getElem_mem hjl)
                  obtain ⟨q, hq'⟩ := Int.eq_ofNat_of_zero_le hq.1
                  rw [hq'] at hcr hq
                  have hql : q < pl.length := by omega
                  obtain ⟨g3, hg3, _, _, hcl, hfl⟩ := own_cell hL3 hql
                  simp only [Option.some.injEq, Addr.mk.injEq, and_true] at hg3
                  subst hg3
                  have hv := sub_at Hhvol.out Hhway.out hge Hhgle.out hjl
                  rw [hq', Int.toNat_natCast] at hv
                  generalize hleft : subAll (0) (rl.take j) st.2 = left at *
                  have hv0 := hv.1
                  have hv1 := hv.2
                  have hown9 := hL3
                  clear hL3 hv
                  have Hhown9 := Lib.hid hown9
                  clear hown9
                  have HhR3 := Lib.hid hR3
                  clear hR3
                  have Hhq' := Lib.hid hq'
                  clear hq'
                  have Hhq := Lib.hid hq
                  clear hq
                  have Hhleft := Lib.hid hleft
                  clear hleft
                  go_wp2_with fail
                  refine ⟨⟨j + 1, by omega, by go_num, ?_, ?_, (by ((repeat' (first | exact Below.refl _ _ | (refine Below.alloc ?_ ?_ _) | (refine Below.setCell ?_ ?_ _) | (refine Below.drew ?_) | (refine Below.trans ?_ (Below.mono (by assumption) ?_)))) <;> ((try simp only [World.size_alloc, World.size_setCell, World.size_drew] at *); omega))), ?_⟩, by simp [intOf]; omega⟩
                  · have h := (World.ownsRow.stored Hhown9.out q (.int .i64 (nth left q - (0)))).1
                    rw [take_snoc' _ j hjl, subAll_snoc, Hhleft.out, ← nth_eq _ j hjl, Hhq'.out]
                    simp only [subAt, Int.toNat_natCast, List.map_set]
                    all_goals (simpa using h)
                  · exact ownsRow_setCell_below HhR3.out (by simp) _
                  · exact grownBy_setCell hG3 rfl _
                · obtain rfl : j = rl.length := by omega
                  rw [List.take_length] at hL3
                  have hO3 := hO2k hG3
                  have hrc3 : ∀ j, wr.cell? ⟨wo2.heap.size, j, none⟩ = (wo2.alloc (.cells #[.int .i64 r.id, .int .i64 r.owner, .int .i64 r.date, .int .i64 r.place, .int .i64 r.rate, .int .i64 r.begins, .int .i64 r.ends, .int .i64 r.back, .int .i64 r.backTo] 45)).cell? ⟨wo2.heap.size, j, none⟩ := fun j => (World.cell?_of_block (hG3.block wo2.heap.size (by omega) (by simp; omega))).trans (hrc2 j)
                  have HhL3 := Lib.hid hL3
                  clear hL3
                  have HhR3 := Lib.hid hR3
                  clear hR3
                  go_wp2_with (at_builtin; refine append_grant rfl _ _ rfl (w.heap.size + 2) u12 st.1.length (gcells st.1) rfl (hO3.alloc _) wr.heap.size r.id (0) rfl (by simp) (by simp) (by omega) (by simp; omega) ?_)
                  intro v' w3 hO4 hgb hB4
                  go_wp2_with fail
                  refine ⟨⟨k + 1, by omega, by go_num, ?_, ?_, (by ((repeat' (first | exact Below.refl _ _ | (refine Below.alloc ?_ ?_ _) | (refine Below.setCell ?_ ?_ _) | (refine Below.drew ?_) | (refine Below.trans ?_ (Below.mono (by assumption) ?_)))) <;> ((try simp only [World.size_alloc, World.size_setCell, World.size_drew] at *); omega)))⟩, by simp [intOf]; omega⟩
                  · rw [Hhstep.out]
                    exact ownsRow_blk (HhL3.out.alloc _) (hB4.block _ (by omega))
                  · rw [Hhstep.out]
                    simpa [gcells] using hO4
        · obtain rfl : k = roster.length := by omega
          rw [List.take_length] at hownL hownO hvol
          have HhownL := Lib.hid hownL
          clear hownL
          have HhownO := Lib.hid hownO
          clear hownO
          have Hhvol := Lib.hid hvol
          clear hvol
          go_wp2_with fail
          go_ret2
          exact ⟨u12, w.heap.size + 1, rfl, HhownO.out, HhownL.out, rfl, (by ((repeat' (first | exact Below.refl _ _ | (refine Below.alloc ?_ ?_ _) | (refine Below.setCell ?_ ?_ _) | (refine Below.drew ?_) | (refine Below.trans ?_ (Below.mono (by assumption) ?_)))) <;> ((try simp only [World.size_alloc, World.size_setCell, World.size_drew] at *); omega)))⟩
end Go.Proofs.Ytjikehjhmjfhfaa
