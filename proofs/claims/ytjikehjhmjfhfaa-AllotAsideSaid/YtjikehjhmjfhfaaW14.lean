/- The walks of Back. -/
import Derived.Test.YtjikehjhmjfhfaaW13
import Derived.Test.YtjikehjhmjfhfaaW11
import Derived.Deep.RegionWith
namespace Go.Proofs.Ytjikehjhmjfhfaa
open Go.RowKit

def clampS (n lo hi : Int) : Int := if n < lo then lo else if hi < n then hi else n
theorem clampS_bd (n : Int) {hi : Int} (h : 0 ≤ hi) : 0 ≤ clampS n 0 hi ∧ clampS n 0 hi ≤ hi := by unfold clampS; (repeat' split) <;> omega
/-- what returns of a grant -/
def share (litres back : Int) : Int := clampS litres 0 1125899906842624 * clampS back 0 1000 / 1000
theorem share_bd (a b : Int) : 0 ≤ share a b ∧ share a b ≤ 1125899906842624 := by
  have h1 := clampS_bd a (hi := 1125899906842624) (by omega)
  have h2 := clampS_bd b (hi := 1000) (by omega)
  have h3 := scale_bounds h1.1 h1.2 h2.1 h2.2
  unfold share
  omega
def backStep (pl : List Pl) (rs : List Rt) (out : List Int) (g : Int × Int) : List Int :=
  match find rs g.1 with
  | none => out
  | some i => match rs[i]? with
    | none => out
    | some r => if isPlace pl r.backTo = true then addAt (share g.2 r.back) out r.backTo else out
def backFrom (pl : List Pl) (rs : List Rt) (grants : List (Int × Int)) : List Int := grants.foldl (backStep pl rs) (List.replicate pl.length 0)
theorem backFrom_snoc (pl : List Pl) (rs : List Rt) (l : List (Int × Int)) (g : Int × Int) : backFrom pl rs (l ++ [g]) = backStep pl rs (backFrom pl rs l) g := by simp [backFrom]
theorem find_lt {rs : List Rt} {id : Int} {i : Nat} (h : find rs id = some i) : ∃ hi : i < rs.length, rs[i].id = id := by
  unfold find at h
  rw [List.findIdx?_eq_some_iff_getElem] at h
  obtain ⟨hi, h1, _⟩ := h
  exact ⟨hi, by simpa using h1⟩
theorem Vols.backStep {pl : List Pl} {rs : List Rt} {out : List Int} (h : Vols pl.length out) (g : Int × Int) : Vols pl.length (backStep pl rs out g) := by
  unfold Ytjikehjhmjfhfaa.backStep
  split
  · exact h
  · split
    · exact h
    · split
      · exact h.add (share_bd _ _).1 _
      · exact h
theorem Vols.backFold {pl : List Pl} {rs : List Rt} : ∀ (l : List (Int × Int)) {out : List Int}, Vols pl.length out → Vols pl.length (l.foldl (Ytjikehjhmjfhfaa.backStep pl rs) out)
  | [], _, h => h
  | g :: l, _, h => Vols.backFold l (h.backStep g)
theorem Vols.zero (n : Nat) : Vols n (List.replicate n 0) := ⟨by simp, fun k => by simp [nth_replicate]⟩
theorem Vols.backFrom (pl : List Pl) (rs : List Rt) (l : List (Int × Int)) : Vols pl.length (backFrom pl rs l) := Vols.backFold l (Vols.zero _)

theorem GrantsAt.at' {w : World} {oa : Option Addr} {n cap : Nat} {l : List (Int × Int)} (h : GrantsAt w (.slice oa n cap) l) {k : Nat} (hk : k < l.length) :
    ∃ b off, oa = some ⟨b, off, none⟩ ∧ b < w.heap.size ∧ w.cell? ⟨b, off + k * 2, none⟩ = some (.int .i64 l[k].1) ∧ w.cell? ⟨b, off + k * 2 + 1, none⟩ = some (.int .i64 l[k].2) := by
  obtain ⟨oa', cap', hv, _, _, hc⟩ := h
  obtain ⟨rfl, rfl, rfl⟩ := Value.slice.inj hv
  obtain ⟨b, off, rfl, hb, hc⟩ := hc (by omega)
  exact ⟨b, off, rfl, hb, hc k hk⟩
theorem RightsAt.at' {w : World} {oa : Option Addr} {n cap : Nat} {l : List Rt} (h : RightsAt w (.slice oa n cap) l) {k : Nat} (hk : k < l.length) :
    ∃ b off, oa = some ⟨b, off, none⟩ ∧ b < w.heap.size ∧ ∀ j u, l[k].cells[j]? = some u → w.cell? ⟨b, off + k * 9 + j, none⟩ = some u := by
  obtain ⟨oa', cap', hv, _, _, hc⟩ := h
  obtain ⟨rfl, rfl, rfl⟩ := Value.slice.inj hv
  obtain ⟨b, off, rfl, hb, hc⟩ := hc (by omega)
  exact ⟨b, off, rfl, hb, hc k hk⟩
theorem RightsAt.in64 {w : World} {v : Value} {l : List Rt} (h : RightsAt w v l) {k : Nat} (hk : k < l.length) : l[k].in64 := by
  obtain ⟨_, _, _, _, h, _⟩ := h
  exact h _ (List.getElem_mem hk)


set_option maxRecDepth 100000 in
set_option maxHeartbeats 2000000 in
theorem Back_calls (v vr vg : Value) (pl : List Pl) (rs : List Rt) (gs : List (Int × Int)) (w : World) (h : BasinAt w v pl) (hr : RightsAt w vr rs) (hg : GrantsAt w vg gs) (hl : pl.length ≤ 1048576) (hl2 : rs.length ≤ 1048576) :
    Calls Try.prog 15 #[v, vr, vg] w fun e w' => e = .returned (.slice (some ⟨w.heap.size + 1, 0, none⟩) pl.length pl.length) ∧ w'.ownsRow (w.heap.size + 1) 3 1 (.slice (some ⟨w.heap.size + 1, 0, none⟩) pl.length pl.length) pl.length ((backFrom pl rs gs).map (.int .i64)) ∧ Below w.heap.size w w' := by
  obtain ⟨hm, x0, x1, x2, oa, cap, x4, x5, x6, x7, x8, x9, x10, rfl, hp⟩ := h
  have hr0 := hr
  have hg0 := hg
  obtain ⟨oar, capr, rfl, hrm, -, -⟩ := hr
  obtain ⟨oag, capg, rfl, hgm, -, -⟩ := hg
  obtain ⟨i0, hi, hz0, hz1, hz2⟩ := info_parts info3
  have Hhp := Lib.hid hp
  clear hp
  have Hhi := Lib.hid hi
  clear hi
  have Hhz0 := Lib.hid hz0
  clear hz0
  have Hhz1 := Lib.hid hz1
  clear hz1
  have Hhz2 := Lib.hid hz2
  clear hz2
  have Hhr0 := Lib.hid hr0
  clear hr0
  have Hhg0 := Lib.hid hg0
  clear hg0
  go_enter Try.func15, Try.ntmps15
  go_wp2_with (at_make; refine wpList_make_full _ rfl _ _ 29 rfl (w.heap.size + 1) 3 i0 (.int .i64 0) 1 Try.underlying29 Hhi.out Hhz0.out Hhz1.out _ _ _ _ pl.length rfl rfl rfl rfl ?b1 ?b2 ?b3 ?_)
  case b1 => rw [Hhz2.out]; omega
  case b2 => unfold maxLen; omega
  case b3 => simp
  intro w1 hown hgrow
  rw [toList_madeCells_one, show List.replicate pl.length (Value.int .i64 0) = (List.replicate pl.length 0).map (.int .i64) by simp] at hown
  have hb1 : Below (w.heap.size + 1) (w.alloc (.cells #[x0, x1, x2, .slice oa pl.length cap, x4, x5, x6, x7, x8, x9, x10] 31)) w1 := (Below.refl _ _).grown hgrow (by simp) (by simp)
  clear hgrow
  have Hhown := Lib.hid hown
  clear hown
  go_wp2_with fail
  go_loopw [20] (fun s wr => ∃ k : Nat, k ≤ gs.length ∧ s = .int .i64 k ∧ wr.ownsRow (w.heap.size + 1) 3 1 (.slice (some ⟨w.heap.size + 1, 0, none⟩) pl.length pl.length) pl.length ((backFrom pl rs (gs.take k)).map (.int .i64)) ∧
      Below (w.heap.size + 1) (w.alloc (.cells #[x0, x1, x2, .slice oa pl.length cap, x4, x5, x6, x7, x8, x9, x10] 31)) wr) (fun s _ => gs.length - (intOf s).toNat)
  case atStart => exact ⟨0, by omega, rfl, by simpa [backFrom] using Hhown.out, hb1⟩
  case round =>
    clear hb1
    obtain ⟨k, hk, rfl, hown1, hB⟩ := hrel
    have hbox : ∀ j, wr.cell? ⟨w.heap.size, j, none⟩ = (w.alloc (.cells #[x0, x1, x2, .slice oa pl.length cap, x4, x5, x6, x7, x8, x9, x10] 31)).cell? ⟨w.heap.size, j, none⟩ := fun j => hB.cell (p := ⟨w.heap.size, j, none⟩) (by simp)
    have hsz := (hown1.lt (w.heap.size + 1) rfl).2
    have hvol := Vols.backFrom pl rs (gs.take k)
    by_cases hlt : k < gs.length
    · have hstep : backFrom pl rs (gs.take (k + 1)) = backStep pl rs (backFrom pl rs (gs.take k)) gs[k] := by rw [take_snoc' _ k hlt, backFrom_snoc]
      have hgB := Hhg0.out.below (w' := wr) (by ((repeat' (first | exact Below.refl _ _ | (refine Below.alloc ?_ ?_ _) | (refine Below.setCell ?_ ?_ _) | (refine Below.drew ?_) | (refine Below.trans ?_ (Below.mono (by assumption) ?_)))) <;> ((try simp only [World.size_alloc, World.size_setCell, World.size_drew] at *); omega))) (Nat.le_refl _)
      obtain ⟨bg, offg, rfl, hbg, c1, c2⟩ := hgB.at' hlt
      generalize backFrom pl rs (gs.take k) = out at *
      generalize gs[k] = gk at *
      obtain ⟨gid, lit⟩ := gk
      simp only at c1 c2
      have hunf : backStep pl rs out (gid, lit) = match find rs gid with
        | none => out
        | some i => match rs[i]? with
          | none => out
          | some r => if isPlace pl r.backTo = true then addAt (share lit r.back) out r.backTo else out := rfl
      rw [hunf] at hstep
      clear hunf hgB
      have hrB : RightsAt (wr.alloc (.cells #[.int .i64 gid, .int .i64 lit] 47)) (.slice oar rs.length capr) rs := Hhr0.out.below (by ((repeat' (first | exact Below.refl _ _ | (refine Below.alloc ?_ ?_ _) | (refine Below.setCell ?_ ?_ _) | (refine Below.drew ?_) | (refine Below.trans ?_ (Below.mono (by assumption) ?_)))) <;> ((try simp only [World.size_alloc, World.size_setCell, World.size_drew] at *); omega))) (Nat.le_refl _)
      have Hhown1 := Lib.hid hown1
      clear hown1
      have Hhvol := Lib.hid hvol
      clear hvol
      have HhrB := Lib.hid hrB
      clear hrB
      go_wp2_with fail
      refine (IndexFunc_calls _ rs gid wr.heap.size (wr.alloc (.cells #[.int .i64 gid, .int .i64 lit] 47)) HhrB.out (by simp [go_sem]) (by simp)).mono ?_
      rintro e w2 ⟨rfl, hB2⟩
      have hg2 : ∀ j, w2.cell? ⟨wr.heap.size, j, none⟩ = (wr.alloc (.cells #[.int .i64 gid, .int .i64 lit] 47)).cell? ⟨wr.heap.size, j, none⟩ := fun j => hB2.cell (p := ⟨wr.heap.size, j, none⟩) (by simp)
      have hsz2 := hB2.size
      simp only [World.size_alloc] at hsz2
      have hown2 : w2.ownsRow (w.heap.size + 1) 3 1 (.slice (some ⟨w.heap.size + 1, 0, none⟩) pl.length pl.length) pl.length (out.map (.int .i64)) := ownsRow_below (Hhown1.out.alloc _) hB2 (Nat.le_refl _)
      have Hhown2 := Lib.hid hown2
      clear hown2
      cases hf : find rs gid with
      | none =>
        rw [hf] at hstep
        simp only at hstep
        have hneg : ((idx none : Int) < 0) := by simp [idx]
        have hidx : idx none = -1 := rfl
        simp only [hidx]
        clear hneg hidx
        have Hhstep := Lib.hid hstep
        clear hstep
        have Hhf := Lib.hid hf
        clear hf
        go_wp2_with fail
        go_quiet (fail)
        go_wp2_with fail
        refine ⟨⟨k + 1, by omega, by go_num, by rw [Hhstep.out]; exact Hhown2.out, below_drewN (by ((repeat' (first | exact Below.refl _ _ | (refine Below.alloc ?_ ?_ _) | (refine Below.setCell ?_ ?_ _) | (refine Below.drew ?_) | (refine Below.trans ?_ (Below.mono (by assumption) ?_)))) <;> ((try simp only [World.size_alloc, World.size_setCell, World.size_drew] at *); omega))) _⟩, by simp [intOf]; omega⟩
      | some i =>
        obtain ⟨hir, -⟩ := find_lt hf
        rw [hf] at hstep
        simp only [List.getElem?_eq_getElem hir] at hstep
        have hidx : idx (some i) = (i : Int) := rfl
        simp only [hidx]
        clear hidx
        have hrB2 : RightsAt w2 (.slice oar rs.length capr) rs := Hhr0.out.below (by ((repeat' (first | exact Below.refl _ _ | (refine Below.alloc ?_ ?_ _) | (refine Below.setCell ?_ ?_ _) | (refine Below.drew ?_) | (refine Below.trans ?_ (Below.mono (by assumption) ?_)))) <;> ((try simp only [World.size_alloc, World.size_setCell, World.size_drew] at *); omega))) (Nat.le_refl _)
        have hr64 := hrB2.in64 hir
        obtain ⟨b, off, rfl, hb, hrc⟩ := hrB2.at' hir
        generalize rs[i] = r at *
        obtain ⟨d0, d1, d2, d3, d4, d5, d6, d7, d8⟩ := right_cells hrc
        have hdec : decide ((i : Int) < 0) = false := by simp
        clear hrB2 d0 d1 d2 d3 d4 d5 d6
        have hsh := share_bd lit r.back
        have hcl1 := clampS_bd lit (hi := 1125899906842624) (by omega)
        have hcl2 := clampS_bd r.back (hi := 1000) (by omega)
        have hshe : share lit r.back = clampS lit 0 1125899906842624 * clampS r.back 0 1000 / 1000 := rfl
        have hc1 : ∀ wx, Calls Try.prog 28 #[.int .i64 lit, .int .i64 0, .int .i64 1125899906842624] wx fun e w' => e = .returned (.int .i64 (clampS lit 0 1125899906842624)) ∧ w' = wx := fun wx => (Clamp_calls lit 0 1125899906842624 wx).mono fun e w' h => ⟨h.1, h.2.symm⟩
        have hc2 : ∀ wx, Calls Try.prog 28 #[.int .i64 r.back, .int .i64 0, .int .i64 1000] wx fun e w' => e = .returned (.int .i64 (clampS r.back 0 1000)) ∧ w' = wx := fun wx => (Clamp_calls r.back 0 1000 wx).mono fun e w' h => ⟨h.1, h.2.symm⟩
        have hc3 : ∀ wx, Calls Try.prog 27 #[.int .i64 (clampS lit 0 1125899906842624), .int .i64 (clampS r.back 0 1000), .int .i64 1000] wx fun e w' => e = .returned (.tuple #[.int .i64 (share lit r.back), .int .i64 (clampS lit 0 1125899906842624 * clampS r.back 0 1000 % 1000), .bool true]) ∧ ∃ n, w' = wx.drewN n := fun wx => Scale_calls _ _ wx hcl1.1 hcl1.2 hcl2.1 hcl2.2
        generalize share lit r.back = sh at *
        generalize clampS lit 0 1125899906842624 = cl1 at *
        generalize clampS r.back 0 1000 = cl2 at *
        generalize cl1 * cl2 % 1000 = rest at *
        have Hhstep := Lib.hid hstep
        clear hstep
        have Hhf := Lib.hid hf
        clear hf
        have Hhr64 := Lib.hid hr64
        clear hr64
        have Hhrc := Lib.hid hrc
        clear hrc
        have Hhcl1 := Lib.hid hcl1
        clear hcl1
        have Hhcl2 := Lib.hid hcl2
        clear hcl2
        have Hhshe := Lib.hid hshe
        clear hshe
        have Hhc1 := Lib.hid hc1
        clear hc1
        have Hhc2 := Lib.hid hc2
        clear hc2
        have Hhc3 := Lib.hid hc3
        clear hc3
        have hbox2 : ∀ j, w2.cell? ⟨w.heap.size, j, none⟩ = (w.alloc (.cells #[x0, x1, x2, .slice oa pl.length cap, x4, x5, x6, x7, x8, x9, x10] 31)).cell? ⟨w.heap.size, j, none⟩ := fun j => (hB2.cell (p := ⟨w.heap.size, j, none⟩) (by simp; omega)).trans ((World.cell?_of_block (Below.heap_alloc _ _ _ (by simp; omega))).trans (hbox j))
        go_wp2_with fail
        go_still_tail 9, (by kernel_rfl)
        go_wp2_with fail
        refine (is_calls (.agg #[x0, x1, x2, .slice oa pl.length cap, x4, x5, x6, x7, x8, x9, x10]) pl r.backTo w2.drew ⟨hm, x0, x1, x2, oa, cap, x4, x5, x6, x7, x8, x9, x10, rfl, Hhp.out.below (Below.drew (by ((repeat' (first | exact Below.refl _ _ | (refine Below.alloc ?_ ?_ _) | (refine Below.setCell ?_ ?_ _) | (refine Below.drew ?_) | (refine Below.trans ?_ (Below.mono (by assumption) ?_)))) <;> ((try simp only [World.size_alloc, World.size_setCell, World.size_drew] at *); omega)))) (Nat.le_refl _)⟩).mono ?_
        rintro e w3 ⟨rfl, hB3⟩
        replace hB3 : Below w2.heap.size w2 w3 := (Below.refl _ _).drew.trans hB3
        have hsz3 := hB3.size
        have hg3 : ∀ j, w3.cell? ⟨wr.heap.size, j, none⟩ = (wr.alloc (.cells #[.int .i64 gid, .int .i64 lit] 47)).cell? ⟨wr.heap.size, j, none⟩ := fun j => (hB3.cell (p := ⟨wr.heap.size, j, none⟩) (by simp; omega)).trans (hg2 j)
        have f7 : w3.cell? ⟨b, off + i * 9 + 7, none⟩ = some (.int .i64 r.back) := by rw [← d7]; exact hB3.cell (p := ⟨b, _, none⟩) hb
        have f8 : w3.cell? ⟨b, off + i * 9 + 8, none⟩ = some (.int .i64 r.backTo) := by rw [← d8]; exact hB3.cell (p := ⟨b, _, none⟩) hb
        have hown3 := ownsRow_below Hhown2.out hB3 (Nat.le_refl _)
        have Hhown3 := Lib.hid hown3
        clear hown3
        by_cases hyp : isPlace pl r.backTo = true
        · obtain ⟨p, hp'⟩ := Int.eq_ofNat_of_zero_le (show 0 ≤ r.backTo by simp [isPlace] at hyp; omega)
          have hp1 : (p : Int) < pl.length := by simp [isPlace] at hyp; omega
          rw [hp'] at f8
          have Hhp' := Lib.hid hp'
          clear hp'
          go_wp2_with fail
          have hst := Hhstep.out
          rw [hyp, if_pos rfl] at hst
          have Hhst := Lib.hid hst
          clear hst
          have Hhyp := Lib.hid hyp
          clear hyp
          go_quiet (first | (go_at_call_of 28 lit; exact Calls.quiet_of_same (Hhc1.out _)) | (go_at_call_of 28 r.back; exact Calls.quiet_of_same (Hhc2.out _)) | (go_at_call 27; exact Calls.quiet_of (Hhc3.out _)))
          go_wp2_with fail
          have hB5 : Below w3.heap.size w3 (w3.drewN nq) := below_drewN (Below.refl _ _) _
          generalize w3.drewN nq = w5 at *
          have hsz5 := hB5.size
          have k8 : w5.cell? ⟨b, off + i * 9 + 8, none⟩ = some (.int .i64 p) := by rw [← f8]; exact hB5.cell (p := ⟨b, _, none⟩) (show b < w3.heap.size by omega)
          have hown5 := ownsRow_below Hhown3.out hB5 (Nat.le_refl _)
          have hpl : p < pl.length := by omega
          obtain ⟨g3, hg3', _, _, hcl, hfl⟩ := own_cell hown5 hpl
          simp only [Option.some.injEq, Addr.mk.injEq, and_true] at hg3'
          subst hg3'
          have hx64 : In64 (nth out p) := by have := Hhvol.out.2 p; unfold In64; omega
          have hy64 : In64 sh := by unfold In64; omega
          have Hhown5 := Lib.hid hown5
          clear hown5
          have Hhx64 := Lib.hid hx64
          clear hx64
          have Hhy64 := Lib.hid hy64
          clear hy64
          go_still_tail 17, (by kernel_rfl)
          still_call ((Add_calls (nth out p) sh w5.drew Hhx64.out Hhy64.out).mono (fun e w' h => ⟨h.1, h.2.symm⟩))
          repeat still_step
          refine wpStill_nil ?_
          go_wp2_with fail
          refine ⟨⟨k + 1, by omega, by go_num, ?_, (by ((repeat' (first | exact Below.refl _ _ | (refine Below.alloc ?_ ?_ _) | (refine Below.setCell ?_ ?_ _) | (refine Below.drew ?_) | (refine Below.trans ?_ (Below.mono (by assumption) ?_)))) <;> ((try simp only [World.size_alloc, World.size_setCell, World.size_drew] at *); omega)))⟩, by simp [intOf]; omega⟩
          have h := (World.ownsRow.stored Hhown5.out p (.int .i64 (addS (nth out p) sh))).1
          rw [Hhst.out, Hhp'.out]
          simp only [addAt, Int.toNat_natCast, List.map_set]
          exact h.drew
        · have hnp : isPlace pl r.backTo = false := by simpa using hyp
          clear hyp
          have hst := Hhstep.out
          rw [hnp, if_neg (by simp)] at hst
          have Hhst := Lib.hid hst
          clear hst
          go_wp2_with fail
          refine ⟨⟨k + 1, by omega, by go_num, by rw [Hhst.out]; exact Hhown3.out, (by ((repeat' (first | exact Below.refl _ _ | (refine Below.alloc ?_ ?_ _) | (refine Below.setCell ?_ ?_ _) | (refine Below.drew ?_) | (refine Below.trans ?_ (Below.mono (by assumption) ?_)))) <;> ((try simp only [World.size_alloc, World.size_setCell, World.size_drew] at *); omega)))⟩, by simp [intOf]; omega⟩
    · obtain rfl : k = gs.length := by omega
      rw [List.take_length] at hown1
      have Hhown1 := Lib.hid hown1
      clear hown1
      go_wp2_with fail
      go_ret
      exact ⟨rfl, Hhown1.out, (by ((repeat' (first | exact Below.refl _ _ | (refine Below.alloc ?_ ?_ _) | (refine Below.setCell ?_ ?_ _) | (refine Below.drew ?_) | (refine Below.trans ?_ (Below.mono (by assumption) ?_)))) <;> ((try simp only [World.size_alloc, World.size_setCell, World.size_drew] at *); omega)))⟩

set_option maxRecDepth 100000 in
set_option maxHeartbeats 2000000 in
theorem refBack_calls (v vr vg : Value) (pl : List Pl) (rs : List Rt) (gs : List (Int × Int)) (w : World) (h : BasinAt w v pl) (hr : RightsAt w vr rs) (hg : GrantsAt w vg gs) (hl : pl.length ≤ 1048576) (hl2 : rs.length ≤ 1048576) :
    Calls Try.prog 16 #[v, vr, vg] w fun e w' => e = .returned (.slice (some ⟨w.heap.size + 1, 0, none⟩) pl.length pl.length) ∧ w'.ownsRow (w.heap.size + 1) 3 1 (.slice (some ⟨w.heap.size + 1, 0, none⟩) pl.length pl.length) pl.length ((backFrom pl rs gs).map (.int .i64)) ∧ Below w.heap.size w w' := by
  obtain ⟨hm, x0, x1, x2, oa, cap, x4, x5, x6, x7, x8, x9, x10, rfl, hp⟩ := h
  have hr0 := hr
  have hg0 := hg
  obtain ⟨oar, capr, rfl, hrm, -, -⟩ := hr
  obtain ⟨oag, capg, rfl, hgm, -, -⟩ := hg
  obtain ⟨i0, hi, hz0, hz1, hz2⟩ := info_parts info3
  have Hhp := Lib.hid hp
  clear hp
  have Hhi := Lib.hid hi
  clear hi
  have Hhz0 := Lib.hid hz0
  clear hz0
  have Hhz1 := Lib.hid hz1
  clear hz1
  have Hhz2 := Lib.hid hz2
  clear hz2
  have Hhr0 := Lib.hid hr0
  clear hr0
  have Hhg0 := Lib.hid hg0
  clear hg0
  go_enter Try.func16, Try.ntmps16
  go_wp2_with (at_make; refine wpList_make_full _ rfl _ _ 29 rfl (w.heap.size + 1) 3 i0 (.int .i64 0) 1 Try.underlying29 Hhi.out Hhz0.out Hhz1.out _ _ _ _ pl.length rfl rfl rfl rfl ?b1 ?b2 ?b3 ?_)
  case b1 => rw [Hhz2.out]; omega
  case b2 => unfold maxLen; omega
  case b3 => simp
  intro w1 hown hgrow
  rw [toList_madeCells_one, show List.replicate pl.length (Value.int .i64 0) = (List.replicate pl.length 0).map (.int .i64) by simp] at hown
  have hb1 : Below (w.heap.size + 1) (w.alloc (.cells #[x0, x1, x2, .slice oa pl.length cap, x4, x5, x6, x7, x8, x9, x10] 31)) w1 := (Below.refl _ _).grown hgrow (by simp) (by simp)
  clear hgrow
  have Hhown := Lib.hid hown
  clear hown
  go_wp2_with fail
  go_loopw [8] (fun s wr => ∃ k : Nat, k ≤ gs.length ∧ s = .int .i64 k ∧ wr.ownsRow (w.heap.size + 1) 3 1 (.slice (some ⟨w.heap.size + 1, 0, none⟩) pl.length pl.length) pl.length ((backFrom pl rs (gs.take k)).map (.int .i64)) ∧
      Below (w.heap.size + 1) (w.alloc (.cells #[x0, x1, x2, .slice oa pl.length cap, x4, x5, x6, x7, x8, x9, x10] 31)) wr) (fun s _ => gs.length - (intOf s).toNat)
  case atStart => exact ⟨0, by omega, rfl, by simpa [backFrom] using Hhown.out, hb1⟩
  case round =>
    clear hb1
    obtain ⟨k, hk, rfl, hown1, hB⟩ := hrel
    have hbox : ∀ j, wr.cell? ⟨w.heap.size, j, none⟩ = (w.alloc (.cells #[x0, x1, x2, .slice oa pl.length cap, x4, x5, x6, x7, x8, x9, x10] 31)).cell? ⟨w.heap.size, j, none⟩ := fun j => hB.cell (p := ⟨w.heap.size, j, none⟩) (by simp)
    have hsz := (hown1.lt (w.heap.size + 1) rfl).2
    have hvol := Vols.backFrom pl rs (gs.take k)
    by_cases hlt : k < gs.length
    · have hstep : backFrom pl rs (gs.take (k + 1)) = backStep pl rs (backFrom pl rs (gs.take k)) gs[k] := by rw [take_snoc' _ k hlt, backFrom_snoc]
      have hgB := Hhg0.out.below (w' := wr) (by ((repeat' (first | exact Below.refl _ _ | (refine Below.alloc ?_ ?_ _) | (refine Below.setCell ?_ ?_ _) | (refine Below.drew ?_) | (refine Below.trans ?_ (Below.mono (by assumption) ?_)))) <;> ((try simp only [World.size_alloc, World.size_setCell, World.size_drew] at *); omega))) (Nat.le_refl _)
      obtain ⟨bg, offg, rfl, hbg, c1, c2⟩ := hgB.at' hlt
      generalize backFrom pl rs (gs.take k) = out at *
      generalize gs[k] = gk at *
      obtain ⟨gid, lit⟩ := gk
      simp only at c1 c2
      have hunf : backStep pl rs out (gid, lit) = match find rs gid with
        | none => out
        | some i => match rs[i]? with
          | none => out
          | some r => if isPlace pl r.backTo = true then addAt (share lit r.back) out r.backTo else out := rfl
      rw [hunf] at hstep
      clear hunf hgB
      have hrB := Hhr0.out.below (w' := wr) (by ((repeat' (first | exact Below.refl _ _ | (refine Below.alloc ?_ ?_ _) | (refine Below.setCell ?_ ?_ _) | (refine Below.drew ?_) | (refine Below.trans ?_ (Below.mono (by assumption) ?_)))) <;> ((try simp only [World.size_alloc, World.size_setCell, World.size_drew] at *); omega))) (Nat.le_refl _)
      have Hhown1 := Lib.hid hown1
      clear hown1
      have Hhvol := Lib.hid hvol
      clear hvol
      have HhrB := Lib.hid hrB
      clear hrB
      go_wp2_with fail
      refine (Find_calls _ rs gid wr HhrB.out).mono ?_
      rintro e w2 ⟨rfl, rfl⟩
      have hown2 : wr.ownsRow (w.heap.size + 1) 3 1 (.slice (some ⟨w.heap.size + 1, 0, none⟩) pl.length pl.length) pl.length (out.map (.int .i64)) := Hhown1.out
      have Hhown2 := Lib.hid hown2
      clear hown2
      cases hf : find rs gid with
      | none =>
        rw [hf] at hstep
        simp only at hstep
        have hneg : ((idx none : Int) < 0) := by simp [idx]
        have hidx : idx none = -1 := rfl
        simp only [hidx]
        clear hneg hidx
        have Hhstep := Lib.hid hstep
        clear hstep
        have Hhf := Lib.hid hf
        clear hf
        go_wp2_with fail
        go_quiet (fail)
        go_wp2_with fail
        refine ⟨⟨k + 1, by omega, by go_num, by rw [Hhstep.out]; exact Hhown2.out, below_drewN (by ((repeat' (first | exact Below.refl _ _ | (refine Below.alloc ?_ ?_ _) | (refine Below.setCell ?_ ?_ _) | (refine Below.drew ?_) | (refine Below.trans ?_ (Below.mono (by assumption) ?_)))) <;> ((try simp only [World.size_alloc, World.size_setCell, World.size_drew] at *); omega))) _⟩, by simp [intOf]; omega⟩
      | some i =>
        obtain ⟨hir, -⟩ := find_lt hf
        rw [hf] at hstep
        simp only [List.getElem?_eq_getElem hir] at hstep
        have hidx : idx (some i) = (i : Int) := rfl
        simp only [hidx]
        clear hidx
        have hrB2 : RightsAt wr (.slice oar rs.length capr) rs := Hhr0.out.below (by ((repeat' (first | exact Below.refl _ _ | (refine Below.alloc ?_ ?_ _) | (refine Below.setCell ?_ ?_ _) | (refine Below.drew ?_) | (refine Below.trans ?_ (Below.mono (by assumption) ?_)))) <;> ((try simp only [World.size_alloc, World.size_setCell, World.size_drew] at *); omega))) (Nat.le_refl _)
        have hr64 := hrB2.in64 hir
        obtain ⟨b, off, rfl, hb, hrc⟩ := hrB2.at' hir
        generalize rs[i] = r at *
        obtain ⟨d0, d1, d2, d3, d4, d5, d6, d7, d8⟩ := right_cells hrc
        have hdec : decide ((i : Int) < 0) = false := by simp
        clear hrB2 d0 d1 d2 d3 d4 d5 d6
        have hsh := share_bd lit r.back
        have hcl1 := clampS_bd lit (hi := 1125899906842624) (by omega)
        have hcl2 := clampS_bd r.back (hi := 1000) (by omega)
        have hshe : share lit r.back = clampS lit 0 1125899906842624 * clampS r.back 0 1000 / 1000 := rfl
        have hc1 : ∀ wx, Calls Try.prog 31 #[.int .i64 lit, .int .i64 0, .int .i64 1125899906842624] wx fun e w' => e = .returned (.int .i64 (clampS lit 0 1125899906842624)) ∧ w' = wx := fun wx => (refClamp_calls lit 0 1125899906842624 wx).mono fun e w' h => ⟨h.1, h.2.symm⟩
        have hc2 : ∀ wx, Calls Try.prog 31 #[.int .i64 r.back, .int .i64 0, .int .i64 1000] wx fun e w' => e = .returned (.int .i64 (clampS r.back 0 1000)) ∧ w' = wx := fun wx => (refClamp_calls r.back 0 1000 wx).mono fun e w' h => ⟨h.1, h.2.symm⟩
        have hc3 : ∀ wx, Calls Try.prog 30 #[.int .i64 (clampS lit 0 1125899906842624), .int .i64 (clampS r.back 0 1000), .int .i64 1000] wx fun e w' => e = .returned (.tuple #[.int .i64 (share lit r.back), .int .i64 (clampS lit 0 1125899906842624 * clampS r.back 0 1000 % 1000), .bool true]) ∧ ∃ n, w' = wx.drewN n := fun wx => refScale_calls _ _ wx hcl1.1 hcl1.2 hcl2.1 hcl2.2
        generalize share lit r.back = sh at *
        generalize clampS lit 0 1125899906842624 = cl1 at *
        generalize clampS r.back 0 1000 = cl2 at *
        generalize cl1 * cl2 % 1000 = rest at *
        have Hhstep := Lib.hid hstep
        clear hstep
        have Hhf := Lib.hid hf
        clear hf
        have Hhr64 := Lib.hid hr64
        clear hr64
        have Hhrc := Lib.hid hrc
        clear hrc
        have Hhcl1 := Lib.hid hcl1
        clear hcl1
        have Hhcl2 := Lib.hid hcl2
        clear hcl2
        have Hhshe := Lib.hid hshe
        clear hshe
        have Hhc1 := Lib.hid hc1
        clear hc1
        have Hhc2 := Lib.hid hc2
        clear hc2
        have Hhc3 := Lib.hid hc3
        clear hc3
        by_cases hp0 : r.backTo < 0
        · have hnp : isPlace pl r.backTo = false := by unfold isPlace; simp; omega
          have hst := Hhstep.out
          rw [hnp, if_neg (by simp)] at hst
          have Hhst := Lib.hid hst
          clear hst
          have Hhnp := Lib.hid hnp
          clear hnp
          go_wp2_with fail
          go_quiet (fail)
          go_wp2_with fail
          refine ⟨⟨k + 1, by omega, by go_num, by rw [Hhst.out]; exact Hhown2.out, below_drewN (by ((repeat' (first | exact Below.refl _ _ | (refine Below.alloc ?_ ?_ _) | (refine Below.setCell ?_ ?_ _) | (refine Below.drew ?_) | (refine Below.trans ?_ (Below.mono (by assumption) ?_)))) <;> ((try simp only [World.size_alloc, World.size_setCell, World.size_drew] at *); omega))) _⟩, by simp [intOf]; omega⟩
        obtain ⟨p, hp'⟩ := Int.eq_ofNat_of_zero_le (show 0 ≤ r.backTo by omega)
        have hdp : decide ((p : Int) < 0) = false := by simp
        rw [hp'] at d8
        by_cases hp1 : (p : Int) < pl.length
        · have hyp : isPlace pl r.backTo = true := by unfold isPlace; simp; omega
          have Hhp' := Lib.hid hp'
          clear hp'
          go_wp2_with fail
          go_quiet (fail)
          go_wp2_with fail
          have hB3 : Below wr.heap.size wr (wr.drewN nq) := below_drewN (Below.refl _ _) _
          generalize wr.drewN nq = w3 at *
          have hsz3 := hB3.size
          have f2 : w3.cell? ⟨bg, offg + k * 2 + 1, none⟩ = some (.int .i64 lit) := by rw [← c2]; exact hB3.cell (p := ⟨bg, _, none⟩) hbg
          have f7 : w3.cell? ⟨b, off + i * 9 + 7, none⟩ = some (.int .i64 r.back) := by rw [← d7]; exact hB3.cell (p := ⟨b, _, none⟩) hb
          have f8 : w3.cell? ⟨b, off + i * 9 + 8, none⟩ = some (.int .i64 p) := by rw [← d8]; exact hB3.cell (p := ⟨b, _, none⟩) hb
          have hown3 := ownsRow_below Hhown2.out hB3 (Nat.le_refl _)
          have Hhown3 := Lib.hid hown3
          clear hown3
          have hst := Hhstep.out
          rw [hyp, if_pos rfl] at hst
          have Hhst := Lib.hid hst
          clear hst
          have Hhyp := Lib.hid hyp
          clear hyp
          go_quiet (first | (go_at_call_of 31 lit; exact Calls.quiet_of_same (Hhc1.out _)) | (go_at_call_of 31 r.back; exact Calls.quiet_of_same (Hhc2.out _)) | (go_at_call 30; exact Calls.quiet_of (Hhc3.out _)))
          go_wp2_with fail
          have hB5 : Below w3.heap.size w3 (w3.drewN nq) := below_drewN (Below.refl _ _) _
          generalize w3.drewN nq = w5 at *
          have hsz5 := hB5.size
          have k8 : w5.cell? ⟨b, off + i * 9 + 8, none⟩ = some (.int .i64 p) := by rw [← f8]; exact hB5.cell (p := ⟨b, _, none⟩) (show b < w3.heap.size by omega)
          have hown5 := ownsRow_below Hhown3.out hB5 (Nat.le_refl _)
          have hpl : p < pl.length := by omega
          obtain ⟨g3, hg3', _, _, hcl, hfl⟩ := own_cell hown5 hpl
          simp only [Option.some.injEq, Addr.mk.injEq, and_true] at hg3'
          subst hg3'
          have hx64 : In64 (nth out p) := by have := Hhvol.out.2 p; unfold In64; omega
          have hy64 : In64 sh := by unfold In64; omega
          have Hhown5 := Lib.hid hown5
          clear hown5
          have Hhx64 := Lib.hid hx64
          clear hx64
          have Hhy64 := Lib.hid hy64
          clear hy64
          go_still_tail 17, (by kernel_rfl)
          still_call ((refAdd_calls (nth out p) sh w5.drew Hhx64.out Hhy64.out).mono (fun e w' h => ⟨h.1, h.2.symm⟩))
          repeat still_step
          refine wpStill_nil ?_
          go_wp2_with fail
          refine ⟨⟨k + 1, by omega, by go_num, ?_, (by ((repeat' (first | exact Below.refl _ _ | (refine Below.alloc ?_ ?_ _) | (refine Below.setCell ?_ ?_ _) | (refine Below.drew ?_) | (refine Below.trans ?_ (Below.mono (by assumption) ?_)))) <;> ((try simp only [World.size_alloc, World.size_setCell, World.size_drew] at *); omega)))⟩, by simp [intOf]; omega⟩
          have h := (World.ownsRow.stored Hhown5.out p (.int .i64 (addS (nth out p) sh))).1
          rw [Hhst.out, Hhp'.out]
          simp only [addAt, Int.toNat_natCast, List.map_set]
          exact h.drew
        · have hnp : isPlace pl r.backTo = false := by unfold isPlace; simp; omega
          have hst := Hhstep.out
          rw [hnp, if_neg (by simp)] at hst
          have Hhst := Lib.hid hst
          clear hst
          have Hhnp := Lib.hid hnp
          clear hnp
          go_wp2_with fail
          go_quiet (fail)
          go_wp2_with fail
          refine ⟨⟨k + 1, by omega, by go_num, by rw [Hhst.out]; exact Hhown2.out, below_drewN (by ((repeat' (first | exact Below.refl _ _ | (refine Below.alloc ?_ ?_ _) | (refine Below.setCell ?_ ?_ _) | (refine Below.drew ?_) | (refine Below.trans ?_ (Below.mono (by assumption) ?_)))) <;> ((try simp only [World.size_alloc, World.size_setCell, World.size_drew] at *); omega))) _⟩, by simp [intOf]; omega⟩
    · obtain rfl : k = gs.length := by omega
      rw [List.take_length] at hown1
      have Hhown1 := Lib.hid hown1
      clear hown1
      go_wp2_with fail
      go_ret
      exact ⟨rfl, Hhown1.out, (by ((repeat' (first | exact Below.refl _ _ | (refine Below.alloc ?_ ?_ _) | (refine Below.setCell ?_ ?_ _) | (refine Below.drew ?_) | (refine Below.trans ?_ (Below.mono (by assumption) ?_)))) <;> ((try simp only [World.size_alloc, World.size_setCell, World.size_drew] at *); omega)))⟩
end Go.Proofs.Ytjikehjhmjfhfaa
