/- The walk of WireWrites. -/
import Derived.Test.YtiopehgghlfmgaaDoorW13
namespace Go.Proofs.YtiopehgghlfmgaaDoor
open Go.RowKit

set_option maxHeartbeats 1000000 in
theorem Writes_calls (v : Value) (l : List Val) (n : Int) (m : Int) (w : World) (h : ValsAt w v l) (hn : In64 n) (hm : w.cell? ⟨0, 0, none⟩ = some (.int .i64 m)) (h0 : 0 < w.heap.size) :
    Calls Tryd.prog 3 #[v, .int .i64 n] w fun e w' => e = .returned (.bool true) ∧ Below w.heap.size w w' := by
  have hv0 := h
  obtain ⟨oa, cap, rfl, hmx, -⟩ := h
  have Hhv0 := Lib.hid hv0
  clear hv0
  have Hhm := Lib.hid hm
  clear hm
  have Hhn := Lib.hid hn
  clear hn
  go_enter Tryd.func3, Tryd.ntmps3
  go_wp2_with fail
  refine (small_calls m w Hhm.out h0).mono ?_
  rintro e w1 ⟨rfl, hB1⟩
  have hsz1 := hB1.size
  go_wp2_with fail
  refine (light_calls _ l w1 (Hhv0.out.below hB1 (Nat.le_refl _))).mono ?_
  rintro e w1' ⟨b, rfl, hL, rfl⟩
  cases b
  · go_wp2_with fail
    go_ret
    exact ⟨rfl, hB1⟩
  · obtain ⟨hl20, hL⟩ := hL rfl
    have HhL := Lib.hid hL
    clear hL
    go_wp2_with fail
    go_loopw [7, 8] (fun s7 _ wr => ∃ i : Nat, i ≤ l.length ∧ s7 = .int .i64 i ∧ Below w.heap.size w wr) (fun s7 _ _ => l.length - (intOf s7).toNat)
    case atStart => exact ⟨0, by omega, rfl, hB1⟩
    case round =>
      obtain ⟨i, hi, rfl, hB⟩ := hrel
      have hsz := hB.size
      by_cases hlt : i < l.length
      · obtain ⟨-, b, off, rfl, hb, vl, vt, d0, d1, d2, d3, d4, hil, hst, r1, r2, r3⟩ := (Hhv0.out.below hB (Nat.le_refl _)).at' hlt
        have hlx := HhL.out l[i] (List.getElem_mem hlt)
        have hm1 : wr.cell? ⟨0, 0, none⟩ = some (.int .i64 m) := by rw [← Hhm.out]; exact hB.cell (p := ⟨0, 0, none⟩) h0
        generalize l[i] = x at *
        obtain ⟨l1, l2, l3, l4⟩ := hlx
        obtain ⟨oal, capl, rfl⟩ : ∃ oa c, vl = .slice oa x.l.length c := by obtain ⟨a, c, e, _⟩ := hil; exact ⟨a, c, e⟩
        obtain ⟨oat, capt, rfl⟩ : ∃ oa c, vt = .slice oa x.t.length c := by obtain ⟨a, c, e, _⟩ := hst; exact ⟨a, c, e⟩
        have hmx : ∀ wx, Below wr.heap.size wr wx → wx.cell? ⟨0, 0, none⟩ = some (.int .i64 m) := fun wx hx => by rw [← hm1]; exact hx.cell (p := ⟨0, 0, none⟩) (by show 0 < wr.heap.size; omega)
        have hc10 : ∀ wx, Below wr.heap.size wr wx → Calls Tryd.prog 10 #[.int .i64 x.n] wx fun e w' => e = .returned (.string ⟨(encInt x.n).toArray⟩) ∧ Below wx.heap.size wx w' := fun wx _ => Int_calls x.n wx r2
        have hc11 : ∀ wx, Below wr.heap.size wr wx → Calls Tryd.prog 11 #[.int .i64 x.n] wx fun e w' => e = .returned (.string ⟨(encInt x.n).toArray⟩) ∧ Below wx.heap.size wx w' := fun wx _ => refInt_calls x.n wx r2
        have hc12 : ∀ wx, Below wr.heap.size wr wx → Calls Tryd.prog 12 #[.int .i64 x.n] wx fun e w' => e = .returned (.string ⟨(encNum x.n).toArray⟩) ∧ Below wx.heap.size wx w' := fun wx _ => Num_calls x.n wx r2
        have hc13 : ∀ wx, Below wr.heap.size wr wx → Calls Tryd.prog 13 #[.int .i64 x.n] wx fun e w' => e = .returned (.string ⟨(encNum x.n).toArray⟩) ∧ Below wx.heap.size wx w' := fun wx _ => refNum_calls x.n wx r2
        have hc14 : ∀ wx, Below wr.heap.size wr wx → Calls Tryd.prog 14 #[.string x.s] wx fun e w' => e = .returned (.string ⟨(encText x.s.data.toList).toArray⟩) ∧ Below wx.heap.size wx w' := fun wx hx => Text_calls x.s m wx (by omega) (hmx wx hx)
        have hc15 : ∀ wx, Below wr.heap.size wr wx → Calls Tryd.prog 15 #[.string x.s] wx fun e w' => e = .returned (.string ⟨(encText x.s.data.toList).toArray⟩) ∧ Below wx.heap.size wx w' := fun wx hx => refText_calls x.s wx (by omega)
        have hc16 : ∀ wx, Below wr.heap.size wr wx → Calls Tryd.prog 16 #[.slice oal x.l.length capl] wx fun e w' => e = .returned (.string ⟨(encNums x.l).toArray⟩) ∧ Below wx.heap.size wx w' := fun wx hx => Nums_calls _ x.l wx (hil.below hx (Nat.le_refl _)) (by omega)
        have hc17 : ∀ wx, Below wr.heap.size wr wx → Calls Tryd.prog 17 #[.slice oal x.l.length capl] wx fun e w' => e = .returned (.string ⟨(encNums x.l).toArray⟩) ∧ Below wx.heap.size wx w' := fun wx hx => refNums_calls _ x.l wx (hil.below hx (Nat.le_refl _)) (by omega)
        have hc18 : ∀ wx, Below wr.heap.size wr wx → Calls Tryd.prog 18 #[.slice oat x.t.length capt] wx fun e w' => e = .returned (.string ⟨(encTexts x.t).toArray⟩) ∧ Below wx.heap.size wx w' := fun wx hx => Texts_calls _ x.t m wx (hst.below hx (Nat.le_refl _)) (by omega) (fun y hy => by have := l4 y hy; omega) (hmx wx hx)
        have hc19 : ∀ wx, Below wr.heap.size wr wx → Calls Tryd.prog 19 #[.slice oat x.t.length capt] wx fun e w' => e = .returned (.string ⟨(encTexts x.t).toArray⟩) ∧ Below wx.heap.size wx w' := fun wx hx => refTexts_calls _ x.t wx (hst.below hx (Nat.le_refl _)) (by omega) (fun y hy => by have := l4 y hy; omega)
        clear hil hst l4
        have Hhc10 := Lib.hid hc10
        clear hc10
        have Hhc11 := Lib.hid hc11
        clear hc11
        have Hhc12 := Lib.hid hc12
        clear hc12
        have Hhc13 := Lib.hid hc13
        clear hc13
        have Hhc14 := Lib.hid hc14
        clear hc14
        have Hhc15 := Lib.hid hc15
        clear hc15
        have Hhc16 := Lib.hid hc16
        clear hc16
        have Hhc17 := Lib.hid hc17
        clear hc17
        have Hhc18 := Lib.hid hc18
        clear hc18
        have Hhc19 := Lib.hid hc19
        clear hc19
        have Hhm1 := Lib.hid hm1
        clear hm1
        have Hhmx := Lib.hid hmx
        clear hmx
        have Hr2 := Lib.hid r2
        clear r2
        go_wp2_with fail
        generalize hwb : wr.alloc (.cells #[.int .i64 x.kind, .int .i64 x.n, .string x.s, .slice oal x.l.length capl, .slice oat x.t.length capt] 28) = wb at *
        have hbox : wb.heap[wr.heap.size]? = some (.cells #[.int .i64 x.kind, .int .i64 x.n, .string x.s, .slice oal x.l.length capl, .slice oat x.t.length capt] 28) := by rw [← hwb]; exact heap_alloc_new wr _
        have hBb : Below wr.heap.size wr wb := by rw [← hwb]; exact (by ((repeat' (first | exact Below.refl _ _ | (refine Below.alloc ?_ ?_ _) | (refine Below.setCell ?_ ?_ _) | (refine Below.drew ?_) | (refine Below.trans ?_ (Below.mono (by assumption) ?_)))) <;> ((try simp only [World.size_alloc, World.size_setCell, World.size_drew] at *); omega)))
        have hszb : wb.heap.size = wr.heap.size + 1 := by rw [← hwb]; simp
        clear hwb
        have hcell : ∀ wx, Below wb.heap.size wb wx → wx.heap[wr.heap.size]? = some (.cells #[.int .i64 x.kind, .int .i64 x.n, .string x.s, .slice oal x.l.length capl, .slice oat x.t.length capt] 28) := fun wx hx => by rw [hx.block _ (by omega)]; exact hbox
        clear hbox
        have k0 : ∀ wx, Below wb.heap.size wb wx → (wx.cell? ⟨wr.heap.size, 1, none⟩ = some (.int .i64 x.n) ∧ wx.cell? ⟨wr.heap.size, 2, none⟩ = some (.string x.s) ∧ wx.cell? ⟨wr.heap.size, 3, none⟩ = some (.slice oal x.l.length capl) ∧ wx.cell? ⟨wr.heap.size, 4, none⟩ = some (.slice oat x.t.length capt)) := fun wx hx => by
          have := hcell wx hx
          exact ⟨by simp [World.cell?, this], by simp [World.cell?, this], by simp [World.cell?, this], by simp [World.cell?, this]⟩
        clear hcell
        have Hk0 := Lib.hid k0
        clear k0
        go_wp2_with fail
        go_region_held3 (fun w' => w'.cell? ⟨wr.heap.size, 1, none⟩ = some (.int .i64 x.n) ∧ w'.cell? ⟨wr.heap.size, 2, none⟩ = some (.string x.s) ∧ w'.cell? ⟨wr.heap.size, 3, none⟩ = some (.slice oal x.l.length capl) ∧ w'.cell? ⟨wr.heap.size, 4, none⟩ = some (.slice oat x.t.length capt)) (first | exact Hk0.out _ (by ((repeat' (first | exact Below.refl _ _ | (refine Below.alloc ?_ ?_ _) | (refine Below.setCell ?_ ?_ _) | (refine Below.drew ?_) | (refine Below.trans ?_ (Below.mono (by assumption) ?_)))) <;> ((try simp only [World.size_alloc, World.size_setCell, World.size_drew] at *); omega)))) (first | (go_at_call 10; refine (Hhc10.out _ (by have t := True.intro; exact (by ((repeat' (first | exact Below.refl _ _ | (refine Below.alloc ?_ ?_ _) | (refine Below.setCell ?_ ?_ _) | (refine Below.drew ?_) | (refine Below.trans ?_ (Below.mono (by assumption) ?_)))) <;> ((try simp only [World.size_alloc, World.size_setCell, World.size_drew] at *); omega))))).mono ?_; rintro e wa ⟨rfl, hba⟩; have hsa := hba.size; try simp only [World.size_drew] at hsa) | (go_at_call 11; refine (Hhc11.out _ (by have t := True.intro; exact (by ((repeat' (first | exact Below.refl _ _ | (refine Below.alloc ?_ ?_ _) | (refine Below.setCell ?_ ?_ _) | (refine Below.drew ?_) | (refine Below.trans ?_ (Below.mono (by assumption) ?_)))) <;> ((try simp only [World.size_alloc, World.size_setCell, World.size_drew] at *); omega))))).mono ?_; rintro e wc ⟨rfl, hbc⟩; have hsc := hbc.size; try simp only [World.size_drew] at hsc) | (go_at_call 12; refine (Hhc12.out _ (by have t := True.intro; exact (by ((repeat' (first | exact Below.refl _ _ | (refine Below.alloc ?_ ?_ _) | (refine Below.setCell ?_ ?_ _) | (refine Below.drew ?_) | (refine Below.trans ?_ (Below.mono (by assumption) ?_)))) <;> ((try simp only [World.size_alloc, World.size_setCell, World.size_drew] at *); omega))))).mono ?_; rintro e wd ⟨rfl, hbd⟩; have hsd := hbd.size; try simp only [World.size_drew] at hsd) | (go_at_call 13; refine (Hhc13.out _ (by have t := True.intro; exact (by ((repeat' (first | exact Below.refl _ _ | (refine Below.alloc ?_ ?_ _) | (refine Below.setCell ?_ ?_ _) | (refine Below.drew ?_) | (refine Below.trans ?_ (Below.mono (by assumption) ?_)))) <;> ((try simp only [World.size_alloc, World.size_setCell, World.size_drew] at *); omega))))).mono ?_; rintro e we ⟨rfl, hbe⟩; have hse := hbe.size; try simp only [World.size_drew] at hse) | (go_at_call 14; refine (Hhc14.out _ (by have t := True.intro; exact (by ((repeat' (first | exact Below.refl _ _ | (refine Below.alloc ?_ ?_ _) | (refine Below.setCell ?_ ?_ _) | (refine Below.drew ?_) | (refine Below.trans ?_ (Below.mono (by assumption) ?_)))) <;> ((try simp only [World.size_alloc, World.size_setCell, World.size_drew] at *); omega))))).mono ?_; rintro e wf ⟨rfl, hbf⟩; have hsf := hbf.size; try simp only [World.size_drew] at hsf) | (go_at_call 15; refine (Hhc15.out _ (by have t := True.intro; exact (by ((repeat' (first | exact Below.refl _ _ | (refine Below.alloc ?_ ?_ _) | (refine Below.setCell ?_ ?_ _) | (refine Below.drew ?_) | (refine Below.trans ?_ (Below.mono (by assumption) ?_)))) <;> ((try simp only [World.size_alloc, World.size_setCell, World.size_drew] at *); omega))))).mono ?_; rintro e wg ⟨rfl, hbg⟩; have hsg := hbg.size; try simp only [World.size_drew] at hsg) | (go_at_call 16; refine (Hhc16.out _ (by have t := True.intro; exact (by ((repeat' (first | exact Below.refl _ _ | (refine Below.alloc ?_ ?_ _) | (refine Below.setCell ?_ ?_ _) | (refine Below.drew ?_) | (refine Below.trans ?_ (Below.mono (by assumption) ?_)))) <;> ((try simp only [World.size_alloc, World.size_setCell, World.size_drew] at *); omega))))).mono ?_; rintro e wh ⟨rfl, hbh⟩; have hsh := hbh.size; try simp only [World.size_drew] at hsh) | (go_at_call 17; refine (Hhc17.out _ (by have t := True.intro; exact (by ((repeat' (first | exact Below.refl _ _ | (refine Below.alloc ?_ ?_ _) | (refine Below.setCell ?_ ?_ _) | (refine Below.drew ?_) | (refine Below.trans ?_ (Below.mono (by assumption) ?_)))) <;> ((try simp only [World.size_alloc, World.size_setCell, World.size_drew] at *); omega))))).mono ?_; rintro e wi ⟨rfl, hbi⟩; have hsi := hbi.size; try simp only [World.size_drew] at hsi) | (go_at_call 18; refine (Hhc18.out _ (by have t := True.intro; exact (by ((repeat' (first | exact Below.refl _ _ | (refine Below.alloc ?_ ?_ _) | (refine Below.setCell ?_ ?_ _) | (refine Below.drew ?_) | (refine Below.trans ?_ (Below.mono (by assumption) ?_)))) <;> ((try simp only [World.size_alloc, World.size_setCell, World.size_drew] at *); omega))))).mono ?_; rintro e wj ⟨rfl, hbj⟩; have hsj := hbj.size; try simp only [World.size_drew] at hsj) | (go_at_call 19; refine (Hhc19.out _ (by have t := True.intro; exact (by ((repeat' (first | exact Below.refl _ _ | (refine Below.alloc ?_ ?_ _) | (refine Below.setCell ?_ ?_ _) | (refine Below.drew ?_) | (refine Below.trans ?_ (Below.mono (by assumption) ?_)))) <;> ((try simp only [World.size_alloc, World.size_setCell, World.size_drew] at *); omega))))).mono ?_; rintro e wk ⟨rfl, hbk⟩; have hsk := hbk.size; try simp only [World.size_drew] at hsk))
        go_wp2_with fail
        exact ⟨⟨i + 1, by omega, by go_num, (by ((repeat' (first | exact Below.refl _ _ | (refine Below.alloc ?_ ?_ _) | (refine Below.setCell ?_ ?_ _) | (refine Below.drew ?_) | (refine Below.trans ?_ (Below.mono (by assumption) ?_)))) <;> ((try simp only [World.size_alloc, World.size_setCell, World.size_drew] at *); omega)))⟩, by simp [intOf]; omega⟩
      · go_wp2_with fail
        go_wp2_with fail
        refine (Int_calls n wr Hhn.out).mono ?_
        rintro e w2 ⟨rfl, hB2⟩
        have hsz2 := hB2.size
        go_wp2_with fail
        refine (refInt_calls n w2 Hhn.out).mono ?_
        rintro e w3 ⟨rfl, hB3⟩
        have hsz3 := hB3.size
        go_wp2_with fail
        go_ret
        exact ⟨rfl, (by ((repeat' (first | exact Below.refl _ _ | (refine Below.alloc ?_ ?_ _) | (refine Below.setCell ?_ ?_ _) | (refine Below.drew ?_) | (refine Below.trans ?_ (Below.mono (by assumption) ?_)))) <;> ((try simp only [World.size_alloc, World.size_setCell, World.size_drew] at *); omega)))⟩
end Go.Proofs.YtiopehgghlfmgaaDoor
