/- The walk of gram's Read. -/
import Derived.Test.YtibhihobpehpbaaDoorD7
import Derived.Laws.ResultCell
set_option linter.unusedSimpArgs false
set_option linter.unusedVariables false
namespace Go.Proofs.YtibhihobpehpbaaDoor
open Go.RowKit

def readAll (s : List UInt8) : Gr × List UInt8 × Bool :=
  let a := rInt s false
  let b := rInt a.2.1 a.2.2
  let c := rInt b.2.1 b.2.2
  let d := rInt c.2.1 c.2.2
  let t := rText d.2.1 d.2.2
  (⟨a.1, b.1, c.1, d.1, t.1⟩, t.2)
def readS (s : List UInt8) : Gr × Bool := if (!(readAll s).2.2 && (readAll s).2.1.isEmpty) && (readAll s).1.ok then ((readAll s).1, true) else (zeroGr, false)
theorem rInt_left (s : List UInt8) (bad : Bool) : (rInt s bad).2.1.length ≤ s.length := by
  cases s with
  | nil => simp [rInt]
  | cons c t =>
    unfold rInt
    dsimp only
    split
    · simp
    · split
      · simp
      · simp; omega
def tupV (x : Gr) (b : Bool) : Value := .tuple #[.agg x.cells, .bool b]
theorem reader_grown {w w' : World} {b c : Nat} {s : List UInt8} {bad : Bool} (h : ReaderAt w b s bad) (hg : w.grownBy w' (some c)) (hne : b ≠ c) : ReaderAt w' b s bad := by
  unfold ReaderAt
  rw [hg.block b (Array.getElem?_eq_some_iff.1 h).1 (fun e => hne (Option.some.inj e))]
  exact h
theorem gr_grown {w w' : World} {b c : Nat} {x : Gr} (h : GrAt w b x) (hg : w.grownBy w' (some c)) (hne : b ≠ c) : GrAt w' b x := by
  unfold GrAt
  rw [hg.block b (Array.getElem?_eq_some_iff.1 h).1 (fun e => hne (Option.some.inj e))]
  exact h
set_option maxRecDepth 100000 in
set_option maxHeartbeats 2000000 in
theorem Read_calls (l : List UInt8) (w : World) (h : GramAt w) (hl : l.length ≤ 1000000) :
    Calls Tryd.prog 10 #[.string ⟨l.toArray⟩] w fun e w' => e = .returned (tupV (readS l).1 (readS l).2) ∧ Below w.heap.size w w' := by
  have h3 := h.1
  have Hh := Lib.hid h
  clear h
  go_enter Tryd.func10, Tryd.ntmps10
  go_wp2_with fail
  generalize hW0 : World.alloc _ _ = w0
  have hR0 : GrAt w0 w.heap.size zeroGr := by rw [← hW0]; exact heap_alloc_new w _
  have hs0 : w0.heap.size = w.heap.size + 1 := by rw [← hW0, World.size_alloc]
  have hB0 : Below w.heap.size w w0 := by rw [← hW0]; exact (by ((repeat' (first | exact Below.refl _ _ | (refine Below.alloc ?_ ?_ _) | (refine Below.setCell ?_ ?_ _) | (refine Below.drew ?_) | (refine Below.trans ?_ (Below.mono (by assumption) ?_)))) <;> ((try simp only [World.size_alloc, World.size_setCell, World.size_drew] at *); omega)))
  clear hW0
  obtain ⟨R, hR⟩ : ∃ R, R = w0.heap.size := ⟨_, rfl⟩
  refine (Open_calls ⟨l.toArray⟩ w0).mono ?_
  rintro e w1 ⟨rfl, hr1, hB1⟩
  have hR1 := hR0.below hB1 (by omega)
  have hbel1 := hB0.trans (hB1.mono (by omega))
  have hz1 : R < w1.heap.size := by rw [hR]; exact hr1.cells.2.2.2.2
  rw [← hR] at hr1 ⊢
  have hRw : w.heap.size < R := by omega
  clear hB1 hR0 hB0 hs0 hR
  have Hhr1 := Lib.hid hr1
  clear hr1
  have HhR1 := Lib.hid hR1
  clear hR1
  have Hhbel1 := Lib.hid hbel1
  clear hbel1
  go_wp2_with fail
  refine (rInt_calls R l false w1 Hhr1.out (by omega)).mono ?_
  rintro e w2 ⟨rfl, hr2, hg2⟩
  obtain ⟨a, ha⟩ : ∃ x, x = rInt l false := ⟨_, rfl⟩
  have hla : a.2.1.length ≤ 1000000 := by rw [ha]; exact Nat.le_trans (rInt_left _ _) (by assumption)
  rw [← ha] at hr2 ⊢
  have hR2 := gr_grown HhR1.out hg2 (by omega)
  have hbel2 := Hhbel1.out.trans (grownBy_below hg2 (by omega) (by have := Hhbel1.out.size; omega))
  clear hg2
  have Hhr2 := Lib.hid hr2
  clear hr2
  have HhR2 := Lib.hid hR2
  clear hR2
  have Hhbel2 := Lib.hid hbel2
  clear hbel2
  have Hha := Lib.hid ha
  clear ha
  go_wp2_with fail
  refine (rInt_calls R a.2.1 a.2.2 w2 Hhr2.out (by omega)).mono ?_
  rintro e w3 ⟨rfl, hr3, hg3⟩
  obtain ⟨b, hb⟩ : ∃ x, x = rInt a.2.1 a.2.2 := ⟨_, rfl⟩
  have hlb : b.2.1.length ≤ 1000000 := by rw [hb]; exact Nat.le_trans (rInt_left _ _) (by assumption)
  rw [← hb] at hr3 ⊢
  have hR3 := gr_grown HhR2.out hg3 (by omega)
  have hbel3 := Hhbel2.out.trans (grownBy_below hg3 (by omega) (by have := Hhbel2.out.size; omega))
  clear hg3
  have Hhr3 := Lib.hid hr3
  clear hr3
  have HhR3 := Lib.hid hR3
  clear hR3
  have Hhbel3 := Lib.hid hbel3
  clear hbel3
  have Hhb := Lib.hid hb
  clear hb
  go_wp2_with fail
  refine (rInt_calls R b.2.1 b.2.2 w3 Hhr3.out (by omega)).mono ?_
  rintro e w4 ⟨rfl, hr4, hg4⟩
  obtain ⟨c, hc⟩ : ∃ x, x = rInt b.2.1 b.2.2 := ⟨_, rfl⟩
  have hlc : c.2.1.length ≤ 1000000 := by rw [hc]; exact Nat.le_trans (rInt_left _ _) (by assumption)
  rw [← hc] at hr4 ⊢
  have hR4 := gr_grown HhR3.out hg4 (by omega)
  have hbel4 := Hhbel3.out.trans (grownBy_below hg4 (by omega) (by have := Hhbel3.out.size; omega))
  clear hg4
  have Hhr4 := Lib.hid hr4
  clear hr4
  have HhR4 := Lib.hid hR4
  clear hR4
  have Hhbel4 := Lib.hid hbel4
  clear hbel4
  have Hhc := Lib.hid hc
  clear hc
  go_wp2_with fail
  refine (rInt_calls R c.2.1 c.2.2 w4 Hhr4.out (by omega)).mono ?_
  rintro e w5 ⟨rfl, hr5, hg5⟩
  obtain ⟨d, hd⟩ : ∃ x, x = rInt c.2.1 c.2.2 := ⟨_, rfl⟩
  have hld : d.2.1.length ≤ 1000000 := by rw [hd]; exact Nat.le_trans (rInt_left _ _) (by assumption)
  rw [← hd] at hr5 ⊢
  have hR5 := gr_grown HhR4.out hg5 (by omega)
  have hbel5 := Hhbel4.out.trans (grownBy_below hg5 (by omega) (by have := Hhbel4.out.size; omega))
  clear hg5
  have Hhr5 := Lib.hid hr5
  clear hr5
  have HhR5 := Lib.hid hR5
  clear hR5
  have Hhbel5 := Lib.hid hbel5
  clear hbel5
  have Hhd := Lib.hid hd
  clear hd
  go_wp2_with fail
  refine (Text_reads R d.2.1 d.2.2 w5 Hhr5.out (by omega)).mono ?_
  rintro e w6 ⟨rfl, hr6, hg6⟩
  obtain ⟨t, ht⟩ : ∃ x, x = rText d.2.1 d.2.2 := ⟨_, rfl⟩
  rw [← ht] at hr6 ⊢
  have hR6 := gr_grown HhR5.out hg6 (by omega)
  have hbel6 := Hhbel5.out.trans (grownBy_below hg6 (by omega) (by have := Hhbel5.out.size; omega))
  clear hg6
  obtain ⟨x, hx⟩ : ∃ x : Gr, x = ⟨a.1, b.1, c.1, d.1, t.1⟩ := ⟨_, rfl⟩
  have hall : readAll l = (x, t.2) := by rw [hx, ht, Hhd.out, Hhc.out, Hhb.out, Hha.out]; rfl
  have Hhr6 := Lib.hid hr6
  clear hr6
  have HhR6 := Lib.hid hR6
  clear hR6
  have Hhbel6 := Lib.hid hbel6
  clear hbel6
  have Hht := Lib.hid ht
  clear ht
  go_wp2_with fail
  rw [show a.1 = x.g by rw [hx], show b.1 = x.q by rw [hx], show c.1 = x.c by rw [hx], show d.1 = x.v by rw [hx], show t.1 = x.tag by rw [hx]]
  clear hx
  generalize hW7 : World.alloc _ _ = w7
  have hx7 : GrAt w7 w6.heap.size x := by rw [← hW7]; exact heap_alloc_new w6 _
  have hb67 : Below w6.heap.size w6 w7 := by rw [← hW7]; exact (by ((repeat' (first | exact Below.refl _ _ | (refine Below.alloc ?_ ?_ _) | (refine Below.setCell ?_ ?_ _) | (refine Below.drew ?_) | (refine Below.trans ?_ (Below.mono (by assumption) ?_)))) <;> ((try simp only [World.size_alloc, World.size_setCell, World.size_drew] at *); omega)))
  have hs7 : w7.heap.size = w6.heap.size + 1 := by rw [← hW7, World.size_alloc]
  have hz6 := Hhbel6.out.size
  have hRl := Hhr6.out.cells.2.2.2.2
  have hr7 := Hhr6.out.below hb67 hRl
  have hR7 := HhR6.out.below hb67 (by omega)
  have hbel7 := Hhbel6.out.trans (hb67.mono hz6)
  clear hW7 hb67
  have hdone := Done_calls R t.2.1 t.2.2 w7 hr7
  have hgr : ∀ wx, Below w7.heap.size w7 wx → GrAt wx w6.heap.size x ∧ GrAt wx w.heap.size zeroGr := fun wx hx => ⟨hx7.below hx (by omega), hR7.below hx (by omega)⟩
  have hf := formed_calls x w7 (Hh.out.below hbel7 h3)
  have hro : readS l = if (!t.2.2 && t.2.1.isEmpty) && x.ok then (x, true) else (zeroGr, false) := by rw [readS, hall]
  obtain ⟨bad, hbad⟩ : ∃ B, B = t.2.2 := ⟨_, rfl⟩
  obtain ⟨emp, hemp⟩ : ∃ B, B = t.2.1.isEmpty := ⟨_, rfl⟩
  rw [← hbad, ← hemp] at hro hdone
  rw [show Gr.val x = .agg #[.int .i64 x.g, .int .i64 x.q, .int .i64 x.c, .int .i64 x.v, .string ⟨x.tag.toArray⟩] from rfl] at hf
  clear hbad hemp hr7
  cases hB : (!bad && emp)
  · rw [hB] at hdone hro
    rw [Bool.false_and, if_neg (by simp)] at hro
    clear hB
    have Hhdone := Lib.hid hdone
    clear hdone
    have Hhro := Lib.hid hro
    clear hro
    have Hhgr := Lib.hid hgr
    clear hgr
    have Hhf := Lib.hid hf
    clear hf
    have Hhx7 := Lib.hid hx7
    clear hx7
    have HhR7 := Lib.hid hR7
    clear hR7
    have Hhs7 := Lib.hid hs7
    clear hs7
    have Hhbel7 := Lib.hid hbel7
    clear hbel7
    have Hhall := Lib.hid hall
    clear hall
    refine (Hhdone.out).mono ?_
    rintro e w8 ⟨rfl, rfl⟩
    go_wp2_with (refine wpList_store_row rfl 23 _ _ rfl w.heap.size zeroGr.cells rfl rfl 23 zeroGr.cells HhR7.out (sz23 _) rfl (gr_one _) ?_)
    refine bodyPost_ret (v := tupV zeroGr false) ?_ rfl ⟨by rw [Hhro.out], below_setRow Hhbel7.out (Nat.le_refl _) _⟩
    rw [results_cell_tmp (fn := Tryd.f10) rfl]
    show ((asAddr (.pointer (some ⟨w.heap.size, 0, none⟩))).run Tryd.prog _).andThen _ = _
    simp [asAddr, run_loadVar_row _ w.heap.size 23 23 zeroGr.cells (0, 0) _ (setRow_heap _ _ _ _ _ _ HhR7.out) und23 rfl (sz23 _), tupV]
  · rw [hB] at hdone hro
    rw [Bool.true_and] at hro
    clear hB
    cases hok : x.ok
    · rw [hok] at hf hro
      rw [if_neg (by simp)] at hro
      clear hok
      obtain ⟨z0, z1, z2, z3, z4⟩ := hx7.c
      have Hhdone := Lib.hid hdone
      clear hdone
      have Hhro := Lib.hid hro
      clear hro
      have Hhgr := Lib.hid hgr
      clear hgr
      have Hhf := Lib.hid hf
      clear hf
      have Hhx7 := Lib.hid hx7
      clear hx7
      have HhR7 := Lib.hid hR7
      clear hR7
      have Hhs7 := Lib.hid hs7
      clear hs7
      have Hhbel7 := Lib.hid hbel7
      clear hbel7
      have Hhall := Lib.hid hall
      clear hall
      refine (Hhdone.out).mono ?_
      rintro e w8 ⟨rfl, rfl⟩
      go_wp2_with fail
      refine (Hhf.out).mono ?_
      rintro e w9 ⟨rfl, hB9⟩
      have hg9 := (Hhgr.out w9 hB9).2
      have hbel9 := Hhbel7.out.trans (hB9.mono Hhbel7.out.size)
      clear z0 z1 z2 z3 z4 hB9
      have Hhg9 := Lib.hid hg9
      clear hg9
      have Hhbel9 := Lib.hid hbel9
      clear hbel9
      go_wp2_with (refine wpList_store_row rfl 23 _ _ rfl w.heap.size zeroGr.cells rfl rfl 23 zeroGr.cells Hhg9.out (sz23 _) rfl (gr_one _) ?_)
      refine bodyPost_ret (v := tupV zeroGr false) ?_ rfl ⟨by rw [Hhro.out], below_setRow Hhbel9.out (Nat.le_refl _) _⟩
      rw [results_cell_tmp (fn := Tryd.f10) rfl]
      show ((asAddr (.pointer (some ⟨w.heap.size, 0, none⟩))).run Tryd.prog _).andThen _ = _
      simp [asAddr, run_loadVar_row _ w.heap.size 23 23 zeroGr.cells (0, 0) _ (setRow_heap _ _ _ _ _ _ Hhg9.out) und23 rfl (sz23 _), tupV]
    · rw [hok] at hf hro
      rw [if_pos rfl] at hro
      clear hok
      obtain ⟨z0, z1, z2, z3, z4⟩ := hx7.c
      have Hhdone := Lib.hid hdone
      clear hdone
      have Hhro := Lib.hid hro
      clear hro
      have Hhgr := Lib.hid hgr
      clear hgr
      have Hhf := Lib.hid hf
      clear hf
      have Hhx7 := Lib.hid hx7
      clear hx7
      have HhR7 := Lib.hid hR7
      clear hR7
      have Hhs7 := Lib.hid hs7
      clear hs7
      have Hhbel7 := Lib.hid hbel7
      clear hbel7
      have Hhall := Lib.hid hall
      clear hall
      refine (Hhdone.out).mono ?_
      rintro e w8 ⟨rfl, rfl⟩
      go_wp2_with fail
      refine (Hhf.out).mono ?_
      rintro e w9 ⟨rfl, hB9⟩
      have hg9 := (Hhgr.out w9 hB9).2
      have hx9 := (Hhgr.out w9 hB9).1
      have hbel9 := Hhbel7.out.trans (hB9.mono Hhbel7.out.size)
      clear z0 z1 z2 z3 z4 hB9
      have Hhg9 := Lib.hid hg9
      clear hg9
      have Hhx9 := Lib.hid hx9
      clear hx9
      have Hhbel9 := Lib.hid hbel9
      clear hbel9
      go_wp2_with (first | (refine wpList_load_row rfl 23 _ rfl w6.heap.size rfl 23 x.cells (0, 0) _ Hhx9.out und23 rfl (sz23 x) ?_) | (refine wpList_store_row rfl 23 _ _ rfl w.heap.size x.cells rfl rfl 23 zeroGr.cells Hhg9.out (sz23 _) rfl (gr_one _) ?_))
      refine bodyPost_ret (v := tupV x true) ?_ rfl ⟨by rw [Hhro.out], below_setRow Hhbel9.out (Nat.le_refl _) _⟩
      rw [results_cell_tmp (fn := Tryd.f10) rfl]
      show ((asAddr (.pointer (some ⟨w.heap.size, 0, none⟩))).run Tryd.prog _).andThen _ = _
      simp [asAddr, run_loadVar_row _ w.heap.size 23 23 x.cells (0, 0) _ (setRow_heap _ _ _ _ _ _ Hhg9.out) und23 rfl (sz23 _), tupV]
end Go.Proofs.YtibhihobpehpbaaDoor
