/- The walk of bourneref24.Read. -/
import Derived.Test.YtibhihobpehpbaaDoorR10
import Derived.Test.YtibhihobpehpbaaDoorD8
import Derived.Test.YtibhihobpehpbaaDoorW10
set_option linter.unusedSimpArgs false
set_option linter.unusedVariables false
namespace Go.Proofs.YtibhihobpehpbaaDoor
open Go.RowKit

theorem rTextGo_len (bad : Bool) : ∀ (n : Nat) (s acc : List UInt8), s.length ≤ n → (rTextGo bad s acc).1.length ≤ acc.length + s.length := by
  intro n
  induction n with
  | zero => intro s acc h; rw [List.eq_nil_of_length_eq_zero (l := s) (by omega)]; simp [rTextGo]
  | succ n ih =>
    intro s acc hl
    match s with
    | [] => simp [rTextGo]
    | [_] => simp [rTextGo]
    | x :: y :: t =>
      simp only [List.length_cons] at hl
      rw [rTextGo]
      split
      · split
        · have := ih t (acc ++ [0]) (by omega)
          simp only [List.length_append, List.length_cons, List.length_nil] at this ⊢; omega
        · split
          · simp only [List.length_cons]; omega
          · simp
      · have := ih (y :: t) (acc ++ [x]) (by simp only [List.length_cons]; omega)
        simp only [List.length_append, List.length_cons, List.length_nil] at this ⊢; omega
theorem rText_short (s : List UInt8) (bad : Bool) : (rText s bad).1.length ≤ s.length := by
  have := rTextGo_len bad _ s [] (Nat.le_refl _)
  rw [rText]; simpa using this
theorem qat_grown_lt {w w' : World} {b c : Nat} {s : List UInt8} {bad : Bool} (h : QAt w b s bad) (hg : w.grownBy w' (some c)) (hne : b ≠ c) : QAt w' b s bad := by
  unfold QAt
  rw [hg.block b (Array.getElem?_eq_some_iff.1 h).1 (fun e => hne (Option.some.inj e))]
  exact h
theorem qat_set {w : World} {b g : Nat} {s : List UInt8} {bad : Bool} (h : QAt w b s bad) (hne : b ≠ g) (i : Nat) (v : Value) : QAt (w.setCell ⟨g, i, none⟩ v) b s bad :=
  (Below.heap_setCell _ _ _ _ (by simpa using hne)).trans h
theorem gr_set {w : World} {b g : Nat} {x : Gr} (h : GrAt w b x) (hne : b ≠ g) (i : Nat) (v : Value) : GrAt (w.setCell ⟨g, i, none⟩ v) b x :=
  (Below.heap_setCell _ _ _ _ (by simpa using hne)).trans h
set_option maxRecDepth 100000 in
set_option maxHeartbeats 4000000 in
theorem ReadR_calls (l : List UInt8) (w : World) (hl : l.length ≤ 1000000) :
    Calls Tryd.prog 11 #[.string ⟨l.toArray⟩] w fun e w' => e = .returned (tupV (readS l).1 (readS l).2) ∧ Below w.heap.size w w' := by
  go_enter Tryd.func11, Tryd.ntmps11
  go_wp2_with fail
  generalize hW0 : World.alloc _ _ = w0
  have hR0 : GrAt w0 w.heap.size zeroGr := by rw [← hW0]; exact heap_alloc_new w _
  have hs0 : w0.heap.size = w.heap.size + 1 := by rw [← hW0, World.size_alloc]
  have hB0 : Below w.heap.size w w0 := by rw [← hW0]; exact (by ((repeat' (first | exact Below.refl _ _ | (refine Below.alloc ?_ ?_ _) | (refine Below.setCell ?_ ?_ _) | (refine Below.drew ?_) | (refine Below.trans ?_ (Below.mono (by assumption) ?_)))) <;> ((try simp only [World.size_alloc, World.size_setCell, World.size_drew] at *); omega)))
  clear hW0
  obtain ⟨R, hR⟩ : ∃ R, R = w0.heap.size := ⟨_, rfl⟩
  refine (OpenR_calls ⟨l.toArray⟩ w0).mono ?_
  rintro e w1 ⟨rfl, hr1, hB1⟩
  have hR1 := hR0.below hB1 (by omega)
  have hbel1 := hB0.trans (hB1.mono (by omega))
  have hz1 : R < w1.heap.size := by rw [hR]; exact hr1.cells.2.2.2.2
  rw [← hR] at hr1 ⊢
  have hRw : w.heap.size < R := by omega
  clear hB1 hR0 hB0 hs0 hR
  have Hhr1 := Lib.hid hr1
  clear hr1
  have HhR1 := Lib.hid hR1
  clear hR1
  have Hhbel1 := Lib.hid hbel1
  clear hbel1
  go_wp2_with fail
  generalize hWG : World.alloc _ _ = v0
  have hG0 : GrAt v0 w1.heap.size ⟨0, 0, 0, 0, []⟩ := by rw [← hWG]; exact heap_alloc_new w1 _
  have hba : Below w1.heap.size w1 v0 := by rw [← hWG]; exact (by ((repeat' (first | exact Below.refl _ _ | (refine Below.alloc ?_ ?_ _) | (refine Below.setCell ?_ ?_ _) | (refine Below.drew ?_) | (refine Below.trans ?_ (Below.mono (by assumption) ?_)))) <;> ((try simp only [World.size_alloc, World.size_setCell, World.size_drew] at *); omega)))
  have hbel0 := Hhbel1.out.trans (hba.mono Hhbel1.out.size)
  have hr0 : QAt v0 R l false := Hhr1.out.below hba hz1
  have hR0 := HhR1.out.below hba (by omega)
  obtain ⟨G, hG⟩ : ∃ G, G = w1.heap.size := ⟨_, rfl⟩
  rw [← hG] at hG0 ⊢
  have hRG : R < G := by omega
  have hGz : G < v0.heap.size := (Array.getElem?_eq_some_iff.1 hG0).1
  clear hWG hba hG
  have Hhr0 := Lib.hid hr0
  clear hr0
  have HhG0 := Lib.hid hG0
  clear hG0
  have HhR0 := Lib.hid hR0
  clear hR0
  have Hhbel0 := Lib.hid hbel0
  clear hbel0
  refine (rIntR_calls R l false v0 Hhr0.out (by omega)).mono ?_
  rintro e u1 ⟨rfl, hr, hg⟩
  obtain ⟨a, ha⟩ : ∃ x, x = rInt l false := ⟨_, rfl⟩
  have hla : a.2.1.length ≤ 1000000 := by rw [ha]; exact Nat.le_trans (rInt_left _ _) (by assumption)
  rw [← ha] at hr ⊢
  have hGu := gr_grown HhG0.out hg (by omega)
  have hRu := gr_grown HhR0.out hg (by omega)
  have hbu := Hhbel0.out.trans (grownBy_below hg (by omega) (by have := Hhbel0.out.size; omega))
  have hfz : u1.frozen? ⟨G, 0, none⟩ = false := cell_frozen hGu
  have hGz : G < u1.heap.size := (Array.getElem?_eq_some_iff.1 hGu).1
  clear hg
  have hr1 := qat_set hr (show R ≠ G by omega) 0 (.int .i64 a.1)
  have hG1 : GrAt (u1.setCell ⟨G, 0, none⟩ (.int .i64 a.1)) G ⟨a.1, 0, 0, 0, []⟩ := heap_setCell_same u1 G 0 _ 23 _ hGu
  have hR1 := gr_set hRu (show w.heap.size ≠ G by omega) 0 (.int .i64 a.1)
  have hbel1 : Below w.heap.size w (u1.setCell ⟨G, 0, none⟩ (.int .i64 a.1)) := Below.setCell hbu (show w.heap.size ≤ G by omega) _
  obtain ⟨z0, z1, z2, z3, z4⟩ := hGu.c
  clear hr hGu hRu hbu
  have Hhr1 := Lib.hid hr1
  clear hr1
  have HhG1 := Lib.hid hG1
  clear hG1
  have HhR1 := Lib.hid hR1
  clear hR1
  have Hhbel1 := Lib.hid hbel1
  clear hbel1
  have Hha := Lib.hid ha
  clear ha
  go_wp2_with fail
  have hr1 := Hhr1.out
  have hG1 := HhG1.out
  have hR1 := HhR1.out
  have hbel1 := Hhbel1.out
  clear hfz Hhr1 HhG1 HhR1 Hhbel1 hGz z0 z1 z2 z3 z4
  generalize u1.setCell ⟨G, 0, none⟩ (.int .i64 a.1) = v1 at *
  have hGz : G < v1.heap.size := (Array.getElem?_eq_some_iff.1 hG1).1
  have Hhr1 := Lib.hid hr1
  clear hr1
  have HhG1 := Lib.hid hG1
  clear hG1
  have HhR1 := Lib.hid hR1
  clear hR1
  have Hhbel1 := Lib.hid hbel1
  clear hbel1
  refine (rIntR_calls R a.2.1 a.2.2 v1 Hhr1.out (by omega)).mono ?_
  rintro e u2 ⟨rfl, hr, hg⟩
  obtain ⟨b, hb⟩ : ∃ x, x = rInt a.2.1 a.2.2 := ⟨_, rfl⟩
  have hlb : b.2.1.length ≤ 1000000 := by rw [hb]; exact Nat.le_trans (rInt_left _ _) (by assumption)
  rw [← hb] at hr ⊢
  have hGu := gr_grown HhG1.out hg (by omega)
  have hRu := gr_grown HhR1.out hg (by omega)
  have hbu := Hhbel1.out.trans (grownBy_below hg (by omega) (by have := Hhbel1.out.size; omega))
  have hfz : u2.frozen? ⟨G, 1, none⟩ = false := cell_frozen hGu
  have hGz : G < u2.heap.size := (Array.getElem?_eq_some_iff.1 hGu).1
  clear hg
  have hr2 := qat_set hr (show R ≠ G by omega) 1 (.int .i64 b.1)
  have hG2 : GrAt (u2.setCell ⟨G, 1, none⟩ (.int .i64 b.1)) G ⟨a.1, b.1, 0, 0, []⟩ := heap_setCell_same u2 G 1 _ 23 _ hGu
  have hR2 := gr_set hRu (show w.heap.size ≠ G by omega) 1 (.int .i64 b.1)
  have hbel2 : Below w.heap.size w (u2.setCell ⟨G, 1, none⟩ (.int .i64 b.1)) := Below.setCell hbu (show w.heap.size ≤ G by omega) _
  obtain ⟨z0, z1, z2, z3, z4⟩ := hGu.c
  clear hr hGu hRu hbu
  have Hhr2 := Lib.hid hr2
  clear hr2
  have HhG2 := Lib.hid hG2
  clear hG2
  have HhR2 := Lib.hid hR2
  clear hR2
  have Hhbel2 := Lib.hid hbel2
  clear hbel2
  have Hhb := Lib.hid hb
  clear hb
  go_wp2_with fail
  have hr2 := Hhr2.out
  have hG2 := HhG2.out
  have hR2 := HhR2.out
  have hbel2 := Hhbel2.out
  clear hfz Hhr2 HhG2 HhR2 Hhbel2 hGz z0 z1 z2 z3 z4
  generalize u2.setCell ⟨G, 1, none⟩ (.int .i64 b.1) = v2 at *
  have hGz : G < v2.heap.size := (Array.getElem?_eq_some_iff.1 hG2).1
  have Hhr2 := Lib.hid hr2
  clear hr2
  have HhG2 := Lib.hid hG2
  clear hG2
  have HhR2 := Lib.hid hR2
  clear hR2
  have Hhbel2 := Lib.hid hbel2
  clear hbel2
  refine (rIntR_calls R b.2.1 b.2.2 v2 Hhr2.out (by omega)).mono ?_
  rintro e u3 ⟨rfl, hr, hg⟩
  obtain ⟨c, hc⟩ : ∃ x, x = rInt b.2.1 b.2.2 := ⟨_, rfl⟩
  have hlc : c.2.1.length ≤ 1000000 := by rw [hc]; exact Nat.le_trans (rInt_left _ _) (by assumption)
  rw [← hc] at hr ⊢
  have hGu := gr_grown HhG2.out hg (by omega)
  have hRu := gr_grown HhR2.out hg (by omega)
  have hbu := Hhbel2.out.trans (grownBy_below hg (by omega) (by have := Hhbel2.out.size; omega))
  have hfz : u3.frozen? ⟨G, 2, none⟩ = false := cell_frozen hGu
  have hGz : G < u3.heap.size := (Array.getElem?_eq_some_iff.1 hGu).1
  clear hg
  have hr3 := qat_set hr (show R ≠ G by omega) 2 (.int .i64 c.1)
  have hG3 : GrAt (u3.setCell ⟨G, 2, none⟩ (.int .i64 c.1)) G ⟨a.1, b.1, c.1, 0, []⟩ := heap_setCell_same u3 G 2 _ 23 _ hGu
  have hR3 := gr_set hRu (show w.heap.size ≠ G by omega) 2 (.int .i64 c.1)
  have hbel3 : Below w.heap.size w (u3.setCell ⟨G, 2, none⟩ (.int .i64 c.1)) := Below.setCell hbu (show w.heap.size ≤ G by omega) _
  obtain ⟨z0, z1, z2, z3, z4⟩ := hGu.c
  clear hr hGu hRu hbu
  have Hhr3 := Lib.hid hr3
  clear hr3
  have HhG3 := Lib.hid hG3
  clear hG3
  have HhR3 := Lib.hid hR3
  clear hR3
  have Hhbel3 := Lib.hid hbel3
  clear hbel3
  have Hhc := Lib.hid hc
  clear hc
  go_wp2_with fail
  have hr3 := Hhr3.out
  have hG3 := HhG3.out
  have hR3 := HhR3.out
  have hbel3 := Hhbel3.out
  clear hfz Hhr3 HhG3 HhR3 Hhbel3 hGz z0 z1 z2 z3 z4
  generalize u3.setCell ⟨G, 2, none⟩ (.int .i64 c.1) = v3 at *
  have hGz : G < v3.heap.size := (Array.getElem?_eq_some_iff.1 hG3).1
  have Hhr3 := Lib.hid hr3
  clear hr3
  have HhG3 := Lib.hid hG3
  clear hG3
  have HhR3 := Lib.hid hR3
  clear hR3
  have Hhbel3 := Lib.hid hbel3
  clear hbel3
  refine (rIntR_calls R c.2.1 c.2.2 v3 Hhr3.out (by omega)).mono ?_
  rintro e u4 ⟨rfl, hr, hg⟩
  obtain ⟨d, hd⟩ : ∃ x, x = rInt c.2.1 c.2.2 := ⟨_, rfl⟩
  have hld : d.2.1.length ≤ 1000000 := by rw [hd]; exact Nat.le_trans (rInt_left _ _) (by assumption)
  rw [← hd] at hr ⊢
  have hGu := gr_grown HhG3.out hg (by omega)
  have hRu := gr_grown HhR3.out hg (by omega)
  have hbu := Hhbel3.out.trans (grownBy_below hg (by omega) (by have := Hhbel3.out.size; omega))
  have hfz : u4.frozen? ⟨G, 3, none⟩ = false := cell_frozen hGu
  have hGz : G < u4.heap.size := (Array.getElem?_eq_some_iff.1 hGu).1
  clear hg
  have hr4 := qat_set hr (show R ≠ G by omega) 3 (.int .i64 d.1)
  have hG4 : GrAt (u4.setCell ⟨G, 3, none⟩ (.int .i64 d.1)) G ⟨a.1, b.1, c.1, d.1, []⟩ := heap_setCell_same u4 G 3 _ 23 _ hGu
  have hR4 := gr_set hRu (show w.heap.size ≠ G by omega) 3 (.int .i64 d.1)
  have hbel4 : Below w.heap.size w (u4.setCell ⟨G, 3, none⟩ (.int .i64 d.1)) := Below.setCell hbu (show w.heap.size ≤ G by omega) _
  obtain ⟨z0, z1, z2, z3, z4⟩ := hGu.c
  clear hr hGu hRu hbu
  have Hhr4 := Lib.hid hr4
  clear hr4
  have HhG4 := Lib.hid hG4
  clear hG4
  have HhR4 := Lib.hid hR4
  clear hR4
  have Hhbel4 := Lib.hid hbel4
  clear hbel4
  have Hhd := Lib.hid hd
  clear hd
  go_wp2_with fail
  have hr4 := Hhr4.out
  have hG4 := HhG4.out
  have hR4 := HhR4.out
  have hbel4 := Hhbel4.out
  clear hfz Hhr4 HhG4 HhR4 Hhbel4 hGz z0 z1 z2 z3 z4
  generalize u4.setCell ⟨G, 3, none⟩ (.int .i64 d.1) = v4 at *
  have hGz : G < v4.heap.size := (Array.getElem?_eq_some_iff.1 hG4).1
  have Hhr4 := Lib.hid hr4
  clear hr4
  have HhG4 := Lib.hid hG4
  clear hG4
  have HhR4 := Lib.hid hR4
  clear hR4
  have Hhbel4 := Lib.hid hbel4
  clear hbel4
  refine (Text_readsR R d.2.1 d.2.2 v4 Hhr4.out (by omega)).mono ?_
  rintro e u5 ⟨rfl, hr, hg⟩
  obtain ⟨t, ht⟩ : ∃ x, x = rText d.2.1 d.2.2 := ⟨_, rfl⟩
  rw [← ht] at hr ⊢
  have hGu := gr_grown HhG4.out hg (by omega)
  have hRu := gr_grown HhR4.out hg (by omega)
  have hbu := Hhbel4.out.trans (grownBy_below hg (by omega) (by have := Hhbel4.out.size; omega))
  have hfz : u5.frozen? ⟨G, 4, none⟩ = false := cell_frozen hGu
  have hGz : G < u5.heap.size := (Array.getElem?_eq_some_iff.1 hGu).1
  clear hg
  have hr5 := qat_set hr (show R ≠ G by omega) 4 (.string ⟨t.1.toArray⟩)
  have hG5 : GrAt (u5.setCell ⟨G, 4, none⟩ (.string ⟨t.1.toArray⟩)) G ⟨a.1, b.1, c.1, d.1, t.1⟩ := heap_setCell_same u5 G 4 _ 23 _ hGu
  have hR5 := gr_set hRu (show w.heap.size ≠ G by omega) 4 (.string ⟨t.1.toArray⟩)
  have hbel5 : Below w.heap.size w (u5.setCell ⟨G, 4, none⟩ (.string ⟨t.1.toArray⟩)) := Below.setCell hbu (show w.heap.size ≤ G by omega) _
  obtain ⟨z0, z1, z2, z3, z4⟩ := hGu.c
  clear hr hGu hRu hbu
  have Hhr5 := Lib.hid hr5
  clear hr5
  have HhG5 := Lib.hid hG5
  clear hG5
  have HhR5 := Lib.hid hR5
  clear hR5
  have Hhbel5 := Lib.hid hbel5
  clear hbel5
  have Hht := Lib.hid ht
  clear ht
  go_wp2_with fail
  have hr5 := Hhr5.out
  have hG5 := HhG5.out
  have hR5 := HhR5.out
  have hbel5 := Hhbel5.out
  clear hfz Hhr5 HhG5 HhR5 Hhbel5 hGz z0 z1 z2 z3 z4
  generalize u5.setCell ⟨G, 4, none⟩ (.string ⟨t.1.toArray⟩) = v5 at *
  have hGz : G < v5.heap.size := (Array.getElem?_eq_some_iff.1 hG5).1
  obtain ⟨x, hx⟩ : ∃ x : Gr, x = ⟨a.1, b.1, c.1, d.1, t.1⟩ := ⟨_, rfl⟩
  have hall : readAll l = (x, t.2) := by rw [hx, Hht.out, Hhd.out, Hhc.out, Hhb.out, Hha.out]; rfl
  rw [← hx] at hG5
  have htag : x.tag.length ≤ 1000000 := by rw [hx]; show t.1.length ≤ _; rw [Hht.out]; exact Nat.le_trans (rText_short _ _) hld
  clear hx
  have hdone := DoneR_calls R t.2.1 t.2.2 v5 hr5
  have hgr : ∀ wx, Below v5.heap.size v5 wx → GrAt wx G x ∧ GrAt wx w.heap.size zeroGr := fun wx hx => ⟨hG5.below hx (by omega), hR5.below hx (by omega)⟩
  have hf := formedR_calls x v5 (by omega)
  have hro : readS l = if (!t.2.2 && t.2.1.isEmpty) && x.ok then (x, true) else (zeroGr, false) := by rw [readS, hall]
  obtain ⟨bad, hbad⟩ : ∃ B, B = t.2.2 := ⟨_, rfl⟩
  obtain ⟨emp, hemp⟩ : ∃ B, B = t.2.1.isEmpty := ⟨_, rfl⟩
  rw [← hbad, ← hemp] at hro hdone
  rw [show Gr.val x = .agg #[.int .i64 x.g, .int .i64 x.q, .int .i64 x.c, .int .i64 x.v, .string ⟨x.tag.toArray⟩] from rfl] at hf
  clear hbad hemp hr5
  cases hB : (!bad && emp)
  · rw [hB] at hdone hro
    rw [Bool.false_and, if_neg (by simp)] at hro
    clear hB
    have Hhdone := Lib.hid hdone
    clear hdone
    have Hhro := Lib.hid hro
    clear hro
    have Hhgr := Lib.hid hgr
    clear hgr
    have Hhf := Lib.hid hf
    clear hf
    have HhG5 := Lib.hid hG5
    clear hG5
    have HhR5 := Lib.hid hR5
    clear hR5
    have Hhbel5 := Lib.hid hbel5
    clear hbel5
    have Hhall := Lib.hid hall
    clear hall
    refine (Hhdone.out).mono ?_
    rintro e w8 ⟨rfl, rfl⟩
    go_wp2_with (refine wpList_store_row rfl 23 _ _ rfl w.heap.size zeroGr.cells rfl rfl 23 zeroGr.cells HhR5.out (sz23 _) rfl (gr_one _) ?_)
    refine bodyPost_ret (v := tupV zeroGr false) ?_ rfl ⟨by rw [Hhro.out], below_setRow Hhbel5.out (Nat.le_refl _) _⟩
    rw [results_cell_tmp (fn := Tryd.f11) rfl]
    show ((asAddr (.pointer (some ⟨w.heap.size, 0, none⟩))).run Tryd.prog _).andThen _ = _
    simp [asAddr, run_loadVar_row _ w.heap.size 23 23 zeroGr.cells (0, 0) _ (setRow_heap _ _ _ _ _ _ HhR5.out) und23 rfl (sz23 _), tupV]
  · rw [hB] at hdone hro
    rw [Bool.true_and] at hro
    clear hB
    cases hok : x.ok
    · rw [hok] at hf hro
      rw [if_neg (by simp)] at hro
      clear hok
      obtain ⟨z0, z1, z2, z3, z4⟩ := hG5.c
      have Hhdone := Lib.hid hdone
      clear hdone
      have Hhro := Lib.hid hro
      clear hro
      have Hhgr := Lib.hid hgr
      clear hgr
      have Hhf := Lib.hid hf
      clear hf
      have HhG5 := Lib.hid hG5
      clear hG5
      have HhR5 := Lib.hid hR5
      clear hR5
      have Hhbel5 := Lib.hid hbel5
      clear hbel5
      have Hhall := Lib.hid hall
      clear hall
      refine (Hhdone.out).mono ?_
      rintro e w8 ⟨rfl, rfl⟩
      go_wp2_with fail
      refine (Hhf.out).mono ?_
      rintro e w9 ⟨rfl, hB9⟩
      have hg9 := (Hhgr.out w9 hB9).2
      have hbel9 := Hhbel5.out.trans (hB9.mono Hhbel5.out.size)
      clear z0 z1 z2 z3 z4 hB9
      have Hhg9 := Lib.hid hg9
      clear hg9
      have Hhbel9 := Lib.hid hbel9
      clear hbel9
      go_wp2_with (refine wpList_store_row rfl 23 _ _ rfl w.heap.size zeroGr.cells rfl rfl 23 zeroGr.cells Hhg9.out (sz23 _) rfl (gr_one _) ?_)
      refine bodyPost_ret (v := tupV zeroGr false) ?_ rfl ⟨by rw [Hhro.out], below_setRow Hhbel9.out (Nat.le_refl _) _⟩
      rw [results_cell_tmp (fn := Tryd.f11) rfl]
      show ((asAddr (.pointer (some ⟨w.heap.size, 0, none⟩))).run Tryd.prog _).andThen _ = _
      simp [asAddr, run_loadVar_row _ w.heap.size 23 23 zeroGr.cells (0, 0) _ (setRow_heap _ _ _ _ _ _ Hhg9.out) und23 rfl (sz23 _), tupV]
    · rw [hok] at hf hro
      rw [if_pos rfl] at hro
      clear hok
      obtain ⟨z0, z1, z2, z3, z4⟩ := hG5.c
      have Hhdone := Lib.hid hdone
      clear hdone
      have Hhro := Lib.hid hro
      clear hro
      have Hhgr := Lib.hid hgr
      clear hgr
      have Hhf := Lib.hid hf
      clear hf
      have HhG5 := Lib.hid hG5
      clear hG5
      have HhR5 := Lib.hid hR5
      clear hR5
      have Hhbel5 := Lib.hid hbel5
      clear hbel5
      have Hhall := Lib.hid hall
      clear hall
      refine (Hhdone.out).mono ?_
      rintro e w8 ⟨rfl, rfl⟩
      go_wp2_with fail
      refine (Hhf.out).mono ?_
      rintro e w9 ⟨rfl, hB9⟩
      have hg9 := (Hhgr.out w9 hB9).2
      have hx9 := (Hhgr.out w9 hB9).1
      have hbel9 := Hhbel5.out.trans (hB9.mono Hhbel5.out.size)
      clear z0 z1 z2 z3 z4 hB9
      have Hhg9 := Lib.hid hg9
      clear hg9
      have Hhx9 := Lib.hid hx9
      clear hx9
      have Hhbel9 := Lib.hid hbel9
      clear hbel9
      go_wp2_with (first | (refine wpList_load_row rfl 23 _ rfl G rfl 23 x.cells (0, 0) _ Hhx9.out und23 rfl (sz23 x) ?_) | (refine wpList_store_row rfl 23 _ _ rfl w.heap.size x.cells rfl rfl 23 zeroGr.cells Hhg9.out (sz23 _) rfl (gr_one _) ?_))
      refine bodyPost_ret (v := tupV x true) ?_ rfl ⟨by rw [Hhro.out], below_setRow Hhbel9.out (Nat.le_refl _) _⟩
      rw [results_cell_tmp (fn := Tryd.f11) rfl]
      show ((asAddr (.pointer (some ⟨w.heap.size, 0, none⟩))).run Tryd.prog _).andThen _ = _
      simp [asAddr, run_loadVar_row _ w.heap.size 23 23 x.cells (0, 0) _ (setRow_heap _ _ _ _ _ _ Hhg9.out) und23 rfl (sz23 _), tupV]
end Go.Proofs.YtibhihobpehpbaaDoor
