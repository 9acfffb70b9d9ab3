/- The walk of WireBack. -/
import Derived.Test.YtiopehgghlfmgaaDoorPlain2
set_option linter.unusedSimpArgs false
set_option linter.unusedVariables false
namespace Go.Proofs.YtiopehgghlfmgaaDoor
open Go.RowKit

theorem bytes_back (s : ByteArray) : (⟨s.data.toList.toArray⟩ : ByteArray) = s := by
  apply ByteArray.ext; simp
theorem encTexts_len2 (l : List ByteArray) (h : ∀ x ∈ l, x.size ≤ 500) : (encTexts l).length ≤ 1003 * l.length + 1 := by
  have : ∀ l : List ByteArray, (∀ x ∈ l, x.size ≤ 500) → (l.flatMap (fun x => 1 :: encText x.data.toList)).length ≤ 1003 * l.length := by
    intro l
    induction l with
    | nil => simp
    | cons x l ih =>
      intro h
      have h1 := ih (fun y hy => h y (by simp [hy]))
      have h2 := h x (by simp)
      have h3 := encText_le x.data.toList
      rw [len_data] at h3
      have h4 : (encText x.data.toList).length = (x.data.toList.flatMap esc).length + 2 := by simp [encText]
      simp only [List.flatMap_cons, List.length_append, List.length_cons]
      omega
  have := this l h
  unfold encTexts
  simp only [List.length_append, List.length_cons, List.length_nil]
  omega
theorem encVal_len2 (v : Val) (h : Light1 v) (hn : In64 v.n) (hl : ∀ x ∈ v.l, In64 x) : (encVal v).length ≤ 60000 := by
  obtain ⟨h1, h2, h3, h4⟩ := h
  have e1 := encInt_len v.n hn
  have e2 := encText_le v.s.data.toList
  rw [len_data] at e2
  have e2' : (encText v.s.data.toList).length = (v.s.data.toList.flatMap esc).length + 2 := by simp [encText]
  have e3 := encNums_len v.l hl
  have e4 := encTexts_len2 v.t h4
  unfold encVal
  split
  · omega
  · split
    · omega
    · split
      · omega
      · omega
theorem encAll_len2 : ∀ l : List Val, (∀ v ∈ l, Light1 v ∧ In64 v.n ∧ ∀ x ∈ v.l, In64 x) → (encAll l).length ≤ 60000 * l.length
  | [], _ => by simp [encAll]
  | v :: l, h => by
    have h1 := encAll_len2 l (fun y hy => h y (by simp [hy]))
    obtain ⟨a, b, c⟩ := h v (by simp)
    have h2 := encVal_len2 v a b c
    have e : encAll (v :: l) = encVal v ++ encAll l := by simp [encAll]
    rw [e]
    simp only [List.length_append, List.length_cons]
    omega
theorem ValsAt.in64 {w : World} {v : Value} {l : List Val} (h : ValsAt w v l) : ∀ x ∈ l, In64 x.n ∧ ∀ y ∈ x.l, In64 y := by
  intro x hx
  obtain ⟨k, hk, rfl⟩ := List.getElem_of_mem hx
  obtain ⟨oa, cap, rfl, hm, hc⟩ := h
  obtain ⟨b, off, rfl, hlt, hc⟩ := hc (by omega)
  obtain ⟨vl, vt, d0, d1, d2, d3, d4, hil, hst, r1, r2, r3⟩ := hc k hk
  exact ⟨r2, hil.in64⟩
theorem ValsAt.later {w wr : World} {oa : Option Addr} {n cap : Nat} {l : List Val} (h : ValsAt w (.slice oa n cap) l) (hb : Below w.heap.size w wr) {k : Nat} (hk : k < l.length) :
    ∃ b off, oa = some ⟨b, off, none⟩ ∧ b < wr.heap.size ∧ ∃ vl vt, wr.cell? ⟨b, off + k * 5, none⟩ = some (.int .i64 l[k].kind) ∧ wr.cell? ⟨b, off + k * 5 + 1, none⟩ = some (.int .i64 l[k].n) ∧ wr.cell? ⟨b, off + k * 5 + 2, none⟩ = some (.string l[k].s) ∧
      wr.cell? ⟨b, off + k * 5 + 3, none⟩ = some vl ∧ wr.cell? ⟨b, off + k * 5 + 4, none⟩ = some vt ∧ IntsAt w vl l[k].l ∧ StrsAt w vt l[k].t ∧ In64 l[k].kind ∧ In64 l[k].n ∧ l[k].s.size ≤ 9223372036854775807 := by
  obtain ⟨-, b, off, rfl, hlt, vl, vt, d0, d1, d2, d3, d4, h5⟩ := h.at' hk
  have hc : ∀ j, wr.cell? ⟨b, j, none⟩ = w.cell? ⟨b, j, none⟩ := fun j => hb.cell (p := ⟨b, j, none⟩) hlt
  exact ⟨b, off, rfl, Nat.lt_of_lt_of_le hlt hb.size, vl, vt, by rw [hc]; exact d0, by rw [hc]; exact d1, by rw [hc]; exact d2, by rw [hc]; exact d3, by rw [hc]; exact d4, h5⟩
theorem SameNums_true (va vb : Value) (la lb : List Int) (w : World) (ha : IntsAt w va lb) (hb : IntsAt w vb lb) :
    Calls Tryd.prog 32 #[va, vb] w fun e w' => e = .returned (.bool true) ∧ Below w.heap.size w w' :=
  (SameNums_calls va vb lb lb w ha hb).mono fun e w' h => by rw [decide_eq_true rfl] at h; exact h
theorem SameTexts_true (va vb : Value) (la lb : List ByteArray) (w : World) (ha : StrsAt w va lb) (hb : StrsAt w vb lb) :
    Calls Tryd.prog 35 #[va, vb] w fun e w' => e = .returned (.bool true) ∧ Below w.heap.size w w' :=
  (SameTexts_calls va vb lb lb w ha hb).mono fun e w' h => by rw [decide_eq_true rfl] at h; exact h
theorem encAll_drop (l : List Val) (i : Nat) (h : i < l.length) : encAll (l.drop i) = encVal l[i] ++ encAll (l.drop (i + 1)) := by
  rw [List.drop_eq_getElem_cons h]; unfold encAll; rw [List.flatMap_cons]
theorem encVal0 {x : Val} (h : kd x = 0) : encVal x = encInt x.n := by unfold encVal; rw [if_pos h]
theorem encVal1 {x : Val} (h : kd x = 1) : encVal x = encText x.s.data.toList := by unfold encVal; rw [if_neg (by omega), if_pos h]
theorem encVal2 {x : Val} (h : kd x = 2) : encVal x = encNums x.l := by unfold encVal; rw [if_neg (by omega), if_neg (by omega), if_pos h]
theorem encVal3 {x : Val} (h : kd x = 3) : encVal x = encTexts x.t := by unfold encVal; rw [if_neg (by omega), if_neg (by omega), if_neg (by omega)]
theorem val_cell {w : World} {b : Nat} {x0 x1 x2 x3 x4 : Value} (h : w.heap[b]? = some (.cells #[x0, x1, x2, x3, x4] 28)) :
    w.cell? ⟨b, 0, none⟩ = some x0 ∧ w.cell? ⟨b, 1, none⟩ = some x1 ∧ w.cell? ⟨b, 2, none⟩ = some x2 ∧ w.cell? ⟨b, 3, none⟩ = some x3 ∧ w.cell? ⟨b, 4, none⟩ = some x4 :=
  ⟨by simp [World.cell?, h], by simp [World.cell?, h], by simp [World.cell?, h], by simp [World.cell?, h], by simp [World.cell?, h]⟩

set_option maxRecDepth 100000 in
set_option maxHeartbeats 2000000 in
theorem Back_calls (va : Value) (s1 : ByteArray) (l : List Val) (m : Int) (w : World) (ha : ValsAt w va l) (hs : s1.size ≤ 9223372036854775807) (hm : w.cell? ⟨0, 0, none⟩ = some (.int .i64 m)) (h0 : 0 < w.heap.size) :
    Calls Tryd.prog 6 #[va, .string s1] w fun e w' => e = .returned (.bool true) ∧ Below w.heap.size w w' := by
  obtain ⟨r, rfl⟩ : ∃ r : List UInt8, s1 = ⟨r.toArray⟩ := ⟨s1.data.toList, (bytes_back s1).symm⟩
  rw [str_size] at hs
  have ha0 := ha
  obtain ⟨oa, cap, rfl, hma, -⟩ := ha
  have Hha0 := Lib.hid ha0
  clear ha0
  have Hhm := Lib.hid hm
  clear hm
  go_enter Tryd.func6, Tryd.ntmps6
  go_wp2_with fail
  refine (small_calls m w Hhm.out h0).mono ?_
  rintro e w1 ⟨rfl, hB1⟩
  have hsz1 := hB1.size
  go_wp2_with fail
  refine (light_calls _ l w1 (Hha0.out.below hB1 (Nat.le_refl _))).mono ?_
  rintro e w1' ⟨b, rfl, hL, rfl⟩
  cases b
  · go_wp2_with fail
    go_ret
    exact ⟨rfl, hB1⟩
  have hL := hL rfl
  have hm1 : w1.cell? ⟨0, 0, none⟩ = some (.int .i64 m) := by rw [← Hhm.out]; exact hB1.cell (p := ⟨0, 0, none⟩) h0
  by_cases hr500 : r.length ≤ 500
  rotate_left
  · have HhL := Lib.hid hL
    clear hL
    have Hhm1 := Lib.hid hm1
    clear hm1
    go_wp2_with fail
    go_ret
    exact ⟨rfl, hB1⟩
  have HhL := Lib.hid hL
  clear hL
  have Hhm1 := Lib.hid hm1
  clear hm1
  go_wp2_with fail
  refine (all_calls _ l m w1 (Hha0.out.below hB1 (Nat.le_refl _)) HhL.out Hhm1.out (by omega)).mono ?_
  rintro e w2 ⟨rfl, hlen1, hB2⟩
  have hsz2 := hB2.size
  have hcat := cat_run (encAll l) r (by omega) w2
  go_wp2_with fail
  clear hcat
  go_wp2_with fail
  refine (Open_calls _ w2).mono ?_
  rintro e w3 ⟨rfl, hr3, hB3⟩
  have hsz3 := hB3.size
  have hlt3 := hr3.cells.2.2.2.2
  have hbel3 : Below w.heap.size w w3 := (by ((repeat' (first | exact Below.refl _ _ | (refine Below.alloc ?_ ?_ _) | (refine Below.setCell ?_ ?_ _) | (refine Below.drew ?_) | (refine Below.trans ?_ (Below.mono (by assumption) ?_)))) <;> ((try simp only [World.size_alloc, World.size_setCell, World.size_drew] at *); omega)))
  obtain ⟨R, hR⟩ : ∃ R, R = w2.heap.size := ⟨_, rfl⟩
  rw [← hR] at hr3 hlt3 ⊢
  have hwR : w.heap.size ≤ R := by omega
  have hr3' : ReaderAt w3 R (encAll l ++ r) false := by simpa using hr3
  clear hR hsz1 hsz2 hsz3 hB1 hB2 hB3 hr3
  have Hhr3' := Lib.hid hr3'
  clear hr3'
  go_wp2_with fail
  go_loopw [8, 9, 10] (fun s8 _ _ wr => ∃ i : Nat, s8 = .int .i64 i ∧ i ≤ l.length ∧ ReaderAt wr R (encAll (l.drop i) ++ r) false ∧ Below w.heap.size w wr) (fun s8 _ _ _ => l.length - (intOf s8).toNat)
  case atStart => exact ⟨0, rfl, by omega, Hhr3'.out, hbel3⟩
  case round =>
    obtain ⟨i, rfl, hi, hr, hbel⟩ := hrel
    have hsz := hbel.size
    have hRw := hr.cells.2.2.2.2
    by_cases hlt : i < l.length
    · obtain ⟨p, o, rfl, hp, vl, vt, d0, d1, d2, d3, d4, hil, hst, r1, r2, r3⟩ := Hha0.out.later hbel hlt
      have hlx := HhL.out.2 l[i] (List.getElem_mem hlt)
      have hi1 := hil.in64
      rw [encAll_drop l i hlt, List.append_assoc] at hr
      have hl20 := HhL.out.1
      have hdl : (encAll (l.drop (i + 1))).length ≤ 1200000 := by
        have := encAll_len2 (l.drop (i + 1)) (fun v hv => ⟨HhL.out.2 v (List.mem_of_mem_drop hv), Hha0.out.in64 v (List.mem_of_mem_drop hv)⟩)
        simp only [List.length_drop] at this
        omega
      generalize hrest : encAll (l.drop (i + 1)) ++ r = rest at *
      have hrl : rest.length ≤ 1200500 := by rw [← hrest]; simp only [List.length_append]; omega
      generalize l[i] = x at *
      obtain ⟨l1, l2, l3, l4⟩ := hlx
      obtain ⟨oal, capl, rfl⟩ : ∃ oa c, vl = .slice oa x.l.length c := by obtain ⟨x, c, e, _⟩ := hil; exact ⟨x, c, e⟩
      obtain ⟨oat, capt, rfl⟩ : ∃ oa c, vt = .slice oa x.t.length c := by obtain ⟨x, c, e, _⟩ := hst; exact ⟨x, c, e⟩
      have hand := i64_and3 x.kind
      have hk4 : kd x < 4 := by unfold kd; omega
      have hkm : x.kind % 4 = (kd x : Int) := by unfold kd; omega
      rw [hkm] at hand
      clear hkm hdl
      generalize hk : kd x = k at *
      have hbound := encInt_len x.n r2
      have hbound2 := encText_len x.s (by omega)
      have hbound3 := encNums_len x.l hi1
      have hbound4 := encTexts_len2 x.t l4
      have Hhr := Lib.hid hr
      clear hr
      have Hhil := Lib.hid hil
      clear hil
      have Hhst := Lib.hid hst
      clear hst
      have Hhi1 := Lib.hid hi1
      clear hi1
      have Hhrest := Lib.hid hrest
      clear hrest
      have Hhk := Lib.hid hk
      clear hk
      have Hl4 := Lib.hid l4
      clear l4
      have Hr2 := Lib.hid r2
      clear r2
      have hcase : k = 0 ∨ k = 1 ∨ k = 2 ∨ k = 3 := by omega
      clear hk4
      rcases hcase with rfl | rfl | rfl | rfl
      · go_wp2_with fail
        generalize hwb : wr.alloc (.cells #[.int .i64 x.kind, .int .i64 x.n, .string x.s, .slice oal x.l.length capl, .slice oat x.t.length capt] 28) = wb at *
        have hbox : wb.heap[wr.heap.size]? = some (.cells #[.int .i64 x.kind, .int .i64 x.n, .string x.s, .slice oal x.l.length capl, .slice oat x.t.length capt] 28) := by rw [← hwb]; exact heap_alloc_new wr _
        have hBb : Below wr.heap.size wr wb := by rw [← hwb]; exact (by ((repeat' (first | exact Below.refl _ _ | (refine Below.alloc ?_ ?_ _) | (refine Below.setCell ?_ ?_ _) | (refine Below.drew ?_) | (refine Below.trans ?_ (Below.mono (by assumption) ?_)))) <;> ((try simp only [World.size_alloc, World.size_setCell, World.size_drew] at *); omega)))
        have hszb : wb.heap.size = wr.heap.size + 1 := by rw [← hwb]; simp
        clear hwb
        have hrb := Hhr.out.below hBb hRw
        obtain ⟨x0, x1, x2, x3, x4⟩ := val_cell hbox
        have hkeep : ∀ w', wb.grownBy w' (some R) → w'.heap[wr.heap.size]? = some (.cells #[.int .i64 x.kind, .int .i64 x.n, .string x.s, .slice oal x.l.length capl, .slice oat x.t.length capt] 28) := fun w' hg => by
          rw [hg.block _ (by omega) (by intro e; simp at e; omega)]; exact hbox
        have Hhrb := Lib.hid hrb
        clear hrb
        have Hhbox := Lib.hid hbox
        clear hbox
        have Hhkeep := Lib.hid hkeep
        clear hkeep
        have hr2 := Hhrb.out
        rw [encVal0 Hhk.out] at hr2
        have hc : ∀ wx, ReaderAt wx R (encInt x.n ++ rest) false → Calls Tryd.prog 28 #[.pointer (some ⟨R, 0, none⟩)] wx fun e w' => e = .returned (.int .i64 x.n) ∧ ReaderAt w' R rest false ∧ wx.grownBy w' (some R) := fun wx hx =>
          (rInt_calls R _ false wx hx (by simp only [List.length_append]; omega)).mono fun e w' h => by rw [rInt_enc x.n rest false Hr2.out] at h; exact h
        have hcm : ∀ w', wb.grownBy w' (some R) → w'.cell? ⟨wr.heap.size, 1, none⟩ = some (.int .i64 x.n) := fun w' hg => (val_cell (Hhkeep.out w' hg)).2.1
        have Hhr2 := Lib.hid hr2
        clear hr2
        have Hhc := Lib.hid hc
        clear hc
        have Hhcm := Lib.hid hcm
        clear hcm
        go_wp2_with fail
        go_region_held3 (fun w' => w'.cell? ⟨wr.heap.size, 1, none⟩ = some (.int .i64 x.n)) (first | exact x1 | exact Hhcm.out _ (grownBy_trans (grownBy_drew (grownBy_refl _ _)) hg4)) (first | (go_at_call 28; refine (Hhc.out _ (by exact Hhr2.out)).mono ?_; rintro e w4 ⟨rfl, hr4, hg4⟩))
        replace hg4 : wb.grownBy w4 (some R) := grownBy_trans (grownBy_drew (grownBy_refl _ _)) hg4
        have hbel4 : Below w.heap.size w w4 := (hbel.trans (hBb.mono (by omega))).trans (grownBy_below hg4 hwR (by omega))
        rw [← Hhrest.out] at hr4
        have Hhr4 := Lib.hid hr4
        clear hr4
        go_wp2_with fail
        exact ⟨⟨i + 1, by go_num, by omega, Hhr4.out, hbel4⟩, by simp [intOf]; omega⟩
      · go_wp2_with fail
        generalize hwb : wr.alloc (.cells #[.int .i64 x.kind, .int .i64 x.n, .string x.s, .slice oal x.l.length capl, .slice oat x.t.length capt] 28) = wb at *
        have hbox : wb.heap[wr.heap.size]? = some (.cells #[.int .i64 x.kind, .int .i64 x.n, .string x.s, .slice oal x.l.length capl, .slice oat x.t.length capt] 28) := by rw [← hwb]; exact heap_alloc_new wr _
        have hBb : Below wr.heap.size wr wb := by rw [← hwb]; exact (by ((repeat' (first | exact Below.refl _ _ | (refine Below.alloc ?_ ?_ _) | (refine Below.setCell ?_ ?_ _) | (refine Below.drew ?_) | (refine Below.trans ?_ (Below.mono (by assumption) ?_)))) <;> ((try simp only [World.size_alloc, World.size_setCell, World.size_drew] at *); omega)))
        have hszb : wb.heap.size = wr.heap.size + 1 := by rw [← hwb]; simp
        clear hwb
        have hrb := Hhr.out.below hBb hRw
        obtain ⟨x0, x1, x2, x3, x4⟩ := val_cell hbox
        have hkeep : ∀ w', wb.grownBy w' (some R) → w'.heap[wr.heap.size]? = some (.cells #[.int .i64 x.kind, .int .i64 x.n, .string x.s, .slice oal x.l.length capl, .slice oat x.t.length capt] 28) := fun w' hg => by
          rw [hg.block _ (by omega) (by intro e; simp at e; omega)]; exact hbox
        have Hhrb := Lib.hid hrb
        clear hrb
        have Hhbox := Lib.hid hbox
        clear hbox
        have Hhkeep := Lib.hid hkeep
        clear hkeep
        have hr2 := Hhrb.out
        rw [encVal1 Hhk.out] at hr2
        have hc : ∀ wx, ReaderAt wx R (encText x.s.data.toList ++ rest) false → Calls Tryd.prog 30 #[.pointer (some ⟨R, 0, none⟩)] wx fun e w' => e = .returned (.string x.s) ∧ ReaderAt w' R rest false ∧ wx.grownBy w' (some R) := fun wx hx =>
          (Text_reads R _ false wx hx (by simp only [List.length_append]; omega)).mono fun e w' h => by rw [rText_enc, bytes_back] at h; exact h
        have hcm : ∀ w', wb.grownBy w' (some R) → w'.cell? ⟨wr.heap.size, 2, none⟩ = some (.string x.s) := fun w' hg => (val_cell (Hhkeep.out w' hg)).2.2.1
        have Hhr2 := Lib.hid hr2
        clear hr2
        have Hhc := Lib.hid hc
        clear hc
        have Hhcm := Lib.hid hcm
        clear hcm
        go_wp2_with fail
        go_region_held3 (fun w' => w'.cell? ⟨wr.heap.size, 2, none⟩ = some (.string x.s)) (first | exact x2 | exact Hhcm.out _ (grownBy_trans (grownBy_drew (grownBy_refl _ _)) hg4)) (first | (go_at_call 30; refine (Hhc.out _ (by exact Hhr2.out)).mono ?_; rintro e w4 ⟨rfl, hr4, hg4⟩))
        replace hg4 : wb.grownBy w4 (some R) := grownBy_trans (grownBy_drew (grownBy_refl _ _)) hg4
        have hbel4 : Below w.heap.size w w4 := (hbel.trans (hBb.mono (by omega))).trans (grownBy_below hg4 hwR (by omega))
        rw [← Hhrest.out] at hr4
        have Hhr4 := Lib.hid hr4
        clear hr4
        go_wp2_with fail
        exact ⟨⟨i + 1, by go_num, by omega, Hhr4.out, hbel4⟩, by simp [intOf]; omega⟩
      · go_wp2_with fail
        generalize hwb : wr.alloc (.cells #[.int .i64 x.kind, .int .i64 x.n, .string x.s, .slice oal x.l.length capl, .slice oat x.t.length capt] 28) = wb at *
        have hbox : wb.heap[wr.heap.size]? = some (.cells #[.int .i64 x.kind, .int .i64 x.n, .string x.s, .slice oal x.l.length capl, .slice oat x.t.length capt] 28) := by rw [← hwb]; exact heap_alloc_new wr _
        have hBb : Below wr.heap.size wr wb := by rw [← hwb]; exact (by ((repeat' (first | exact Below.refl _ _ | (refine Below.alloc ?_ ?_ _) | (refine Below.setCell ?_ ?_ _) | (refine Below.drew ?_) | (refine Below.trans ?_ (Below.mono (by assumption) ?_)))) <;> ((try simp only [World.size_alloc, World.size_setCell, World.size_drew] at *); omega)))
        have hszb : wb.heap.size = wr.heap.size + 1 := by rw [← hwb]; simp
        clear hwb
        have hrb := Hhr.out.below hBb hRw
        obtain ⟨x0, x1, x2, x3, x4⟩ := val_cell hbox
        have hkeep : ∀ w', wb.grownBy w' (some R) → w'.heap[wr.heap.size]? = some (.cells #[.int .i64 x.kind, .int .i64 x.n, .string x.s, .slice oal x.l.length capl, .slice oat x.t.length capt] 28) := fun w' hg => by
          rw [hg.block _ (by omega) (by intro e; simp at e; omega)]; exact hbox
        have Hhrb := Lib.hid hrb
        clear hrb
        have Hhbox := Lib.hid hbox
        clear hbox
        have Hhkeep := Lib.hid hkeep
        clear hkeep
        have hr2 := Hhrb.out
        rw [encVal2 Hhk.out] at hr2
        have hc : ∀ wx, ReaderAt wx R (encNums x.l ++ rest) false → Calls Tryd.prog 33 #[.pointer (some ⟨R, 0, none⟩)] wx fun e w' => ∃ v, e = .returned v ∧ IntsAt w' v x.l ∧ ReaderAt w' R rest false ∧ wx.grownBy w' (some R) := fun wx hx =>
          (Nums_reads R _ false wx hx (by simp) (by simp only [List.length_append]; omega)).mono fun e w' h => by
            obtain ⟨v, he, ho, hr, hg⟩ := h
            rw [rNums_enc x.l rest Hhi1.out] at ho hr
            exact ⟨v, he, IntsAt.of_owned ho Hhi1.out (by omega), hr, hg⟩
        have hcm : ∀ w', wb.grownBy w' (some R) → w'.cell? ⟨wr.heap.size, 3, none⟩ = some (.slice oal x.l.length capl) := fun w' hg => (val_cell (Hhkeep.out w' hg)).2.2.2.1
        have hsl : ∀ wx, Below w.heap.size w wx → IntsAt wx (.slice oal x.l.length capl) x.l := fun wx hx => Hhil.out.below hx (Nat.le_refl _)
        have hgo : ∀ wx, wb.drew.grownBy wx (some R) → Below w.heap.size w wx := fun wx hx => (hbel.trans (hBb.mono (by omega))).trans (grownBy_below (grownBy_trans (grownBy_drew (grownBy_refl _ _)) hx) hwR (by omega))
        have Hhr2 := Lib.hid hr2
        clear hr2
        have Hhc := Lib.hid hc
        clear hc
        have Hhcm := Lib.hid hcm
        clear hcm
        have Hhsl := Lib.hid hsl
        clear hsl
        have Hhgo := Lib.hid hgo
        clear hgo
        go_region_held3 (fun w' => w'.cell? ⟨wr.heap.size, 3, none⟩ = some (.slice oal x.l.length capl)) (first | exact x3 | exact Hhcm.out _ (grownBy_trans (grownBy_drew (grownBy_refl _ _)) hg4) | exact (hB5.cell (p := ⟨wr.heap.size, 3, none⟩) (by have := hg4.size; simp only [World.size_drew] at this; simp only; omega)).trans (Hhcm.out _ (grownBy_trans (grownBy_drew (grownBy_refl _ _)) hg4))) (first | (go_at_call 33; refine (Hhc.out _ (by exact Hhr2.out)).mono ?_; rintro e w4 ⟨v4, rfl, hi4, hr4, hg4⟩; have hb4 : Below w.heap.size w w4 := Hhgo.out _ hg4) | (go_at_call 32; refine (SameNums_true v4 _ x.l x.l _ (by exact hi4) (by exact Hhsl.out _ hb4)).mono ?_; rintro e w5 ⟨rfl, hB5⟩))
        replace hg4 : wb.grownBy w4 (some R) := grownBy_trans (grownBy_drew (grownBy_refl _ _)) hg4
        have hbel4 : Below w.heap.size w w4 := (hbel.trans (hBb.mono (by omega))).trans (grownBy_below hg4 hwR (by omega))
        have hsz4 := hbel4.size
        have hR4 := hr4.cells.2.2.2.2
        have hr5 : ReaderAt w5 R rest false := hr4.below hB5 hR4
        have hbel5 : Below w.heap.size w w5 := hbel4.trans (hB5.mono (by omega))
        rw [← Hhrest.out] at hr5
        have Hhr5 := Lib.hid hr5
        clear hr5
        go_wp2_with fail
        exact ⟨⟨i + 1, by go_num, by omega, Hhr5.out, hbel5⟩, by simp [intOf]; omega⟩
      · go_wp2_with fail
        generalize hwb : wr.alloc (.cells #[.int .i64 x.kind, .int .i64 x.n, .string x.s, .slice oal x.l.length capl, .slice oat x.t.length capt] 28) = wb at *
        have hbox : wb.heap[wr.heap.size]? = some (.cells #[.int .i64 x.kind, .int .i64 x.n, .string x.s, .slice oal x.l.length capl, .slice oat x.t.length capt] 28) := by rw [← hwb]; exact heap_alloc_new wr _
        have hBb : Below wr.heap.size wr wb := by rw [← hwb]; exact (by ((repeat' (first | exact Below.refl _ _ | (refine Below.alloc ?_ ?_ _) | (refine Below.setCell ?_ ?_ _) | (refine Below.drew ?_) | (refine Below.trans ?_ (Below.mono (by assumption) ?_)))) <;> ((try simp only [World.size_alloc, World.size_setCell, World.size_drew] at *); omega)))
        have hszb : wb.heap.size = wr.heap.size + 1 := by rw [← hwb]; simp
        clear hwb
        have hrb := Hhr.out.below hBb hRw
        obtain ⟨x0, x1, x2, x3, x4⟩ := val_cell hbox
        have hkeep : ∀ w', wb.grownBy w' (some R) → w'.heap[wr.heap.size]? = some (.cells #[.int .i64 x.kind, .int .i64 x.n, .string x.s, .slice oal x.l.length capl, .slice oat x.t.length capt] 28) := fun w' hg => by
          rw [hg.block _ (by omega) (by intro e; simp at e; omega)]; exact hbox
        have Hhrb := Lib.hid hrb
        clear hrb
        have Hhbox := Lib.hid hbox
        clear hbox
        have Hhkeep := Lib.hid hkeep
        clear hkeep
        have hr2 := Hhrb.out
        rw [encVal3 Hhk.out] at hr2
        have hc : ∀ wx, ReaderAt wx R (encTexts x.t ++ rest) false → Calls Tryd.prog 36 #[.pointer (some ⟨R, 0, none⟩)] wx fun e w' => ∃ v, e = .returned v ∧ StrsAt w' v x.t ∧ ReaderAt w' R rest false ∧ wx.grownBy w' (some R) := fun wx hx =>
          (Texts_reads R _ false wx hx (by simp) (by simp only [List.length_append]; omega)).mono fun e w' h => by
            obtain ⟨v, he, ho, hr, hg⟩ := h
            rw [rTexts_enc x.t rest] at ho hr
            have := StrsAt.of_owned ho (fun y hy => by simp only [List.mem_map] at hy; obtain ⟨z, hz, rfl⟩ := hy; have := Hl4.out z hz; rw [len_data]; omega) (by simp; omega)
            rw [List.map_map] at this
            have e : (bytesOf ∘ fun x => x.data.toList) = (id : ByteArray → ByteArray) := by funext z; exact bytes_back z
            rw [e, List.map_id] at this
            exact ⟨v, he, this, hr, hg⟩
        have hcm : ∀ w', wb.grownBy w' (some R) → w'.cell? ⟨wr.heap.size, 4, none⟩ = some (.slice oat x.t.length capt) := fun w' hg => (val_cell (Hhkeep.out w' hg)).2.2.2.2
        have hsl : ∀ wx, Below w.heap.size w wx → StrsAt wx (.slice oat x.t.length capt) x.t := fun wx hx => Hhst.out.below hx (Nat.le_refl _)
        have hgo : ∀ wx, wb.drew.grownBy wx (some R) → Below w.heap.size w wx := fun wx hx => (hbel.trans (hBb.mono (by omega))).trans (grownBy_below (grownBy_trans (grownBy_drew (grownBy_refl _ _)) hx) hwR (by omega))
        have Hhr2 := Lib.hid hr2
        clear hr2
        have Hhc := Lib.hid hc
        clear hc
        have Hhcm := Lib.hid hcm
        clear hcm
        have Hhsl := Lib.hid hsl
        clear hsl
        have Hhgo := Lib.hid hgo
        clear hgo
        go_region_held3 (fun w' => w'.cell? ⟨wr.heap.size, 4, none⟩ = some (.slice oat x.t.length capt)) (first | exact x4 | exact Hhcm.out _ (grownBy_trans (grownBy_drew (grownBy_refl _ _)) hg4) | exact (hB5.cell (p := ⟨wr.heap.size, 4, none⟩) (by have := hg4.size; simp only [World.size_drew] at this; simp only; omega)).trans (Hhcm.out _ (grownBy_trans (grownBy_drew (grownBy_refl _ _)) hg4))) (first | (go_at_call 36; refine (Hhc.out _ (by exact Hhr2.out)).mono ?_; rintro e w4 ⟨v4, rfl, hi4, hr4, hg4⟩; have hb4 : Below w.heap.size w w4 := Hhgo.out _ hg4) | (go_at_call 35; refine (SameTexts_true v4 _ x.t x.t _ (by exact hi4) (by exact Hhsl.out _ hb4)).mono ?_; rintro e w5 ⟨rfl, hB5⟩))
        replace hg4 : wb.grownBy w4 (some R) := grownBy_trans (grownBy_drew (grownBy_refl _ _)) hg4
        have hbel4 : Below w.heap.size w w4 := (hbel.trans (hBb.mono (by omega))).trans (grownBy_below hg4 hwR (by omega))
        have hsz4 := hbel4.size
        have hR4 := hr4.cells.2.2.2.2
        have hr5 : ReaderAt w5 R rest false := hr4.below hB5 hR4
        have hbel5 : Below w.heap.size w w5 := hbel4.trans (hB5.mono (by omega))
        rw [← Hhrest.out] at hr5
        have Hhr5 := Lib.hid hr5
        clear hr5
        go_wp2_with fail
        exact ⟨⟨i + 1, by go_num, by omega, Hhr5.out, hbel5⟩, by simp [intOf]; omega⟩
    · obtain rfl : i = l.length := by omega
      have hnil : encAll (l.drop l.length) ++ r = r := by rw [List.drop_length]; rfl
      rw [hnil] at hr
      have Hhr := Lib.hid hr
      clear hr
      have Hhnil := Lib.hid hnil
      clear hnil
      go_wp2_with fail
      refine (Left_calls R _ _ wr Hhr.out (by omega)).mono ?_
      rintro e w6 ⟨rfl, rfl⟩
      go_wp2_with fail
      refine (Done_calls R _ _ wr Hhr.out).mono ?_
      rintro e w6 ⟨rfl, rfl⟩
      have hem : (!false && r.isEmpty) = r.isEmpty := by simp
      cases r
      · go_wp2_with fail
        go_ret
        exact ⟨rfl, hbel⟩
      · go_wp2_with fail
        go_ret
        exact ⟨rfl, hbel⟩
end Go.Proofs.YtiopehgghlfmgaaDoor
