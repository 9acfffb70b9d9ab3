/- The walks of text, number, begins, compare. -/
import Derived.Test.YtiopehgghlfmgaaDoorPlain
set_option linter.unusedSimpArgs false
set_option linter.unusedVariables false
namespace Go.Proofs.YtiopehgghlfmgaaDoor
open Go.RowKit

theorem quiet_after {P : Program} {f : FuncId} {args : Array Value} {w : World} {a n : Nat} {v : Value}
    (h : Calls P f args (w.drewN (a + n)) fun e w' => e = .returned v ∧ w.drewN (a + n) = w') :
    Calls P f args (w.drewN (a + n)) fun e w'' => e = .returned v ∧ ∃ m, w'' = w.drewN (a + m) :=
  h.mono fun _ _ ⟨he, hm⟩ => ⟨he, n, hm.symm⟩
theorem quiet_first {P : Program} {f : FuncId} {args : Array Value} {w : World} {n : Nat} {v : Value}
    (h : Calls P f args (w.drewN n) fun e w' => e = .returned v ∧ w.drewN n = w') : Calls P f args (w.drewN n) fun e w'' => e = .returned v ∧ ∃ m, w'' = w.drewN m :=
  h.mono fun _ _ ⟨he, hm⟩ => ⟨he, n, hm.symm⟩

theorem number_calls (a b : Int) (w : World) : Calls Tryd.prog 48 #[.int .i64 a, .int .i64 b] w fun e w' => e = .returned (.int .i64 (cmpN a b)) ∧ w = w' := by
  have hE : cmpN a b = if a < b then -1 else if b < a then 1 else 0 := rfl
  generalize cmpN a b = c at *
  have HhE := Lib.hid hE
  clear hE
  go_enter Tryd.func48, Tryd.ntmps48
  go_wp2
  all_goals go_ret
  all_goals exact ⟨ret_int (by rw [HhE.out]; (repeat' split) <;> first | rfl | omega), rfl⟩

theorem text_calls (a b : ByteArray) (w : World) : Calls Tryd.prog 22 #[.string a, .string b] w fun e w' => e = .returned (.int .i64 (cmpT a.data.toList b.data.toList)) ∧ w = w' := by
  have hE : cmpT a.data.toList b.data.toList = if Op.bytesLess a.toList b.toList = true then -1 else if (a.toList == b.toList) = true then 0 else 1 := by
    unfold cmpT
    rw [ByteArray.toList_eq, ByteArray.toList_eq]
    simp
  generalize cmpT a.data.toList b.data.toList = c at *
  have HhE := Lib.hid hE
  clear hE
  go_enter Tryd.func22, Tryd.ntmps22
  go_wp2
  all_goals go_ret
  all_goals exact ⟨ret_int (by rw [HhE.out]; simp_all), rfl⟩

/-- a bool that says whether P -/
def BoolIff (P : Prop) (w : World) (e : Ending) (w' : World) : Prop := ∃ b : Bool, e = .returned (.bool b) ∧ (b = true ↔ P) ∧ w = w'

theorem head_extract (s : ByteArray) (k : Nat) (h : k ≤ s.size) : (s.extract 0 k).toList = s.data.toList.take k := by
  rw [ByteArray.toList_eq, ByteArray.data_extract]
  simp
theorem begins_calls (s t : ByteArray) (w : World) (hs : s.size ≤ 9223372036854775807) (ht : t.size ≤ 9223372036854775807) :
    Calls Tryd.prog 23 #[.string s, .string t] w (BoolIff (t.data.toList <+: s.data.toList) w) := by
  by_cases h : t.size ≤ s.size
  · have h1 : ¬ s.size < t.size := by omega
    have hc : ((s.extract 0 t.size).toList == t.toList) = decide (t.data.toList <+: s.data.toList) := by
      rw [head_extract s _ h, ByteArray.toList_eq]
      have hl : t.data.toList.length = t.size := len_data t
      by_cases hp : t.data.toList <+: s.data.toList
      · have := List.prefix_iff_eq_take.1 hp
        rw [hl] at this
        simp only [hp, decide_true, beq_iff_eq]
        exact this.symm
      · simp only [hp, decide_false]
        rw [beq_eq_false_iff_ne]
        intro e
        apply hp
        rw [List.prefix_iff_eq_take, hl, e]
    have Hhc := Lib.hid hc
    clear hc
    go_enter Tryd.func23, Tryd.ntmps23
    go_wp2_with fail
    generalize hB : ((s.extract 0 t.size).toList == t.toList) = B
    have hB2 : (B = true ↔ t.data.toList <+: s.data.toList) := by rw [← hB, Hhc.out]; simp
    clear hB
    have HhB2 := Lib.hid hB2
    clear hB2
    go_ret
    exact ⟨_, rfl, HhB2.out, rfl⟩
  · have hn : ¬ t.data.toList <+: s.data.toList := by
      intro hp
      have := hp.length_le
      rw [len_data, len_data] at this
      omega
    have Hhn := Lib.hid hn
    clear hn
    go_enter Tryd.func23, Tryd.ntmps23
    go_wp2_with fail
    go_ret
    exact ⟨false, rfl, by simp [Hhn.out], rfl⟩

theorem drop_cons' {α : Type} (l : List α) (i : Nat) (h : i < l.length) : l.drop i = l[i] :: l.drop (i + 1) := by rw [List.drop_eq_getElem_cons h]
theorem cmpL_eq {α : Type} [DecidableEq α] (cmp : α → α → Int) {a b : List α} {i : Nat} (ha : i < a.length) (hb : i < b.length) (e : a[i] = b[i]) : cmpL cmp (a.drop i) (b.drop i) = cmpL cmp (a.drop (i + 1)) (b.drop (i + 1)) := by
  rw [drop_cons' a i ha, drop_cons' b i hb, cmpL, if_pos e]
theorem cmpL_ne {α : Type} [DecidableEq α] (cmp : α → α → Int) {a b : List α} {i : Nat} (ha : i < a.length) (hb : i < b.length) (e : a[i] ≠ b[i]) : cmpL cmp (a.drop i) (b.drop i) = cmp a[i] b[i] := by
  rw [drop_cons' a i ha, drop_cons' b i hb, cmpL, if_neg e]
theorem cmpL_end {α : Type} [DecidableEq α] (cmp : α → α → Int) {a b : List α} {i : Nat} (ha : i ≤ a.length) (hb : i ≤ b.length) (e : ¬ (i < a.length ∧ i < b.length)) : cmpL cmp (a.drop i) (b.drop i) = cmpN a.length b.length := by
  by_cases h1 : i < a.length
  · have h2 : i = b.length := by omega
    subst h2
    rw [drop_cons' a _ h1, List.drop_length]
    unfold cmpN
    rw [if_neg (by omega), if_pos (by omega)]
    rfl
  · have h2 : i = a.length := by omega
    subst h2
    rw [List.drop_length]
    by_cases h3 : a.length < b.length
    · rw [drop_cons' b _ h3]
      unfold cmpN
      rw [if_pos (by omega)]
      rfl
    · have h4 : a.length = b.length := by omega
      rw [h4, List.drop_length]
      unfold cmpN
      rw [if_neg (by omega), if_neg (by omega)]
      rfl

theorem block_drewN {w : World} {b n : Nat} {o : Obj} (h : w.heap[b]? = some o) : (w.drewN n).heap[b]? = some o := h
theorem block_below {w w' : World} {b B : Nat} {o : Obj} (h : w.heap[b]? = some o) (hb : Below B w w') (hB : b < B) : w'.heap[b]? = some o := by rw [hb.block b hB]; exact h
theorem val_cells {w : World} {b : Nat} {x0 x1 x2 x3 x4 : Value} (h : w.heap[b]? = some (.cells #[x0, x1, x2, x3, x4] 28)) :
    w.cell? ⟨b, 0, none⟩ = some x0 ∧ w.cell? ⟨b, 1, none⟩ = some x1 ∧ w.cell? ⟨b, 2, none⟩ = some x2 ∧ w.cell? ⟨b, 3, none⟩ = some x3 ∧ w.cell? ⟨b, 4, none⟩ = some x4 :=
  ⟨by simp [World.cell?, h], by simp [World.cell?, h], by simp [World.cell?, h], by simp [World.cell?, h], by simp [World.cell?, h]⟩

set_option maxRecDepth 100000 in
set_option maxHeartbeats 1000000 in
theorem compare_calls (x y : Value) (a b : Val) (w : World) (ha : ValIs w x a) (hb : ValIs w y b) :
    Calls Tryd.prog 21 #[x, y] w fun e w' => e = .returned (.int .i64 (cmpV a b)) ∧ Below w.heap.size w w' := by
  obtain ⟨vl, vt, rfl, hil, hst, r1, r2, r3⟩ := ha
  obtain ⟨ul, ut, rfl, gil, gst, q1, q2, q3⟩ := hb
  have hand := i64_and3 a.kind
  have hk4 : kd a < 4 := by unfold kd; omega
  have hkm : a.kind % 4 = (kd a : Int) := by unfold kd; omega
  rw [hkm] at hand
  have hE : cmpV a b = if kd a = 0 then cmpN a.n b.n else if kd a = 1 then cmpT a.s.data.toList b.s.data.toList else if kd a = 2 then cmpL cmpN a.l b.l else cmpL cmpT (a.t.map fun x => x.data.toList) (b.t.map fun x => x.data.toList) := rfl
  clear hkm
  generalize kd a = k at *
  have hil0 := hil
  have hst0 := hst
  have gil0 := gil
  have gst0 := gst
  obtain ⟨oal, capl, rfl, hlm, -⟩ := hil
  obtain ⟨oat, capt, rfl, htm, -, -⟩ := hst
  obtain ⟨obl, capbl, rfl, glm, -⟩ := gil
  obtain ⟨obt, capbt, rfl, gtm, -, -⟩ := gst
  have hbox0 : ∀ o1 o2, ((w.alloc o1).alloc o2).heap[w.heap.size]? = some o1 := fun o1 o2 => block_below (heap_alloc_new w o1) ((Below.refl _ _).alloc (Nat.le_refl _) o2) (by simp)
  have hbox1 : ∀ o1 o2, ((w.alloc o1).alloc o2).heap[w.heap.size + 1]? = some o2 := fun o1 o2 => by simpa using heap_alloc_new (w.alloc o1) o2
  have HhE := Lib.hid hE
  clear hE
  have Hhil0 := Lib.hid hil0
  clear hil0
  have Hhst0 := Lib.hid hst0
  clear hst0
  have Hgil0 := Lib.hid gil0
  clear gil0
  have Hgst0 := Lib.hid gst0
  clear gst0
  have Hhbox0 := Lib.hid hbox0
  clear hbox0
  have Hhbox1 := Lib.hid hbox1
  clear hbox1
  have hcase : k = 0 ∨ k = 1 ∨ k = 2 ∨ k = 3 := by omega
  clear hk4
  rcases hcase with rfl | rfl | rfl | rfl
  · have hE2 : cmpV a b = cmpN a.n b.n := by rw [HhE.out]; rfl
    have HhE2 := Lib.hid hE2
    clear hE2
    go_enter Tryd.func21, Tryd.ntmps21
    go_wp2_with fail
    refine (number_calls _ _ _).mono ?_
    rintro e w' ⟨rfl, rfl⟩
    go_wp2_with fail
    go_ret
    rw [HhE2.out]
    exact ⟨rfl, (by ((repeat' (first | exact Below.refl _ _ | (refine Below.alloc ?_ ?_ _) | (refine Below.setCell ?_ ?_ _) | (refine Below.drew ?_) | (refine Below.trans ?_ (Below.mono (by assumption) ?_)))) <;> ((try simp only [World.size_alloc, World.size_setCell, World.size_drew] at *); omega)))⟩
  · have hE2 : cmpV a b = cmpT a.s.data.toList b.s.data.toList := by rw [HhE.out]; rfl
    have HhE2 := Lib.hid hE2
    clear hE2
    go_enter Tryd.func21, Tryd.ntmps21
    go_wp2_with fail
    refine (text_calls _ _ _).mono ?_
    rintro e w' ⟨rfl, rfl⟩
    go_wp2_with fail
    go_ret
    rw [HhE2.out]
    exact ⟨rfl, (by ((repeat' (first | exact Below.refl _ _ | (refine Below.alloc ?_ ?_ _) | (refine Below.setCell ?_ ?_ _) | (refine Below.drew ?_) | (refine Below.trans ?_ (Below.mono (by assumption) ?_)))) <;> ((try simp only [World.size_alloc, World.size_setCell, World.size_drew] at *); omega)))⟩
  · have hE2 : cmpV a b = cmpL cmpN a.l b.l := by rw [HhE.out]; rfl
    have HhE2 := Lib.hid hE2
    clear hE2
    go_enter Tryd.func21, Tryd.ntmps21
    go_wp2_with fail
    go_loopw [5] (fun s wr => ∃ i : Nat, s = .int .i64 i ∧ i ≤ a.l.length ∧ i ≤ b.l.length ∧ cmpL cmpN (a.l.drop i) (b.l.drop i) = cmpV a b ∧ wr.heap[w.heap.size]? = some (.cells #[.int .i64 a.kind, .int .i64 a.n, .string a.s, .slice oal a.l.length capl, .slice oat a.t.length capt] 28) ∧ wr.heap[w.heap.size + 1]? = some (.cells #[.int .i64 b.kind, .int .i64 b.n, .string b.s, .slice obl b.l.length capbl, .slice obt b.t.length capbt] 28) ∧ Below w.heap.size w wr) (fun s _ => a.l.length - (intOf s).toNat)
    case atStart => exact ⟨0, rfl, by omega, by omega, HhE2.out.symm, Hhbox0.out _ _, Hhbox1.out _ _, (by ((repeat' (first | exact Below.refl _ _ | (refine Below.alloc ?_ ?_ _) | (refine Below.setCell ?_ ?_ _) | (refine Below.drew ?_) | (refine Below.trans ?_ (Below.mono (by assumption) ?_)))) <;> ((try simp only [World.size_alloc, World.size_setCell, World.size_drew] at *); omega)))⟩
    case round =>
      obtain ⟨i, rfl, hi1, hi2, hc, hA, hB, hbel⟩ := hrel
      have hsz := hbel.size
      obtain ⟨a0, a1, a2, a3, a4⟩ := val_cells hA
      obtain ⟨b0, b1, b2, b3, b4⟩ := val_cells hB
      by_cases hboth : i < a.l.length ∧ i < b.l.length
      · obtain ⟨h1, h2⟩ := hboth
        obtain ⟨-, p, o, rfl, _, hca⟩ := (Hhil0.out.below hbel (Nat.le_refl _)).at' h1
        obtain ⟨-, p2, o2, rfl, _, hcb⟩ := (Hgil0.out.below hbel (Nat.le_refl _)).at' h2
        have hstep := cmpL_eq cmpN (a := a.l) (b := b.l) (i := i) (by  omega) (by  omega)
        have hstop := cmpL_ne cmpN (a := a.l) (b := b.l) (i := i) (by  omega) (by  omega)
        rw [← nth_eq _ _ h1, ← nth_eq _ _ h2] at hstep hstop
        generalize nth a.l i = ea at *
        generalize nth b.l i = eb at *
        have Hhc := Lib.hid hc
        clear hc
        have HhA := Lib.hid hA
        clear hA
        have HhB := Lib.hid hB
        clear hB
        have Hhstep := Lib.hid hstep
        clear hstep
        have Hhstop := Lib.hid hstop
        clear hstop
        go_wp2_with fail
        go_quiet (fail)
        generalize hB2 : (ea != eb) = Bq
        replace hB2 : Bq = !decide (ea = eb) := by rw [← hB2]; by_cases h : ea = eb <;> simp [h]
        by_cases he : ea = eb
        · rw [decide_eq_true he] at hB2
          subst hB2
          have Hhe := Lib.hid he
          clear he
          go_wp2_with fail
          exact ⟨⟨i + 1, by go_num, by omega, by omega, (Hhstep.out Hhe.out).symm.trans Hhc.out, block_drewN HhA.out, block_drewN HhB.out, below_drewN hbel _⟩, by simp [intOf]; omega⟩
        · rw [decide_eq_false he] at hB2
          subst hB2
          have Hhe := Lib.hid he
          clear he
          go_wp2_with fail
          go_quiet ((go_at_call 48; exact quiet_after (number_calls _ _ _)))
          go_wp2_with fail
          go_ret
          refine ⟨ret_int ?_, below_drewN (below_drewN hbel _) _⟩
          have h1 := Hhstop.out Hhe.out
          have h2 := Hhc.out
          rw [h1] at h2
          rw [← h2]
      · have hend := cmpL_end cmpN (a := a.l) (b := b.l) (i := i) (by  omega) (by  omega) (by  omega)
        rw [hc] at hend
        have Hhc := Lib.hid hc
        clear hc
        have HhA := Lib.hid hA
        clear hA
        have HhB := Lib.hid hB
        clear hB
        have Hhend := Lib.hid hend
        clear hend
        by_cases h1 : i < a.l.length
        · have h2 : ¬ i < b.l.length := by omega
          go_wp2_with fail
          refine (number_calls _ _ _).mono ?_
          rintro e w' ⟨rfl, rfl⟩
          go_wp2_with fail
          go_ret
          rw [Hhend.out]
          exact ⟨rfl, hbel⟩
        · go_wp2_with fail
          refine (number_calls _ _ _).mono ?_
          rintro e w' ⟨rfl, rfl⟩
          go_wp2_with fail
          go_ret
          rw [Hhend.out]
          exact ⟨rfl, hbel⟩
  · have hE2 : cmpV a b = cmpL cmpT (a.t.map fun x => x.data.toList) (b.t.map fun x => x.data.toList) := by rw [HhE.out]; rfl
    have HhE2 := Lib.hid hE2
    clear hE2
    go_enter Tryd.func21, Tryd.ntmps21
    go_wp2_with fail
    go_loopw [6] (fun s wr => ∃ i : Nat, s = .int .i64 i ∧ i ≤ a.t.length ∧ i ≤ b.t.length ∧ cmpL cmpT ((a.t.map fun x => x.data.toList).drop i) ((b.t.map fun x => x.data.toList).drop i) = cmpV a b ∧ wr.heap[w.heap.size]? = some (.cells #[.int .i64 a.kind, .int .i64 a.n, .string a.s, .slice oal a.l.length capl, .slice oat a.t.length capt] 28) ∧ wr.heap[w.heap.size + 1]? = some (.cells #[.int .i64 b.kind, .int .i64 b.n, .string b.s, .slice obl b.l.length capbl, .slice obt b.t.length capbt] 28) ∧ Below w.heap.size w wr) (fun s _ => a.t.length - (intOf s).toNat)
    case atStart => exact ⟨0, rfl, by omega, by omega, HhE2.out.symm, Hhbox0.out _ _, Hhbox1.out _ _, (by ((repeat' (first | exact Below.refl _ _ | (refine Below.alloc ?_ ?_ _) | (refine Below.setCell ?_ ?_ _) | (refine Below.drew ?_) | (refine Below.trans ?_ (Below.mono (by assumption) ?_)))) <;> ((try simp only [World.size_alloc, World.size_setCell, World.size_drew] at *); omega)))⟩
    case round =>
      obtain ⟨i, rfl, hi1, hi2, hc, hA, hB, hbel⟩ := hrel
      have hsz := hbel.size
      obtain ⟨a0, a1, a2, a3, a4⟩ := val_cells hA
      obtain ⟨b0, b1, b2, b3, b4⟩ := val_cells hB
      by_cases hboth : i < a.t.length ∧ i < b.t.length
      · obtain ⟨h1, h2⟩ := hboth
        obtain ⟨-, p, o, rfl, _, hca⟩ := (Hhst0.out.below hbel (Nat.le_refl _)).at' h1
        obtain ⟨-, p2, o2, rfl, _, hcb⟩ := (Hgst0.out.below hbel (Nat.le_refl _)).at' h2
        have hstep := cmpL_eq cmpT (a := (a.t.map fun x => x.data.toList)) (b := (b.t.map fun x => x.data.toList)) (i := i) (by simp; omega) (by simp; omega)
        have hstop := cmpL_ne cmpT (a := (a.t.map fun x => x.data.toList)) (b := (b.t.map fun x => x.data.toList)) (i := i) (by simp; omega) (by simp; omega)
        simp only [List.getElem_map] at hstep hstop
        generalize a.t[i] = ea at *
        generalize b.t[i] = eb at *
        have Hhc := Lib.hid hc
        clear hc
        have HhA := Lib.hid hA
        clear hA
        have HhB := Lib.hid hB
        clear hB
        have Hhstep := Lib.hid hstep
        clear hstep
        have Hhstop := Lib.hid hstop
        clear hstop
        go_wp2_with fail
        go_quiet (fail)
        generalize hB2 : (ea.toList == eb.toList) = Bq
        replace hB2 : Bq = decide (ea = eb) := by rw [← hB2]; exact bytes_eq
        by_cases he : ea = eb
        · rw [decide_eq_true he] at hB2
          subst hB2
          have Hhe := Lib.hid he
          clear he
          go_wp2_with fail
          exact ⟨⟨i + 1, by go_num, by omega, by omega, (Hhstep.out (by rw [Hhe.out])).symm.trans Hhc.out, block_drewN HhA.out, block_drewN HhB.out, below_drewN hbel _⟩, by simp [intOf]; omega⟩
        · rw [decide_eq_false he] at hB2
          subst hB2
          have Hhe := Lib.hid he
          clear he
          go_wp2_with fail
          go_quiet ((go_at_call 22; exact quiet_after (text_calls _ _ _)))
          go_wp2_with fail
          go_ret
          refine ⟨ret_int ?_, below_drewN (below_drewN hbel _) _⟩
          have h1 := Hhstop.out (fun e => Hhe.out (ByteArray.ext (Array.toList_inj.1 e)))
          have h2 := Hhc.out
          rw [h1] at h2
          rw [← h2]
      · have hend := cmpL_end cmpT (a := (a.t.map fun x => x.data.toList)) (b := (b.t.map fun x => x.data.toList)) (i := i) (by simp; omega) (by simp; omega) (by simp; omega)
        rw [hc] at hend
        have Hhc := Lib.hid hc
        clear hc
        have HhA := Lib.hid hA
        clear hA
        have HhB := Lib.hid hB
        clear hB
        have Hhend := Lib.hid hend
        clear hend
        by_cases h1 : i < a.t.length
        · have h2 : ¬ i < b.t.length := by omega
          go_wp2_with fail
          refine (number_calls _ _ _).mono ?_
          rintro e w' ⟨rfl, rfl⟩
          go_wp2_with fail
          go_ret
          rw [Hhend.out]
          exact ⟨by simp, hbel⟩
        · go_wp2_with fail
          refine (number_calls _ _ _).mono ?_
          rintro e w' ⟨rfl, rfl⟩
          go_wp2_with fail
          go_ret
          rw [Hhend.out]
          exact ⟨by simp, hbel⟩
end Go.Proofs.YtiopehgghlfmgaaDoor
