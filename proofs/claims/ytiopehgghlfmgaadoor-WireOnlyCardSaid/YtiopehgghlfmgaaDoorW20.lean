/- The walk of WireOnly. -/
import Derived.Test.YtiopehgghlfmgaaDoorW16
import Derived.Test.YtiopehgghlfmgaaDoorPlain2
set_option linter.unusedSimpArgs false
set_option linter.unusedVariables false
namespace Go.Proofs.YtiopehgghlfmgaaDoor
open Go.RowKit

theorem dead_int : rInt [] true = (0, [], true) := rfl
theorem dead_num : rNum [] true = (0, [], true) := rfl
theorem dead_text : rText [] true = ([], [], true) := rfl
theorem dead_nums : rNums [] true = ([], [], true) := rfl
theorem dead_texts : rTexts [] true = ([], [], true) := rfl
theorem rNum_in64 (s : List UInt8) (bad : Bool) : In64 (rNum s bad).1 := by
  unfold rNum
  split
  · simp [In64]
  · exact rInt_in64 s bad
theorem rNum_bad (s : List UInt8) (h : (rNum s false).2.2 = true) : rNum s false = (0, [], true) := by
  unfold rNum at *
  split
  · rfl
  · rename_i h1
    rw [if_neg h1] at h
    exact rInt_bad s h
theorem rList_bad {α : Type} (one : List UInt8 → α × List UInt8 × Bool) : ∀ (f : Nat) (s : List UInt8) (acc : List α), (rList one f s acc).2.2 = true → rList one f s acc = ([], [], true)
  | 0, s, acc, _ => rfl
  | f + 1, [], acc, _ => rfl
  | f + 1, x :: t, acc, h => by
    by_cases hx : x = 0
    · subst hx; rw [rList_last] at h; simp at h
    · by_cases hx1 : x = 1
      · subst hx1
        by_cases hb : (one t).2.2 = true
        · exact rList_stop _ _ _ _ hb
        · have hb' : (one t).2.2 = false := by simpa using hb
          rw [rList_more _ _ _ _ hb'] at h ⊢
          exact rList_bad one f _ _ h
      · exact rList_fail _ _ _ _ _ hx hx1
theorem rNums_bad (s : List UInt8) (h : (rNums s false).2.2 = true) : rNums s false = ([], [], true) := by
  unfold rNums rLists at *
  rw [if_neg (by simp)] at h ⊢
  exact rList_bad _ _ _ _ h
theorem rTexts_bad (s : List UInt8) (h : (rTexts s false).2.2 = true) : rTexts s false = ([], [], true) := by
  unfold rTexts rLists at *
  rw [if_neg (by simp)] at h ⊢
  exact rList_bad _ _ _ _ h
theorem TextL_calls (s : List UInt8) (m : Int) (w : World) (hs : s.length ≤ 1000000) (hm : w.cell? ⟨0, 0, none⟩ = some (.int .i64 m)) :
    Calls Tryd.prog 14 #[.string ⟨s.toArray⟩] w fun e w' => e = .returned (.string ⟨(encText s).toArray⟩) ∧ Below w.heap.size w w' := by
  have := Text_calls ⟨s.toArray⟩ m w (by rw [str_size]; exact hs) hm
  simpa using this
theorem append_cancel {g x y z : List UInt8} (h : g ++ x = z) (hp : g ++ y <+: z) (hl : (g ++ y).length = z.length) : x = y := by
  have := hp.eq_of_length hl
  rw [← h] at this
  exact (List.append_cancel_left this).symm
theorem bytes_list (s : ByteArray) : ∃ r : List UInt8, s = ⟨r.toArray⟩ := ⟨s.data.toList, by apply ByteArray.ext; simp⟩

set_option maxRecDepth 100000 in
set_option maxHeartbeats 10000000 in
theorem Only_calls (s : ByteArray) (v : Value) (l : List UInt8) (m : Int) (w : World) (hl : U8sAt w v l) (hs : s.size ≤ 9223372036854775807) (hm : w.cell? ⟨0, 0, none⟩ = some (.int .i64 m)) (h0 : 0 < w.heap.size) :
    Calls Tryd.prog 7 #[.string s, v] w fun e w' => e = .returned (.bool true) ∧ Below w.heap.size w w' := by
  obtain ⟨s0, rfl⟩ := bytes_list s
  rw [str_size] at hs
  have hl0 := hl
  obtain ⟨oa, cap, rfl, hmx, -⟩ := hl
  have Hhl0 := Lib.hid hl0
  clear hl0
  have Hhm := Lib.hid hm
  clear hm
  go_enter Tryd.func7, Tryd.ntmps7
  go_wp2_with fail
  refine (small_calls m w Hhm.out h0).mono ?_
  rintro e w1 ⟨rfl, hB1⟩
  have hsz1 := hB1.size
  by_cases hs1 : s0.length ≤ 1000
  rotate_left
  · go_wp2_with fail
    go_ret
    exact ⟨rfl, hB1⟩
  by_cases hl1 : l.length ≤ 30
  rotate_left
  · go_wp2_with fail
    go_ret
    exact ⟨rfl, hB1⟩
  go_wp2_with fail
  go_wp2_with fail
  refine (Open_calls _ w1).mono ?_
  rintro e w2 ⟨rfl, hr2, hB2⟩
  have hsz2 := hB2.size
  have hlt2 := hr2.cells.2.2.2.2
  have hbel2 : Below w.heap.size w w2 := (by ((repeat' (first | exact Below.refl _ _ | (refine Below.alloc ?_ ?_ _) | (refine Below.setCell ?_ ?_ _) | (refine Below.drew ?_) | (refine Below.trans ?_ (Below.mono (by assumption) ?_)))) <;> ((try simp only [World.size_alloc, World.size_setCell, World.size_drew] at *); omega)))
  obtain ⟨R, hR⟩ : ∃ R, R = w1.heap.size := ⟨_, rfl⟩
  rw [← hR] at hr2 hlt2 ⊢
  have hwR : w.heap.size ≤ R := by omega
  have hr2' : ReaderAt w2 R s0 false := by simpa using hr2
  clear hR hsz1 hsz2 hB1 hB2 hr2
  have Hhr2' := Lib.hid hr2'
  clear hr2'
  go_wp2_with fail
  go_loopw [7, 8, 9] (fun s7 s8 _ wr => ∃ (i : Nat) (g s' : List UInt8), s8 = .int .i64 i ∧ s7 = .string ⟨g.toArray⟩ ∧ i ≤ l.length ∧ g ++ s' = s0 ∧ ReaderAt wr R s' false ∧ Below w.heap.size w wr) (fun _ s8 _ _ => l.length - (intOf s8).toNat)
  case atStart => exact ⟨0, [], s0, rfl, rfl, by omega, rfl, Hhr2'.out, hbel2⟩
  case round =>
    obtain ⟨i, g, s', rfl, rfl, hi, hgs, hr, hbel⟩ := hrel
    have hsz := hbel.size
    have hRw := hr.cells.2.2.2.2
    have hgl : g.length + s'.length = s0.length := by rw [← hgs]; simp
    have hgle : g.length ≤ 1000 := by omega
    have hgle2 : g.length ≤ s0.length := by omega
    have hsle : s'.length ≤ 1000 := by omega
    have Hhr := Lib.hid hr
    clear hr
    have Hhgs := Lib.hid hgs
    clear hgs
    by_cases hlt : i < l.length
    · obtain ⟨-, p, o, rfl, hp, hc⟩ := (Hhl0.out.below hbel (Nat.le_refl _)).at' hlt
      have hc0 : (0 : Int) ≤ (l[i].toNat : Int) := by omega
      have hc1 : (l[i].toNat : Int) ≤ 255 := by have := l[i].toNat_lt; omega
      have hm1 : wr.cell? ⟨0, 0, none⟩ = some (.int .i64 m) := by rw [← Hhm.out]; exact hbel.cell (p := ⟨0, 0, none⟩) h0
      have Hhm1 := Lib.hid hm1
      clear hm1
      generalize (l[i].toNat : Int) = c at *
      have hcase : c % 5 = 0 ∨ c % 5 = 1 ∨ c % 5 = 2 ∨ c % 5 = 3 ∨ c % 5 = 4 := by omega
      rcases hcase with h5 | h5 | h5 | h5 | h5
      · have hctr := rNum_calls R s' false wr Hhr.out (by omega)
        have hback := rNum_back (s := s')
        have hbadl := rNum_bad s'
        have hzero := show (rNum (encNum 0) false).2.2 = false from by decide +kernel
        have hin := rNum_in64 s' false
        rcases hx : rNum s' false with ⟨z, s2, b2⟩
        rw [hx] at hctr hback hbadl hin
        simp only at hctr hback hbadl hin
        have Hhctr := Lib.hid hctr
        clear hctr
        have Hhback := Lib.hid hback
        clear hback
        have Hhbadl := Lib.hid hbadl
        clear hbadl
        have Hhzero := Lib.hid hzero
        clear hzero
        have Hhin := Lib.hid hin
        clear hin
        have Hhx := Lib.hid hx
        clear hx
        go_wp2_with fail
        refine Hhctr.out.mono ?_
        rintro e w4 ⟨rfl, hr4, hg4⟩
        have hsz4 := hg4.size
        have hRw4 := hr4.cells.2.2.2.2
        have hbel4 : Below w.heap.size w w4 := hbel.trans (grownBy_below hg4 hwR hsz)
        have hm4 : w4.cell? ⟨0, 0, none⟩ = some (.int .i64 m) := by rw [← Hhm.out]; exact hbel4.cell (p := ⟨0, 0, none⟩) h0

        have Hhr4 := Lib.hid hr4
        clear hr4
        have Hhm4 := Lib.hid hm4
        clear hm4
        go_wp2_with fail
        refine (Num_calls z w4 Hhin.out).mono ?_
        rintro e w5 ⟨rfl, hB5⟩
        have hsz5 := hB5.size
        have hr5 := Hhr4.out.below hB5 hRw4
        have hbel5 : Below w.heap.size w w5 := hbel4.trans (hB5.mono (by omega))
        clear Hhr4 Hhm4 hB5 hg4 Hhctr Hhin 
        have Hhr5 := Lib.hid hr5
        clear hr5
        cases b2
        · have hgood := Hhback.out (by simp)
          have hgl2 : g.length + ((encNum z).length + s2.length) = s0.length := by rw [← hgl, hgood]; simp only [List.length_append]
          have hpre : g ++ (encNum z) <+: s0 := ⟨s2, by rw [← Hhgs.out, hgood, List.append_assoc]⟩
          have hgs2 : (g ++ (encNum z)) ++ s2 = s0 := by rw [List.append_assoc, ← hgood]; exact Hhgs.out
          have hcat := cat_run g (encNum z) (by omega) w5
          have hgel : (g ++ (encNum z)).length = g.length + (encNum z).length := by simp
          generalize g ++ (encNum z) = g2 at *
          clear hgood
          have hle : (g2.length : Int) ≤ s0.length := by omega
          have hsub : (s2.length : Int) = (s0.length : Int) - g2.length := by omega
          have hsb : ((s2.length : Int) == (s0.length : Int) - g2.length) = true := by rw [hsub]; simp
          have hs2l : s2.length ≤ 1000 := by omega
          have hg2l : g2.length ≤ 1000 := by omega
          clear hgel hsub hgl2
          have Hgl := Lib.hid hgl
          clear hgl
          have Hhpre := Lib.hid hpre
          clear hpre
          have Hhgs2 := Lib.hid hgs2
          clear hgs2
          go_wp2_with fail
          refine (Left_calls R _ _ w5 Hhr5.out (by omega)).mono ?_
          rintro e w6 ⟨rfl, rfl⟩
          go_wp2_with fail
          refine (begins_list _ _ _ (by omega) (by omega)).mono ?_
          rintro e w6 ⟨b1, rfl, hb1, rfl⟩
          obtain rfl : b1 = true := hb1.2 Hhpre.out
          clear hb1
          go_wp2_with fail
          exact ⟨⟨i + 1, g2, s2, by go_num, rfl, by omega, Hhgs2.out, Hhr5.out, hbel5⟩, by simp [intOf]; omega⟩
        · have hbad := Hhbadl.out (by simp)
          obtain ⟨hz, rfl⟩ : z = 0 ∧ s2 = [] := by simpa using hbad
          subst hz
          clear hbad
          have hne : s' ≠ (encNum 0) := fun e => by
            have := Hhzero.out
            rw [← e, Hhx.out] at this
            simp at this
          have hE9 : ((encNum 0)).length ≤ 9 := by decide
          have hcat := cat_run g (encNum 0) (by omega) w5
          have hgel : (g ++ (encNum 0)).length = g.length + ((encNum 0)).length := by simp
          have hcan : (g ++ (encNum 0)) <+: s0 → (g ++ (encNum 0)).length = s0.length → s' = (encNum 0) := fun h1 h2 => append_cancel Hhgs.out h1 h2
          generalize g ++ (encNum 0) = g2 at *
          have Hgl := Lib.hid hgl
          clear hgl
          have Hhne := Lib.hid hne
          clear hne
          have Hhgel := Lib.hid hgel
          clear hgel
          have Hhcan := Lib.hid hcan
          clear hcan
          by_cases hle : (g2.length : Int) ≤ s0.length
          · by_cases heq : g2.length = s0.length
            · have hsb : ((0 : Int) == (s0.length : Int) - g2.length) = true := by rw [heq]; simp
              have Hheq := Lib.hid heq
              clear heq
              go_wp2_with fail
              refine (Left_calls R _ _ w5 Hhr5.out (by simp)).mono ?_
              rintro e w6 ⟨rfl, rfl⟩
              go_wp2_with fail
              refine (begins_list _ _ _ (by omega) (by have := Hhgel.out; omega)).mono ?_
              rintro e w6 ⟨b1, rfl, hb1, rfl⟩
              obtain rfl : b1 = false := by
                cases b1
                · rfl
                · exact absurd (Hhcan.out (hb1.1 rfl) Hheq.out) Hhne.out
              clear hb1
              go_wp2_with fail
              refine (Done_calls R _ _ w5 Hhr5.out).mono ?_
              rintro e w6 ⟨rfl, rfl⟩
              go_wp2_with fail
              refine (Left_calls R _ _ w5 Hhr5.out (by simp)).mono ?_
              rintro e w6 ⟨rfl, rfl⟩
              go_wp2_with fail
              refine (rInt_calls R [] true w5 Hhr5.out (by simp)).mono ?_
              rw [dead_int]
              rintro e w6 ⟨rfl, hr6, hg6⟩
              have hz6 := hg6.size
              have hb6 := hbel5.trans (grownBy_below hg6 hwR (by omega))
              have Hhr6 := Lib.hid hr6
              clear hr6
              go_wp2_with fail
              refine (Text_reads R [] true w6 Hhr6.out (by simp)).mono ?_
              rw [dead_text]
              rintro e w7 ⟨rfl, hr7, hg7⟩
              have hz7 := hg7.size
              have hb7 := hb6.trans (grownBy_below hg7 hwR (by omega))
              have Hhr7 := Lib.hid hr7
              clear hr7
              go_wp2_with fail
              refine (Nums_reads R [] true w7 Hhr7.out (by simp) (by simp)).mono ?_
              rw [dead_nums]
              rintro e w8 ⟨v8, rfl, ho8, hr8, hg8⟩
              obtain ⟨oa8, cap8, rfl⟩ := own_open ho8
              have hz8 := hg8.size
              have hb8 := hb7.trans (grownBy_below hg8 hwR (by omega))
              have Hhr8 := Lib.hid hr8
              clear hr8
              have Hho8 := Lib.hid ho8
              clear ho8
              go_wp2_with fail
              refine (Texts_reads R [] true w8 Hhr8.out (by simp) (by simp)).mono ?_
              rw [dead_texts]
              rintro e w9 ⟨v9, rfl, ho9, hr9, hg9⟩
              obtain ⟨oa9, cap9, rfl⟩ := own_open ho9
              have hz9 := hg9.size
              have hb9 := hb8.trans (grownBy_below hg9 hwR (by omega))
              have Hhr9 := Lib.hid hr9
              clear hr9
              have Hho9 := Lib.hid ho9
              clear ho9
              go_wp2_with fail
              refine (rNum_calls R [] true w9 Hhr9.out (by simp)).mono ?_
              rw [dead_num]
              rintro e w10 ⟨rfl, hr10, hg10⟩
              have hz10 := hg10.size
              have hb10 := hb9.trans (grownBy_below hg10 hwR (by omega))
              go_wp2_with fail
              go_ret
              exact ⟨ret_bool (by first | (simp; done) | (simp; omega)), hb10⟩
            · have hsb : ((0 : Int) == (s0.length : Int) - g2.length) = false := by simp; omega
              go_wp2_with fail
              refine (Left_calls R _ _ w5 Hhr5.out (by simp)).mono ?_
              rintro e w6 ⟨rfl, rfl⟩
              go_wp2_with fail
              refine (Done_calls R _ _ w5 Hhr5.out).mono ?_
              rintro e w6 ⟨rfl, rfl⟩
              go_wp2_with fail
              refine (Left_calls R _ _ w5 Hhr5.out (by simp)).mono ?_
              rintro e w6 ⟨rfl, rfl⟩
              go_wp2_with fail
              refine (rInt_calls R [] true w5 Hhr5.out (by simp)).mono ?_
              rw [dead_int]
              rintro e w6 ⟨rfl, hr6, hg6⟩
              have hz6 := hg6.size
              have hb6 := hbel5.trans (grownBy_below hg6 hwR (by omega))
              have Hhr6 := Lib.hid hr6
              clear hr6
              go_wp2_with fail
              refine (Text_reads R [] true w6 Hhr6.out (by simp)).mono ?_
              rw [dead_text]
              rintro e w7 ⟨rfl, hr7, hg7⟩
              have hz7 := hg7.size
              have hb7 := hb6.trans (grownBy_below hg7 hwR (by omega))
              have Hhr7 := Lib.hid hr7
              clear hr7
              go_wp2_with fail
              refine (Nums_reads R [] true w7 Hhr7.out (by simp) (by simp)).mono ?_
              rw [dead_nums]
              rintro e w8 ⟨v8, rfl, ho8, hr8, hg8⟩
              obtain ⟨oa8, cap8, rfl⟩ := own_open ho8
              have hz8 := hg8.size
              have hb8 := hb7.trans (grownBy_below hg8 hwR (by omega))
              have Hhr8 := Lib.hid hr8
              clear hr8
              have Hho8 := Lib.hid ho8
              clear ho8
              go_wp2_with fail
              refine (Texts_reads R [] true w8 Hhr8.out (by simp) (by simp)).mono ?_
              rw [dead_texts]
              rintro e w9 ⟨v9, rfl, ho9, hr9, hg9⟩
              obtain ⟨oa9, cap9, rfl⟩ := own_open ho9
              have hz9 := hg9.size
              have hb9 := hb8.trans (grownBy_below hg9 hwR (by omega))
              have Hhr9 := Lib.hid hr9
              clear hr9
              have Hho9 := Lib.hid ho9
              clear ho9
              go_wp2_with fail
              refine (rNum_calls R [] true w9 Hhr9.out (by simp)).mono ?_
              rw [dead_num]
              rintro e w10 ⟨rfl, hr10, hg10⟩
              have hz10 := hg10.size
              have hb10 := hb9.trans (grownBy_below hg10 hwR (by omega))
              go_wp2_with fail
              go_ret
              exact ⟨ret_bool (by first | (simp; done) | (simp; omega)), hb10⟩
          · go_wp2_with fail
            go_wp2_with fail
            refine (Done_calls R _ _ w5 Hhr5.out).mono ?_
            rintro e w6 ⟨rfl, rfl⟩
            go_wp2_with fail
            refine (Left_calls R _ _ w5 Hhr5.out (by simp)).mono ?_
            rintro e w6 ⟨rfl, rfl⟩
            go_wp2_with fail
            refine (rInt_calls R [] true w5 Hhr5.out (by simp)).mono ?_
            rw [dead_int]
            rintro e w6 ⟨rfl, hr6, hg6⟩
            have hz6 := hg6.size
            have hb6 := hbel5.trans (grownBy_below hg6 hwR (by omega))
            have Hhr6 := Lib.hid hr6
            clear hr6
            go_wp2_with fail
            refine (Text_reads R [] true w6 Hhr6.out (by simp)).mono ?_
            rw [dead_text]
            rintro e w7 ⟨rfl, hr7, hg7⟩
            have hz7 := hg7.size
            have hb7 := hb6.trans (grownBy_below hg7 hwR (by omega))
            have Hhr7 := Lib.hid hr7
            clear hr7
            go_wp2_with fail
            refine (Nums_reads R [] true w7 Hhr7.out (by simp) (by simp)).mono ?_
            rw [dead_nums]
            rintro e w8 ⟨v8, rfl, ho8, hr8, hg8⟩
            obtain ⟨oa8, cap8, rfl⟩ := own_open ho8
            have hz8 := hg8.size
            have hb8 := hb7.trans (grownBy_below hg8 hwR (by omega))
            have Hhr8 := Lib.hid hr8
            clear hr8
            have Hho8 := Lib.hid ho8
            clear ho8
            go_wp2_with fail
            refine (Texts_reads R [] true w8 Hhr8.out (by simp) (by simp)).mono ?_
            rw [dead_texts]
            rintro e w9 ⟨v9, rfl, ho9, hr9, hg9⟩
            obtain ⟨oa9, cap9, rfl⟩ := own_open ho9
            have hz9 := hg9.size
            have hb9 := hb8.trans (grownBy_below hg9 hwR (by omega))
            have Hhr9 := Lib.hid hr9
            clear hr9
            have Hho9 := Lib.hid ho9
            clear ho9
            go_wp2_with fail
            refine (rNum_calls R [] true w9 Hhr9.out (by simp)).mono ?_
            rw [dead_num]
            rintro e w10 ⟨rfl, hr10, hg10⟩
            have hz10 := hg10.size
            have hb10 := hb9.trans (grownBy_below hg10 hwR (by omega))
            go_wp2_with fail
            go_ret
            exact ⟨ret_bool (by first | (simp; done) | (simp; omega)), hb10⟩
      · have hctr := rInt_calls R s' false wr Hhr.out (by omega)
        have hback := rInt_back (s := s')
        have hbadl := rInt_bad s'
        have hzero := show (rInt (encInt 0) false).2.2 = false from by decide +kernel
        have hin := rInt_in64 s' false
        rcases hx : rInt s' false with ⟨z, s2, b2⟩
        rw [hx] at hctr hback hbadl hin
        simp only at hctr hback hbadl hin
        have Hhctr := Lib.hid hctr
        clear hctr
        have Hhback := Lib.hid hback
        clear hback
        have Hhbadl := Lib.hid hbadl
        clear hbadl
        have Hhzero := Lib.hid hzero
        clear hzero
        have Hhin := Lib.hid hin
        clear hin
        have Hhx := Lib.hid hx
        clear hx
        go_wp2_with fail
        refine Hhctr.out.mono ?_
        rintro e w4 ⟨rfl, hr4, hg4⟩
        have hsz4 := hg4.size
        have hRw4 := hr4.cells.2.2.2.2
        have hbel4 : Below w.heap.size w w4 := hbel.trans (grownBy_below hg4 hwR hsz)
        have hm4 : w4.cell? ⟨0, 0, none⟩ = some (.int .i64 m) := by rw [← Hhm.out]; exact hbel4.cell (p := ⟨0, 0, none⟩) h0

        have Hhr4 := Lib.hid hr4
        clear hr4
        have Hhm4 := Lib.hid hm4
        clear hm4
        go_wp2_with fail
        refine (Int_calls z w4 Hhin.out).mono ?_
        rintro e w5 ⟨rfl, hB5⟩
        have hsz5 := hB5.size
        have hr5 := Hhr4.out.below hB5 hRw4
        have hbel5 : Below w.heap.size w w5 := hbel4.trans (hB5.mono (by omega))
        clear Hhr4 Hhm4 hB5 hg4 Hhctr Hhin 
        have Hhr5 := Lib.hid hr5
        clear hr5
        cases b2
        · have hgood := Hhback.out (by simp)
          have hgl2 : g.length + ((encInt z).length + s2.length) = s0.length := by rw [← hgl, hgood]; simp only [List.length_append]
          have hpre : g ++ (encInt z) <+: s0 := ⟨s2, by rw [← Hhgs.out, hgood, List.append_assoc]⟩
          have hgs2 : (g ++ (encInt z)) ++ s2 = s0 := by rw [List.append_assoc, ← hgood]; exact Hhgs.out
          have hcat := cat_run g (encInt z) (by omega) w5
          have hgel : (g ++ (encInt z)).length = g.length + (encInt z).length := by simp
          generalize g ++ (encInt z) = g2 at *
          clear hgood
          have hle : (g2.length : Int) ≤ s0.length := by omega
          have hsub : (s2.length : Int) = (s0.length : Int) - g2.length := by omega
          have hsb : ((s2.length : Int) == (s0.length : Int) - g2.length) = true := by rw [hsub]; simp
          have hs2l : s2.length ≤ 1000 := by omega
          have hg2l : g2.length ≤ 1000 := by omega
          clear hgel hsub hgl2
          have Hgl := Lib.hid hgl
          clear hgl
          have Hhpre := Lib.hid hpre
          clear hpre
          have Hhgs2 := Lib.hid hgs2
          clear hgs2
          go_wp2_with fail
          refine (Left_calls R _ _ w5 Hhr5.out (by omega)).mono ?_
          rintro e w6 ⟨rfl, rfl⟩
          go_wp2_with fail
          refine (begins_list _ _ _ (by omega) (by omega)).mono ?_
          rintro e w6 ⟨b1, rfl, hb1, rfl⟩
          obtain rfl : b1 = true := hb1.2 Hhpre.out
          clear hb1
          go_wp2_with fail
          exact ⟨⟨i + 1, g2, s2, by go_num, rfl, by omega, Hhgs2.out, Hhr5.out, hbel5⟩, by simp [intOf]; omega⟩
        · have hbad := Hhbadl.out (by simp)
          obtain ⟨hz, rfl⟩ : z = 0 ∧ s2 = [] := by simpa using hbad
          subst hz
          clear hbad
          have hne : s' ≠ (encInt 0) := fun e => by
            have := Hhzero.out
            rw [← e, Hhx.out] at this
            simp at this
          have hE9 : ((encInt 0)).length ≤ 9 := by decide
          have hcat := cat_run g (encInt 0) (by omega) w5
          have hgel : (g ++ (encInt 0)).length = g.length + ((encInt 0)).length := by simp
          have hcan : (g ++ (encInt 0)) <+: s0 → (g ++ (encInt 0)).length = s0.length → s' = (encInt 0) := fun h1 h2 => append_cancel Hhgs.out h1 h2
          generalize g ++ (encInt 0) = g2 at *
          have Hgl := Lib.hid hgl
          clear hgl
          have Hhne := Lib.hid hne
          clear hne
          have Hhgel := Lib.hid hgel
          clear hgel
          have Hhcan := Lib.hid hcan
          clear hcan
          by_cases hle : (g2.length : Int) ≤ s0.length
          · by_cases heq : g2.length = s0.length
            · have hsb : ((0 : Int) == (s0.length : Int) - g2.length) = true := by rw [heq]; simp
              have Hheq := Lib.hid heq
              clear heq
              go_wp2_with fail
              refine (Left_calls R _ _ w5 Hhr5.out (by simp)).mono ?_
              rintro e w6 ⟨rfl, rfl⟩
              go_wp2_with fail
              refine (begins_list _ _ _ (by omega) (by have := Hhgel.out; omega)).mono ?_
              rintro e w6 ⟨b1, rfl, hb1, rfl⟩
              obtain rfl : b1 = false := by
                cases b1
                · rfl
                · exact absurd (Hhcan.out (hb1.1 rfl) Hheq.out) Hhne.out
              clear hb1
              go_wp2_with fail
              refine (Done_calls R _ _ w5 Hhr5.out).mono ?_
              rintro e w6 ⟨rfl, rfl⟩
              go_wp2_with fail
              refine (Left_calls R _ _ w5 Hhr5.out (by simp)).mono ?_
              rintro e w6 ⟨rfl, rfl⟩
              go_wp2_with fail
              refine (rInt_calls R [] true w5 Hhr5.out (by simp)).mono ?_
              rw [dead_int]
              rintro e w6 ⟨rfl, hr6, hg6⟩
              have hz6 := hg6.size
              have hb6 := hbel5.trans (grownBy_below hg6 hwR (by omega))
              have Hhr6 := Lib.hid hr6
              clear hr6
              go_wp2_with fail
              refine (Text_reads R [] true w6 Hhr6.out (by simp)).mono ?_
              rw [dead_text]
              rintro e w7 ⟨rfl, hr7, hg7⟩
              have hz7 := hg7.size
              have hb7 := hb6.trans (grownBy_below hg7 hwR (by omega))
              have Hhr7 := Lib.hid hr7
              clear hr7
              go_wp2_with fail
              refine (Nums_reads R [] true w7 Hhr7.out (by simp) (by simp)).mono ?_
              rw [dead_nums]
              rintro e w8 ⟨v8, rfl, ho8, hr8, hg8⟩
              obtain ⟨oa8, cap8, rfl⟩ := own_open ho8
              have hz8 := hg8.size
              have hb8 := hb7.trans (grownBy_below hg8 hwR (by omega))
              have Hhr8 := Lib.hid hr8
              clear hr8
              have Hho8 := Lib.hid ho8
              clear ho8
              go_wp2_with fail
              refine (Texts_reads R [] true w8 Hhr8.out (by simp) (by simp)).mono ?_
              rw [dead_texts]
              rintro e w9 ⟨v9, rfl, ho9, hr9, hg9⟩
              obtain ⟨oa9, cap9, rfl⟩ := own_open ho9
              have hz9 := hg9.size
              have hb9 := hb8.trans (grownBy_below hg9 hwR (by omega))
              have Hhr9 := Lib.hid hr9
              clear hr9
              have Hho9 := Lib.hid ho9
              clear ho9
              go_wp2_with fail
              refine (rNum_calls R [] true w9 Hhr9.out (by simp)).mono ?_
              rw [dead_num]
              rintro e w10 ⟨rfl, hr10, hg10⟩
              have hz10 := hg10.size
              have hb10 := hb9.trans (grownBy_below hg10 hwR (by omega))
              go_wp2_with fail
              go_ret
              exact ⟨ret_bool (by first | (simp; done) | (simp; omega)), hb10⟩
            · have hsb : ((0 : Int) == (s0.length : Int) - g2.length) = false := by simp; omega
              go_wp2_with fail
              refine (Left_calls R _ _ w5 Hhr5.out (by simp)).mono ?_
              rintro e w6 ⟨rfl, rfl⟩
              go_wp2_with fail
              refine (Done_calls R _ _ w5 Hhr5.out).mono ?_
              rintro e w6 ⟨rfl, rfl⟩
              go_wp2_with fail
              refine (Left_calls R _ _ w5 Hhr5.out (by simp)).mono ?_
              rintro e w6 ⟨rfl, rfl⟩
              go_wp2_with fail
              refine (rInt_calls R [] true w5 Hhr5.out (by simp)).mono ?_
              rw [dead_int]
              rintro e w6 ⟨rfl, hr6, hg6⟩
              have hz6 := hg6.size
              have hb6 := hbel5.trans (grownBy_below hg6 hwR (by omega))
              have Hhr6 := Lib.hid hr6
              clear hr6
              go_wp2_with fail
              refine (Text_reads R [] true w6 Hhr6.out (by simp)).mono ?_
              rw [dead_text]
              rintro e w7 ⟨rfl, hr7, hg7⟩
              have hz7 := hg7.size
              have hb7 := hb6.trans (grownBy_below hg7 hwR (by omega))
              have Hhr7 := Lib.hid hr7
              clear hr7
              go_wp2_with fail
              refine (Nums_reads R [] true w7 Hhr7.out (by simp) (by simp)).mono ?_
              rw [dead_nums]
              rintro e w8 ⟨v8, rfl, ho8, hr8, hg8⟩
              obtain ⟨oa8, cap8, rfl⟩ := own_open ho8
              have hz8 := hg8.size
              have hb8 := hb7.trans (grownBy_below hg8 hwR (by omega))
              have Hhr8 := Lib.hid hr8
              clear hr8
              have Hho8 := Lib.hid ho8
              clear ho8
              go_wp2_with fail
              refine (Texts_reads R [] true w8 Hhr8.out (by simp) (by simp)).mono ?_
              rw [dead_texts]
              rintro e w9 ⟨v9, rfl, ho9, hr9, hg9⟩
              obtain ⟨oa9, cap9, rfl⟩ := own_open ho9
              have hz9 := hg9.size
              have hb9 := hb8.trans (grownBy_below hg9 hwR (by omega))
              have Hhr9 := Lib.hid hr9
              clear hr9
              have Hho9 := Lib.hid ho9
              clear ho9
              go_wp2_with fail
              refine (rNum_calls R [] true w9 Hhr9.out (by simp)).mono ?_
              rw [dead_num]
              rintro e w10 ⟨rfl, hr10, hg10⟩
              have hz10 := hg10.size
              have hb10 := hb9.trans (grownBy_below hg10 hwR (by omega))
              go_wp2_with fail
              go_ret
              exact ⟨ret_bool (by first | (simp; done) | (simp; omega)), hb10⟩
          · go_wp2_with fail
            go_wp2_with fail
            refine (Done_calls R _ _ w5 Hhr5.out).mono ?_
            rintro e w6 ⟨rfl, rfl⟩
            go_wp2_with fail
            refine (Left_calls R _ _ w5 Hhr5.out (by simp)).mono ?_
            rintro e w6 ⟨rfl, rfl⟩
            go_wp2_with fail
            refine (rInt_calls R [] true w5 Hhr5.out (by simp)).mono ?_
            rw [dead_int]
            rintro e w6 ⟨rfl, hr6, hg6⟩
            have hz6 := hg6.size
            have hb6 := hbel5.trans (grownBy_below hg6 hwR (by omega))
            have Hhr6 := Lib.hid hr6
            clear hr6
            go_wp2_with fail
            refine (Text_reads R [] true w6 Hhr6.out (by simp)).mono ?_
            rw [dead_text]
            rintro e w7 ⟨rfl, hr7, hg7⟩
            have hz7 := hg7.size
            have hb7 := hb6.trans (grownBy_below hg7 hwR (by omega))
            have Hhr7 := Lib.hid hr7
            clear hr7
            go_wp2_with fail
            refine (Nums_reads R [] true w7 Hhr7.out (by simp) (by simp)).mono ?_
            rw [dead_nums]
            rintro e w8 ⟨v8, rfl, ho8, hr8, hg8⟩
            obtain ⟨oa8, cap8, rfl⟩ := own_open ho8
            have hz8 := hg8.size
            have hb8 := hb7.trans (grownBy_below hg8 hwR (by omega))
            have Hhr8 := Lib.hid hr8
            clear hr8
            have Hho8 := Lib.hid ho8
            clear ho8
            go_wp2_with fail
            refine (Texts_reads R [] true w8 Hhr8.out (by simp) (by simp)).mono ?_
            rw [dead_texts]
            rintro e w9 ⟨v9, rfl, ho9, hr9, hg9⟩
            obtain ⟨oa9, cap9, rfl⟩ := own_open ho9
            have hz9 := hg9.size
            have hb9 := hb8.trans (grownBy_below hg9 hwR (by omega))
            have Hhr9 := Lib.hid hr9
            clear hr9
            have Hho9 := Lib.hid ho9
            clear ho9
            go_wp2_with fail
            refine (rNum_calls R [] true w9 Hhr9.out (by simp)).mono ?_
            rw [dead_num]
            rintro e w10 ⟨rfl, hr10, hg10⟩
            have hz10 := hg10.size
            have hb10 := hb9.trans (grownBy_below hg10 hwR (by omega))
            go_wp2_with fail
            go_ret
            exact ⟨ret_bool (by first | (simp; done) | (simp; omega)), hb10⟩
      · have hctr := Text_reads R s' false wr Hhr.out (by omega)
        have hback := rText_back (s := s')
        have hbadl := rText_bad s'
        have hzero := show (rText (encText []) false).2.2 = false from by decide +kernel
        have hin := rText_short s' false
        rcases hx : rText s' false with ⟨z, s2, b2⟩
        rw [hx] at hctr hback hbadl hin
        simp only at hctr hback hbadl hin
        have Hhctr := Lib.hid hctr
        clear hctr
        have Hhback := Lib.hid hback
        clear hback
        have Hhbadl := Lib.hid hbadl
        clear hbadl
        have Hhzero := Lib.hid hzero
        clear hzero
        have Hhin := Lib.hid hin
        clear hin
        have Hhx := Lib.hid hx
        clear hx
        go_wp2_with fail
        refine Hhctr.out.mono ?_
        rintro e w4 ⟨rfl, hr4, hg4⟩
        have hsz4 := hg4.size
        have hRw4 := hr4.cells.2.2.2.2
        have hbel4 : Below w.heap.size w w4 := hbel.trans (grownBy_below hg4 hwR hsz)
        have hm4 : w4.cell? ⟨0, 0, none⟩ = some (.int .i64 m) := by rw [← Hhm.out]; exact hbel4.cell (p := ⟨0, 0, none⟩) h0

        have Hhr4 := Lib.hid hr4
        clear hr4
        have Hhm4 := Lib.hid hm4
        clear hm4
        go_wp2_with fail
        refine (TextL_calls z m w4 (by have := Hhin.out; omega) Hhm4.out).mono ?_
        rintro e w5 ⟨rfl, hB5⟩
        have hsz5 := hB5.size
        have hr5 := Hhr4.out.below hB5 hRw4
        have hbel5 : Below w.heap.size w w5 := hbel4.trans (hB5.mono (by omega))
        clear Hhr4 Hhm4 hB5 hg4 Hhctr Hhin 
        have Hhr5 := Lib.hid hr5
        clear hr5
        cases b2
        · have hgood := Hhback.out (by simp)
          have hgl2 : g.length + ((encText z).length + s2.length) = s0.length := by rw [← hgl, hgood]; simp only [List.length_append]
          have hpre : g ++ (encText z) <+: s0 := ⟨s2, by rw [← Hhgs.out, hgood, List.append_assoc]⟩
          have hgs2 : (g ++ (encText z)) ++ s2 = s0 := by rw [List.append_assoc, ← hgood]; exact Hhgs.out
          have hcat := cat_run g (encText z) (by omega) w5
          have hgel : (g ++ (encText z)).length = g.length + (encText z).length := by simp
          generalize g ++ (encText z) = g2 at *
          clear hgood
          have hle : (g2.length : Int) ≤ s0.length := by omega
          have hsub : (s2.length : Int) = (s0.length : Int) - g2.length := by omega
          have hsb : ((s2.length : Int) == (s0.length : Int) - g2.length) = true := by rw [hsub]; simp
          have hs2l : s2.length ≤ 1000 := by omega
          have hg2l : g2.length ≤ 1000 := by omega
          clear hgel hsub hgl2
          have Hgl := Lib.hid hgl
          clear hgl
          have Hhpre := Lib.hid hpre
          clear hpre
          have Hhgs2 := Lib.hid hgs2
          clear hgs2
          go_wp2_with fail
          refine (Left_calls R _ _ w5 Hhr5.out (by omega)).mono ?_
          rintro e w6 ⟨rfl, rfl⟩
          go_wp2_with fail
          refine (begins_list _ _ _ (by omega) (by omega)).mono ?_
          rintro e w6 ⟨b1, rfl, hb1, rfl⟩
          obtain rfl : b1 = true := hb1.2 Hhpre.out
          clear hb1
          go_wp2_with fail
          exact ⟨⟨i + 1, g2, s2, by go_num, rfl, by omega, Hhgs2.out, Hhr5.out, hbel5⟩, by simp [intOf]; omega⟩
        · have hbad := Hhbadl.out (by simp)
          obtain ⟨hz, rfl⟩ : z = [] ∧ s2 = [] := by simpa using hbad
          subst hz
          clear hbad
          have hne : s' ≠ (encText []) := fun e => by
            have := Hhzero.out
            rw [← e, Hhx.out] at this
            simp at this
          have hE9 : ((encText [])).length ≤ 9 := by decide
          have hcat := cat_run g (encText []) (by omega) w5
          have hgel : (g ++ (encText [])).length = g.length + ((encText [])).length := by simp
          have hcan : (g ++ (encText [])) <+: s0 → (g ++ (encText [])).length = s0.length → s' = (encText []) := fun h1 h2 => append_cancel Hhgs.out h1 h2
          generalize g ++ (encText []) = g2 at *
          have Hgl := Lib.hid hgl
          clear hgl
          have Hhne := Lib.hid hne
          clear hne
          have Hhgel := Lib.hid hgel
          clear hgel
          have Hhcan := Lib.hid hcan
          clear hcan
          by_cases hle : (g2.length : Int) ≤ s0.length
          · by_cases heq : g2.length = s0.length
            · have hsb : ((0 : Int) == (s0.length : Int) - g2.length) = true := by rw [heq]; simp
              have Hheq := Lib.hid heq
              clear heq
              go_wp2_with fail
              refine (Left_calls R _ _ w5 Hhr5.out (by simp)).mono ?_
              rintro e w6 ⟨rfl, rfl⟩
              go_wp2_with fail
              refine (begins_list _ _ _ (by omega) (by have := Hhgel.out; omega)).mono ?_
              rintro e w6 ⟨b1, rfl, hb1, rfl⟩
              obtain rfl : b1 = false := by
                cases b1
                · rfl
                · exact absurd (Hhcan.out (hb1.1 rfl) Hheq.out) Hhne.out
              clear hb1
              go_wp2_with fail
              refine (Done_calls R _ _ w5 Hhr5.out).mono ?_
              rintro e w6 ⟨rfl, rfl⟩
              go_wp2_with fail
              refine (Left_calls R _ _ w5 Hhr5.out (by simp)).mono ?_
              rintro e w6 ⟨rfl, rfl⟩
              go_wp2_with fail
              refine (rInt_calls R [] true w5 Hhr5.out (by simp)).mono ?_
              rw [dead_int]
              rintro e w6 ⟨rfl, hr6, hg6⟩
              have hz6 := hg6.size
              have hb6 := hbel5.trans (grownBy_below hg6 hwR (by omega))
              have Hhr6 := Lib.hid hr6
              clear hr6
              go_wp2_with fail
              refine (Text_reads R [] true w6 Hhr6.out (by simp)).mono ?_
              rw [dead_text]
              rintro e w7 ⟨rfl, hr7, hg7⟩
              have hz7 := hg7.size
              have hb7 := hb6.trans (grownBy_below hg7 hwR (by omega))
              have Hhr7 := Lib.hid hr7
              clear hr7
              go_wp2_with fail
              refine (Nums_reads R [] true w7 Hhr7.out (by simp) (by simp)).mono ?_
              rw [dead_nums]
              rintro e w8 ⟨v8, rfl, ho8, hr8, hg8⟩
              obtain ⟨oa8, cap8, rfl⟩ := own_open ho8
              have hz8 := hg8.size
              have hb8 := hb7.trans (grownBy_below hg8 hwR (by omega))
              have Hhr8 := Lib.hid hr8
              clear hr8
              have Hho8 := Lib.hid ho8
              clear ho8
              go_wp2_with fail
              refine (Texts_reads R [] true w8 Hhr8.out (by simp) (by simp)).mono ?_
              rw [dead_texts]
              rintro e w9 ⟨v9, rfl, ho9, hr9, hg9⟩
              obtain ⟨oa9, cap9, rfl⟩ := own_open ho9
              have hz9 := hg9.size
              have hb9 := hb8.trans (grownBy_below hg9 hwR (by omega))
              have Hhr9 := Lib.hid hr9
              clear hr9
              have Hho9 := Lib.hid ho9
              clear ho9
              go_wp2_with fail
              refine (rNum_calls R [] true w9 Hhr9.out (by simp)).mono ?_
              rw [dead_num]
              rintro e w10 ⟨rfl, hr10, hg10⟩
              have hz10 := hg10.size
              have hb10 := hb9.trans (grownBy_below hg10 hwR (by omega))
              go_wp2_with fail
              go_ret
              exact ⟨ret_bool (by first | (simp; done) | (simp; omega)), hb10⟩
            · have hsb : ((0 : Int) == (s0.length : Int) - g2.length) = false := by simp; omega
              go_wp2_with fail
              refine (Left_calls R _ _ w5 Hhr5.out (by simp)).mono ?_
              rintro e w6 ⟨rfl, rfl⟩
              go_wp2_with fail
              refine (Done_calls R _ _ w5 Hhr5.out).mono ?_
              rintro e w6 ⟨rfl, rfl⟩
              go_wp2_with fail
              refine (Left_calls R _ _ w5 Hhr5.out (by simp)).mono ?_
              rintro e w6 ⟨rfl, rfl⟩
              go_wp2_with fail
              refine (rInt_calls R [] true w5 Hhr5.out (by simp)).mono ?_
              rw [dead_int]
              rintro e w6 ⟨rfl, hr6, hg6⟩
              have hz6 := hg6.size
              have hb6 := hbel5.trans (grownBy_below hg6 hwR (by omega))
              have Hhr6 := Lib.hid hr6
              clear hr6
              go_wp2_with fail
              refine (Text_reads R [] true w6 Hhr6.out (by simp)).mono ?_
              rw [dead_text]
              rintro e w7 ⟨rfl, hr7, hg7⟩
              have hz7 := hg7.size
              have hb7 := hb6.trans (grownBy_below hg7 hwR (by omega))
              have Hhr7 := Lib.hid hr7
              clear hr7
              go_wp2_with fail
              refine (Nums_reads R [] true w7 Hhr7.out (by simp) (by simp)).mono ?_
              rw [dead_nums]
              rintro e w8 ⟨v8, rfl, ho8, hr8, hg8⟩
              obtain ⟨oa8, cap8, rfl⟩ := own_open ho8
              have hz8 := hg8.size
              have hb8 := hb7.trans (grownBy_below hg8 hwR (by omega))
              have Hhr8 := Lib.hid hr8
              clear hr8
              have Hho8 := Lib.hid ho8
              clear ho8
              go_wp2_with fail
              refine (Texts_reads R [] true w8 Hhr8.out (by simp) (by simp)).mono ?_
              rw [dead_texts]
              rintro e w9 ⟨v9, rfl, ho9, hr9, hg9⟩
              obtain ⟨oa9, cap9, rfl⟩ := own_open ho9
              have hz9 := hg9.size
              have hb9 := hb8.trans (grownBy_below hg9 hwR (by omega))
              have Hhr9 := Lib.hid hr9
              clear hr9
              have Hho9 := Lib.hid ho9
              clear ho9
              go_wp2_with fail
              refine (rNum_calls R [] true w9 Hhr9.out (by simp)).mono ?_
              rw [dead_num]
              rintro e w10 ⟨rfl, hr10, hg10⟩
              have hz10 := hg10.size
              have hb10 := hb9.trans (grownBy_below hg10 hwR (by omega))
              go_wp2_with fail
              go_ret
              exact ⟨ret_bool (by first | (simp; done) | (simp; omega)), hb10⟩
          · go_wp2_with fail
            go_wp2_with fail
            refine (Done_calls R _ _ w5 Hhr5.out).mono ?_
            rintro e w6 ⟨rfl, rfl⟩
            go_wp2_with fail
            refine (Left_calls R _ _ w5 Hhr5.out (by simp)).mono ?_
            rintro e w6 ⟨rfl, rfl⟩
            go_wp2_with fail
            refine (rInt_calls R [] true w5 Hhr5.out (by simp)).mono ?_
            rw [dead_int]
            rintro e w6 ⟨rfl, hr6, hg6⟩
            have hz6 := hg6.size
            have hb6 := hbel5.trans (grownBy_below hg6 hwR (by omega))
            have Hhr6 := Lib.hid hr6
            clear hr6
            go_wp2_with fail
            refine (Text_reads R [] true w6 Hhr6.out (by simp)).mono ?_
            rw [dead_text]
            rintro e w7 ⟨rfl, hr7, hg7⟩
            have hz7 := hg7.size
            have hb7 := hb6.trans (grownBy_below hg7 hwR (by omega))
            have Hhr7 := Lib.hid hr7
            clear hr7
            go_wp2_with fail
            refine (Nums_reads R [] true w7 Hhr7.out (by simp) (by simp)).mono ?_
            rw [dead_nums]
            rintro e w8 ⟨v8, rfl, ho8, hr8, hg8⟩
            obtain ⟨oa8, cap8, rfl⟩ := own_open ho8
            have hz8 := hg8.size
            have hb8 := hb7.trans (grownBy_below hg8 hwR (by omega))
            have Hhr8 := Lib.hid hr8
            clear hr8
            have Hho8 := Lib.hid ho8
            clear ho8
            go_wp2_with fail
            refine (Texts_reads R [] true w8 Hhr8.out (by simp) (by simp)).mono ?_
            rw [dead_texts]
            rintro e w9 ⟨v9, rfl, ho9, hr9, hg9⟩
            obtain ⟨oa9, cap9, rfl⟩ := own_open ho9
            have hz9 := hg9.size
            have hb9 := hb8.trans (grownBy_below hg9 hwR (by omega))
            have Hhr9 := Lib.hid hr9
            clear hr9
            have Hho9 := Lib.hid ho9
            clear ho9
            go_wp2_with fail
            refine (rNum_calls R [] true w9 Hhr9.out (by simp)).mono ?_
            rw [dead_num]
            rintro e w10 ⟨rfl, hr10, hg10⟩
            have hz10 := hg10.size
            have hb10 := hb9.trans (grownBy_below hg10 hwR (by omega))
            go_wp2_with fail
            go_ret
            exact ⟨ret_bool (by first | (simp; done) | (simp; omega)), hb10⟩
      · have hctr := Nums_reads R s' false wr Hhr.out (by simp) (by omega)
        have hback := rNums_back (s := s')
        have hbadl := rNums_bad s'
        have hzero := show (rNums (encNums []) false).2.2 = false from by decide +kernel
        have hin := (ok_rNums s' false).2
        rcases hx : rNums s' false with ⟨z, s2, b2⟩
        rw [hx] at hctr hback hbadl hin
        simp only at hctr hback hbadl hin
        have Hhctr := Lib.hid hctr
        clear hctr
        have Hhback := Lib.hid hback
        clear hback
        have Hhbadl := Lib.hid hbadl
        clear hbadl
        have Hhzero := Lib.hid hzero
        clear hzero
        have Hhin := Lib.hid hin
        clear hin
        have Hhx := Lib.hid hx
        clear hx
        go_wp2_with fail
        refine Hhctr.out.mono ?_
        rintro e w4 ⟨v4, rfl, ho4, hr4, hg4⟩
        have hsz4 := hg4.size
        have hRw4 := hr4.cells.2.2.2.2
        have hbel4 : Below w.heap.size w w4 := hbel.trans (grownBy_below hg4 hwR hsz)
        have hm4 : w4.cell? ⟨0, 0, none⟩ = some (.int .i64 m) := by rw [← Hhm.out]; exact hbel4.cell (p := ⟨0, 0, none⟩) h0
        have hi4 := IntsAt.of_owned ho4 Hhin.out.2 (by have := Hhin.out.1; omega)
        have Hhi4 := Lib.hid hi4
        clear hi4
        have Hhr4 := Lib.hid hr4
        clear hr4
        have Hhm4 := Lib.hid hm4
        clear hm4
        go_wp2_with fail
        refine (Nums_calls v4 z w4 Hhi4.out (by have := Hhin.out.1; omega)).mono ?_
        rintro e w5 ⟨rfl, hB5⟩
        have hsz5 := hB5.size
        have hr5 := Hhr4.out.below hB5 hRw4
        have hbel5 : Below w.heap.size w w5 := hbel4.trans (hB5.mono (by omega))
        clear Hhr4 Hhm4 hB5 hg4 Hhctr Hhin Hhi4 ho4
        have Hhr5 := Lib.hid hr5
        clear hr5
        cases b2
        · have hgood := Hhback.out (by simp)
          have hgl2 : g.length + ((encNums z).length + s2.length) = s0.length := by rw [← hgl, hgood]; simp only [List.length_append]
          have hpre : g ++ (encNums z) <+: s0 := ⟨s2, by rw [← Hhgs.out, hgood, List.append_assoc]⟩
          have hgs2 : (g ++ (encNums z)) ++ s2 = s0 := by rw [List.append_assoc, ← hgood]; exact Hhgs.out
          have hcat := cat_run g (encNums z) (by omega) w5
          have hgel : (g ++ (encNums z)).length = g.length + (encNums z).length := by simp
          generalize g ++ (encNums z) = g2 at *
          clear hgood
          have hle : (g2.length : Int) ≤ s0.length := by omega
          have hsub : (s2.length : Int) = (s0.length : Int) - g2.length := by omega
          have hsb : ((s2.length : Int) == (s0.length : Int) - g2.length) = true := by rw [hsub]; simp
          have hs2l : s2.length ≤ 1000 := by omega
          have hg2l : g2.length ≤ 1000 := by omega
          clear hgel hsub hgl2
          have Hgl := Lib.hid hgl
          clear hgl
          have Hhpre := Lib.hid hpre
          clear hpre
          have Hhgs2 := Lib.hid hgs2
          clear hgs2
          go_wp2_with fail
          refine (Left_calls R _ _ w5 Hhr5.out (by omega)).mono ?_
          rintro e w6 ⟨rfl, rfl⟩
          go_wp2_with fail
          refine (begins_list _ _ _ (by omega) (by omega)).mono ?_
          rintro e w6 ⟨b1, rfl, hb1, rfl⟩
          obtain rfl : b1 = true := hb1.2 Hhpre.out
          clear hb1
          go_wp2_with fail
          exact ⟨⟨i + 1, g2, s2, by go_num, rfl, by omega, Hhgs2.out, Hhr5.out, hbel5⟩, by simp [intOf]; omega⟩
        · have hbad := Hhbadl.out (by simp)
          obtain ⟨hz, rfl⟩ : z = [] ∧ s2 = [] := by simpa using hbad
          subst hz
          clear hbad
          have hne : s' ≠ (encNums []) := fun e => by
            have := Hhzero.out
            rw [← e, Hhx.out] at this
            simp at this
          have hE9 : ((encNums [])).length ≤ 9 := by decide
          have hcat := cat_run g (encNums []) (by omega) w5
          have hgel : (g ++ (encNums [])).length = g.length + ((encNums [])).length := by simp
          have hcan : (g ++ (encNums [])) <+: s0 → (g ++ (encNums [])).length = s0.length → s' = (encNums []) := fun h1 h2 => append_cancel Hhgs.out h1 h2
          generalize g ++ (encNums []) = g2 at *
          have Hgl := Lib.hid hgl
          clear hgl
          have Hhne := Lib.hid hne
          clear hne
          have Hhgel := Lib.hid hgel
          clear hgel
          have Hhcan := Lib.hid hcan
          clear hcan
          by_cases hle : (g2.length : Int) ≤ s0.length
          · by_cases heq : g2.length = s0.length
            · have hsb : ((0 : Int) == (s0.length : Int) - g2.length) = true := by rw [heq]; simp
              have Hheq := Lib.hid heq
              clear heq
              go_wp2_with fail
              refine (Left_calls R _ _ w5 Hhr5.out (by simp)).mono ?_
              rintro e w6 ⟨rfl, rfl⟩
              go_wp2_with fail
              refine (begins_list _ _ _ (by omega) (by have := Hhgel.out; omega)).mono ?_
              rintro e w6 ⟨b1, rfl, hb1, rfl⟩
              obtain rfl : b1 = false := by
                cases b1
                · rfl
                · exact absurd (Hhcan.out (hb1.1 rfl) Hheq.out) Hhne.out
              clear hb1
              go_wp2_with fail
              refine (Done_calls R _ _ w5 Hhr5.out).mono ?_
              rintro e w6 ⟨rfl, rfl⟩
              go_wp2_with fail
              refine (Left_calls R _ _ w5 Hhr5.out (by simp)).mono ?_
              rintro e w6 ⟨rfl, rfl⟩
              go_wp2_with fail
              refine (rInt_calls R [] true w5 Hhr5.out (by simp)).mono ?_
              rw [dead_int]
              rintro e w6 ⟨rfl, hr6, hg6⟩
              have hz6 := hg6.size
              have hb6 := hbel5.trans (grownBy_below hg6 hwR (by omega))
              have Hhr6 := Lib.hid hr6
              clear hr6
              go_wp2_with fail
              refine (Text_reads R [] true w6 Hhr6.out (by simp)).mono ?_
              rw [dead_text]
              rintro e w7 ⟨rfl, hr7, hg7⟩
              have hz7 := hg7.size
              have hb7 := hb6.trans (grownBy_below hg7 hwR (by omega))
              have Hhr7 := Lib.hid hr7
              clear hr7
              go_wp2_with fail
              refine (Nums_reads R [] true w7 Hhr7.out (by simp) (by simp)).mono ?_
              rw [dead_nums]
              rintro e w8 ⟨v8, rfl, ho8, hr8, hg8⟩
              obtain ⟨oa8, cap8, rfl⟩ := own_open ho8
              have hz8 := hg8.size
              have hb8 := hb7.trans (grownBy_below hg8 hwR (by omega))
              have Hhr8 := Lib.hid hr8
              clear hr8
              have Hho8 := Lib.hid ho8
              clear ho8
              go_wp2_with fail
              refine (Texts_reads R [] true w8 Hhr8.out (by simp) (by simp)).mono ?_
              rw [dead_texts]
              rintro e w9 ⟨v9, rfl, ho9, hr9, hg9⟩
              obtain ⟨oa9, cap9, rfl⟩ := own_open ho9
              have hz9 := hg9.size
              have hb9 := hb8.trans (grownBy_below hg9 hwR (by omega))
              have Hhr9 := Lib.hid hr9
              clear hr9
              have Hho9 := Lib.hid ho9
              clear ho9
              go_wp2_with fail
              refine (rNum_calls R [] true w9 Hhr9.out (by simp)).mono ?_
              rw [dead_num]
              rintro e w10 ⟨rfl, hr10, hg10⟩
              have hz10 := hg10.size
              have hb10 := hb9.trans (grownBy_below hg10 hwR (by omega))
              go_wp2_with fail
              go_ret
              exact ⟨ret_bool (by first | (simp; done) | (simp; omega)), hb10⟩
            · have hsb : ((0 : Int) == (s0.length : Int) - g2.length) = false := by simp; omega
              go_wp2_with fail
              refine (Left_calls R _ _ w5 Hhr5.out (by simp)).mono ?_
              rintro e w6 ⟨rfl, rfl⟩
              go_wp2_with fail
              refine (Done_calls R _ _ w5 Hhr5.out).mono ?_
              rintro e w6 ⟨rfl, rfl⟩
              go_wp2_with fail
              refine (Left_calls R _ _ w5 Hhr5.out (by simp)).mono ?_
              rintro e w6 ⟨rfl, rfl⟩
              go_wp2_with fail
              refine (rInt_calls R [] true w5 Hhr5.out (by simp)).mono ?_
              rw [dead_int]
              rintro e w6 ⟨rfl, hr6, hg6⟩
              have hz6 := hg6.size
              have hb6 := hbel5.trans (grownBy_below hg6 hwR (by omega))
              have Hhr6 := Lib.hid hr6
              clear hr6
              go_wp2_with fail
              refine (Text_reads R [] true w6 Hhr6.out (by simp)).mono ?_
              rw [dead_text]
              rintro e w7 ⟨rfl, hr7, hg7⟩
              have hz7 := hg7.size
              have hb7 := hb6.trans (grownBy_below hg7 hwR (by omega))
              have Hhr7 := Lib.hid hr7
              clear hr7
              go_wp2_with fail
              refine (Nums_reads R [] true w7 Hhr7.out (by simp) (by simp)).mono ?_
              rw [dead_nums]
              rintro e w8 ⟨v8, rfl, ho8, hr8, hg8⟩
              obtain ⟨oa8, cap8, rfl⟩ := own_open ho8
              have hz8 := hg8.size
              have hb8 := hb7.trans (grownBy_below hg8 hwR (by omega))
              have Hhr8 := Lib.hid hr8
              clear hr8
              have Hho8 := Lib.hid ho8
              clear ho8
              go_wp2_with fail
              refine (Texts_reads R [] true w8 Hhr8.out (by simp) (by simp)).mono ?_
              rw [dead_texts]
              rintro e w9 ⟨v9, rfl, ho9, hr9, hg9⟩
              obtain ⟨oa9, cap9, rfl⟩ := own_open ho9
              have hz9 := hg9.size
              have hb9 := hb8.trans (grownBy_below hg9 hwR (by omega))
              have Hhr9 := Lib.hid hr9
              clear hr9
              have Hho9 := Lib.hid ho9
              clear ho9
              go_wp2_with fail
              refine (rNum_calls R [] true w9 Hhr9.out (by simp)).mono ?_
              rw [dead_num]
              rintro e w10 ⟨rfl, hr10, hg10⟩
              have hz10 := hg10.size
              have hb10 := hb9.trans (grownBy_below hg10 hwR (by omega))
              go_wp2_with fail
              go_ret
              exact ⟨ret_bool (by first | (simp; done) | (simp; omega)), hb10⟩
          · go_wp2_with fail
            go_wp2_with fail
            refine (Done_calls R _ _ w5 Hhr5.out).mono ?_
            rintro e w6 ⟨rfl, rfl⟩
            go_wp2_with fail
            refine (Left_calls R _ _ w5 Hhr5.out (by simp)).mono ?_
            rintro e w6 ⟨rfl, rfl⟩
            go_wp2_with fail
            refine (rInt_calls R [] true w5 Hhr5.out (by simp)).mono ?_
            rw [dead_int]
            rintro e w6 ⟨rfl, hr6, hg6⟩
            have hz6 := hg6.size
            have hb6 := hbel5.trans (grownBy_below hg6 hwR (by omega))
            have Hhr6 := Lib.hid hr6
            clear hr6
            go_wp2_with fail
            refine (Text_reads R [] true w6 Hhr6.out (by simp)).mono ?_
            rw [dead_text]
            rintro e w7 ⟨rfl, hr7, hg7⟩
            have hz7 := hg7.size
            have hb7 := hb6.trans (grownBy_below hg7 hwR (by omega))
            have Hhr7 := Lib.hid hr7
            clear hr7
            go_wp2_with fail
            refine (Nums_reads R [] true w7 Hhr7.out (by simp) (by simp)).mono ?_
            rw [dead_nums]
            rintro e w8 ⟨v8, rfl, ho8, hr8, hg8⟩
            obtain ⟨oa8, cap8, rfl⟩ := own_open ho8
            have hz8 := hg8.size
            have hb8 := hb7.trans (grownBy_below hg8 hwR (by omega))
            have Hhr8 := Lib.hid hr8
            clear hr8
            have Hho8 := Lib.hid ho8
            clear ho8
            go_wp2_with fail
            refine (Texts_reads R [] true w8 Hhr8.out (by simp) (by simp)).mono ?_
            rw [dead_texts]
            rintro e w9 ⟨v9, rfl, ho9, hr9, hg9⟩
            obtain ⟨oa9, cap9, rfl⟩ := own_open ho9
            have hz9 := hg9.size
            have hb9 := hb8.trans (grownBy_below hg9 hwR (by omega))
            have Hhr9 := Lib.hid hr9
            clear hr9
            have Hho9 := Lib.hid ho9
            clear ho9
            go_wp2_with fail
            refine (rNum_calls R [] true w9 Hhr9.out (by simp)).mono ?_
            rw [dead_num]
            rintro e w10 ⟨rfl, hr10, hg10⟩
            have hz10 := hg10.size
            have hb10 := hb9.trans (grownBy_below hg10 hwR (by omega))
            go_wp2_with fail
            go_ret
            exact ⟨ret_bool (by first | (simp; done) | (simp; omega)), hb10⟩
      · have hctr := Texts_reads R s' false wr Hhr.out (by simp) (by omega)
        have hback := rTexts_back (s := s')
        have hbadl := rTexts_bad s'
        have hzero := show (rTexts (encTexts []) false).2.2 = false from by decide +kernel
        have hin := And.intro (ok_rTexts s' false).2 (rTexts_short s' false (by omega))
        rcases hx : rTexts s' false with ⟨z, s2, b2⟩
        rw [hx] at hctr hback hbadl hin
        simp only at hctr hback hbadl hin
        have Hhctr := Lib.hid hctr
        clear hctr
        have Hhback := Lib.hid hback
        clear hback
        have Hhbadl := Lib.hid hbadl
        clear hbadl
        have Hhzero := Lib.hid hzero
        clear hzero
        have Hhin := Lib.hid hin
        clear hin
        have Hhx := Lib.hid hx
        clear hx
        go_wp2_with fail
        refine Hhctr.out.mono ?_
        rintro e w4 ⟨v4, rfl, ho4, hr4, hg4⟩
        have hsz4 := hg4.size
        have hRw4 := hr4.cells.2.2.2.2
        have hbel4 : Below w.heap.size w w4 := hbel.trans (grownBy_below hg4 hwR hsz)
        have hm4 : w4.cell? ⟨0, 0, none⟩ = some (.int .i64 m) := by rw [← Hhm.out]; exact hbel4.cell (p := ⟨0, 0, none⟩) h0
        have hi4 := StrsAt.of_owned ho4 (fun x hx => by have := Hhin.out.2 x hx; omega) (by have := Hhin.out.1; omega)
        have Hhi4 := Lib.hid hi4
        clear hi4
        have Hhr4 := Lib.hid hr4
        clear hr4
        have Hhm4 := Lib.hid hm4
        clear hm4
        go_wp2_with fail
        refine (Texts_calls v4 (z.map bytesOf) m w4 Hhi4.out (by have := Hhin.out.1; simp; omega) (fun x hx => by simp only [List.mem_map] at hx; obtain ⟨y, hy, rfl⟩ := hx; have := Hhin.out.2 y hy; simpa [bytesOf, ByteArray.size] using this) Hhm4.out).mono ?_
        rintro e w5 ⟨rfl, hB5⟩
        have hsz5 := hB5.size
        have hr5 := Hhr4.out.below hB5 hRw4
        have hbel5 : Below w.heap.size w w5 := hbel4.trans (hB5.mono (by omega))
        clear Hhr4 Hhm4 hB5 hg4 Hhctr Hhin Hhi4 ho4
        have Hhr5 := Lib.hid hr5
        clear hr5
        cases b2
        · have hgood := Hhback.out (by simp)
          have hgl2 : g.length + ((encTexts (z.map bytesOf)).length + s2.length) = s0.length := by rw [← hgl, hgood]; simp only [List.length_append]
          have hpre : g ++ (encTexts (z.map bytesOf)) <+: s0 := ⟨s2, by rw [← Hhgs.out, hgood, List.append_assoc]⟩
          have hgs2 : (g ++ (encTexts (z.map bytesOf))) ++ s2 = s0 := by rw [List.append_assoc, ← hgood]; exact Hhgs.out
          have hcat := cat_run g (encTexts (z.map bytesOf)) (by omega) w5
          have hgel : (g ++ (encTexts (z.map bytesOf))).length = g.length + (encTexts (z.map bytesOf)).length := by simp
          generalize g ++ (encTexts (z.map bytesOf)) = g2 at *
          clear hgood
          have hle : (g2.length : Int) ≤ s0.length := by omega
          have hsub : (s2.length : Int) = (s0.length : Int) - g2.length := by omega
          have hsb : ((s2.length : Int) == (s0.length : Int) - g2.length) = true := by rw [hsub]; simp
          have hs2l : s2.length ≤ 1000 := by omega
          have hg2l : g2.length ≤ 1000 := by omega
          clear hgel hsub hgl2
          have Hgl := Lib.hid hgl
          clear hgl
          have Hhpre := Lib.hid hpre
          clear hpre
          have Hhgs2 := Lib.hid hgs2
          clear hgs2
          go_wp2_with fail
          refine (Left_calls R _ _ w5 Hhr5.out (by omega)).mono ?_
          rintro e w6 ⟨rfl, rfl⟩
          go_wp2_with fail
          refine (begins_list _ _ _ (by omega) (by omega)).mono ?_
          rintro e w6 ⟨b1, rfl, hb1, rfl⟩
          obtain rfl : b1 = true := hb1.2 Hhpre.out
          clear hb1
          go_wp2_with fail
          exact ⟨⟨i + 1, g2, s2, by go_num, rfl, by omega, Hhgs2.out, Hhr5.out, hbel5⟩, by simp [intOf]; omega⟩
        · have hbad := Hhbadl.out (by simp)
          obtain ⟨hz, rfl⟩ : z = [] ∧ s2 = [] := by simpa using hbad
          subst hz
          clear hbad
          have hne : s' ≠ (encTexts []) := fun e => by
            have := Hhzero.out
            rw [← e, Hhx.out] at this
            simp at this
          have hE9 : ((encTexts [])).length ≤ 9 := by decide
          have hcat := cat_run g (encTexts []) (by omega) w5
          have hgel : (g ++ (encTexts [])).length = g.length + ((encTexts [])).length := by simp
          have hcan : (g ++ (encTexts [])) <+: s0 → (g ++ (encTexts [])).length = s0.length → s' = (encTexts []) := fun h1 h2 => append_cancel Hhgs.out h1 h2
          generalize g ++ (encTexts []) = g2 at *
          have Hgl := Lib.hid hgl
          clear hgl
          have Hhne := Lib.hid hne
          clear hne
          have Hhgel := Lib.hid hgel
          clear hgel
          have Hhcan := Lib.hid hcan
          clear hcan
          by_cases hle : (g2.length : Int) ≤ s0.length
          · by_cases heq : g2.length = s0.length
            · have hsb : ((0 : Int) == (s0.length : Int) - g2.length) = true := by rw [heq]; simp
              have Hheq := Lib.hid heq
              clear heq
              go_wp2_with fail
              refine (Left_calls R _ _ w5 Hhr5.out (by simp)).mono ?_
              rintro e w6 ⟨rfl, rfl⟩
              go_wp2_with fail
              refine (begins_list _ _ _ (by omega) (by have := Hhgel.out; omega)).mono ?_
              rintro e w6 ⟨b1, rfl, hb1, rfl⟩
              obtain rfl : b1 = false := by
                cases b1
                · rfl
                · exact absurd (Hhcan.out (hb1.1 rfl) Hheq.out) Hhne.out
              clear hb1
              go_wp2_with fail
              refine (Done_calls R _ _ w5 Hhr5.out).mono ?_
              rintro e w6 ⟨rfl, rfl⟩
              go_wp2_with fail
              refine (Left_calls R _ _ w5 Hhr5.out (by simp)).mono ?_
              rintro e w6 ⟨rfl, rfl⟩
              go_wp2_with fail
              refine (rInt_calls R [] true w5 Hhr5.out (by simp)).mono ?_
              rw [dead_int]
              rintro e w6 ⟨rfl, hr6, hg6⟩
              have hz6 := hg6.size
              have hb6 := hbel5.trans (grownBy_below hg6 hwR (by omega))
              have Hhr6 := Lib.hid hr6
              clear hr6
              go_wp2_with fail
              refine (Text_reads R [] true w6 Hhr6.out (by simp)).mono ?_
              rw [dead_text]
              rintro e w7 ⟨rfl, hr7, hg7⟩
              have hz7 := hg7.size
              have hb7 := hb6.trans (grownBy_below hg7 hwR (by omega))
              have Hhr7 := Lib.hid hr7
              clear hr7
              go_wp2_with fail
              refine (Nums_reads R [] true w7 Hhr7.out (by simp) (by simp)).mono ?_
              rw [dead_nums]
              rintro e w8 ⟨v8, rfl, ho8, hr8, hg8⟩
              obtain ⟨oa8, cap8, rfl⟩ := own_open ho8
              have hz8 := hg8.size
              have hb8 := hb7.trans (grownBy_below hg8 hwR (by omega))
              have Hhr8 := Lib.hid hr8
              clear hr8
              have Hho8 := Lib.hid ho8
              clear ho8
              go_wp2_with fail
              refine (Texts_reads R [] true w8 Hhr8.out (by simp) (by simp)).mono ?_
              rw [dead_texts]
              rintro e w9 ⟨v9, rfl, ho9, hr9, hg9⟩
              obtain ⟨oa9, cap9, rfl⟩ := own_open ho9
              have hz9 := hg9.size
              have hb9 := hb8.trans (grownBy_below hg9 hwR (by omega))
              have Hhr9 := Lib.hid hr9
              clear hr9
              have Hho9 := Lib.hid ho9
              clear ho9
              go_wp2_with fail
              refine (rNum_calls R [] true w9 Hhr9.out (by simp)).mono ?_
              rw [dead_num]
              rintro e w10 ⟨rfl, hr10, hg10⟩
              have hz10 := hg10.size
              have hb10 := hb9.trans (grownBy_below hg10 hwR (by omega))
              go_wp2_with fail
              go_ret
              exact ⟨ret_bool (by first | (simp; done) | (simp; omega)), hb10⟩
            · have hsb : ((0 : Int) == (s0.length : Int) - g2.length) = false := by simp; omega
              go_wp2_with fail
              refine (Left_calls R _ _ w5 Hhr5.out (by simp)).mono ?_
              rintro e w6 ⟨rfl, rfl⟩
              go_wp2_with fail
              refine (Done_calls R _ _ w5 Hhr5.out).mono ?_
              rintro e w6 ⟨rfl, rfl⟩
              go_wp2_with fail
              refine (Left_calls R _ _ w5 Hhr5.out (by simp)).mono ?_
              rintro e w6 ⟨rfl, rfl⟩
              go_wp2_with fail
              refine (rInt_calls R [] true w5 Hhr5.out (by simp)).mono ?_
              rw [dead_int]
              rintro e w6 ⟨rfl, hr6, hg6⟩
              have hz6 := hg6.size
              have hb6 := hbel5.trans (grownBy_below hg6 hwR (by omega))
              have Hhr6 := Lib.hid hr6
              clear hr6
              go_wp2_with fail
              refine (Text_reads R [] true w6 Hhr6.out (by simp)).mono ?_
              rw [dead_text]
              rintro e w7 ⟨rfl, hr7, hg7⟩
              have hz7 := hg7.size
              have hb7 := hb6.trans (grownBy_below hg7 hwR (by omega))
              have Hhr7 := Lib.hid hr7
              clear hr7
              go_wp2_with fail
              refine (Nums_reads R [] true w7 Hhr7.out (by simp) (by simp)).mono ?_
              rw [dead_nums]
              rintro e w8 ⟨v8, rfl, ho8, hr8, hg8⟩
              obtain ⟨oa8, cap8, rfl⟩ := own_open ho8
              have hz8 := hg8.size
              have hb8 := hb7.trans (grownBy_below hg8 hwR (by omega))
              have Hhr8 := Lib.hid hr8
              clear hr8
              have Hho8 := Lib.hid ho8
              clear ho8
              go_wp2_with fail
              refine (Texts_reads R [] true w8 Hhr8.out (by simp) (by simp)).mono ?_
              rw [dead_texts]
              rintro e w9 ⟨v9, rfl, ho9, hr9, hg9⟩
              obtain ⟨oa9, cap9, rfl⟩ := own_open ho9
              have hz9 := hg9.size
              have hb9 := hb8.trans (grownBy_below hg9 hwR (by omega))
              have Hhr9 := Lib.hid hr9
              clear hr9
              have Hho9 := Lib.hid ho9
              clear ho9
              go_wp2_with fail
              refine (rNum_calls R [] true w9 Hhr9.out (by simp)).mono ?_
              rw [dead_num]
              rintro e w10 ⟨rfl, hr10, hg10⟩
              have hz10 := hg10.size
              have hb10 := hb9.trans (grownBy_below hg10 hwR (by omega))
              go_wp2_with fail
              go_ret
              exact ⟨ret_bool (by first | (simp; done) | (simp; omega)), hb10⟩
          · go_wp2_with fail
            go_wp2_with fail
            refine (Done_calls R _ _ w5 Hhr5.out).mono ?_
            rintro e w6 ⟨rfl, rfl⟩
            go_wp2_with fail
            refine (Left_calls R _ _ w5 Hhr5.out (by simp)).mono ?_
            rintro e w6 ⟨rfl, rfl⟩
            go_wp2_with fail
            refine (rInt_calls R [] true w5 Hhr5.out (by simp)).mono ?_
            rw [dead_int]
            rintro e w6 ⟨rfl, hr6, hg6⟩
            have hz6 := hg6.size
            have hb6 := hbel5.trans (grownBy_below hg6 hwR (by omega))
            have Hhr6 := Lib.hid hr6
            clear hr6
            go_wp2_with fail
            refine (Text_reads R [] true w6 Hhr6.out (by simp)).mono ?_
            rw [dead_text]
            rintro e w7 ⟨rfl, hr7, hg7⟩
            have hz7 := hg7.size
            have hb7 := hb6.trans (grownBy_below hg7 hwR (by omega))
            have Hhr7 := Lib.hid hr7
            clear hr7
            go_wp2_with fail
            refine (Nums_reads R [] true w7 Hhr7.out (by simp) (by simp)).mono ?_
            rw [dead_nums]
            rintro e w8 ⟨v8, rfl, ho8, hr8, hg8⟩
            obtain ⟨oa8, cap8, rfl⟩ := own_open ho8
            have hz8 := hg8.size
            have hb8 := hb7.trans (grownBy_below hg8 hwR (by omega))
            have Hhr8 := Lib.hid hr8
            clear hr8
            have Hho8 := Lib.hid ho8
            clear ho8
            go_wp2_with fail
            refine (Texts_reads R [] true w8 Hhr8.out (by simp) (by simp)).mono ?_
            rw [dead_texts]
            rintro e w9 ⟨v9, rfl, ho9, hr9, hg9⟩
            obtain ⟨oa9, cap9, rfl⟩ := own_open ho9
            have hz9 := hg9.size
            have hb9 := hb8.trans (grownBy_below hg9 hwR (by omega))
            have Hhr9 := Lib.hid hr9
            clear hr9
            have Hho9 := Lib.hid ho9
            clear ho9
            go_wp2_with fail
            refine (rNum_calls R [] true w9 Hhr9.out (by simp)).mono ?_
            rw [dead_num]
            rintro e w10 ⟨rfl, hr10, hg10⟩
            have hz10 := hg10.size
            have hb10 := hb9.trans (grownBy_below hg10 hwR (by omega))
            go_wp2_with fail
            go_ret
            exact ⟨ret_bool (by first | (simp; done) | (simp; omega)), hb10⟩
    · go_wp2_with fail
      go_ret
      exact ⟨rfl, hbel⟩
end Go.Proofs.YtiopehgghlfmgaaDoor
