/- The walk of WireReads. -/
import Derived.Test.YtiopehgghlfmgaaDoorW17
set_option linter.unusedSimpArgs false
set_option linter.unusedVariables false
namespace Go.Proofs.YtiopehgghlfmgaaDoor
open Go.RowKit

set_option maxRecDepth 100000 in
set_option maxHeartbeats 2000000 in
theorem Reads_calls (s : ByteArray) (v : Value) (l : List UInt8) (m : Int) (w : World) (hl : U8sAt w v l) (hs : s.size ≤ 9223372036854775807) (hm : w.cell? ⟨0, 0, none⟩ = some (.int .i64 m)) (h0 : 0 < w.heap.size) :
    Calls Tryd.prog 5 #[.string s, v] w fun e w' => e = .returned (.bool true) ∧ Below w.heap.size w w' := by
  have hl0 := hl
  obtain ⟨oa, cap, rfl, hmx, -⟩ := hl
  have Hhl0 := Lib.hid hl0
  clear hl0
  have Hhm := Lib.hid hm
  clear hm
  go_enter Tryd.func5, Tryd.ntmps5
  go_wp2_with fail
  refine (small_calls m w Hhm.out h0).mono ?_
  rintro e w1 ⟨rfl, hB1⟩
  have hsz1 := hB1.size
  by_cases hs1 : s.size ≤ 1000
  rotate_left
  · go_wp2_with fail
    go_ret
    exact ⟨rfl, hB1⟩
  by_cases hl1 : l.length ≤ 30
  rotate_left
  · go_wp2_with fail
    go_ret
    exact ⟨rfl, hB1⟩
  go_wp2_with fail
  go_wp2_with fail
  refine (Open_calls s w1).mono ?_
  rintro e w2 ⟨rfl, hr2, hB2⟩
  have hsz2 := hB2.size
  have hlt2 := hr2.cells.2.2.2.2
  have Hhr2 := Lib.hid hr2
  clear hr2
  go_wp2_with fail
  refine (OpenR_calls s w2).mono ?_
  rintro e w3 ⟨rfl, hq3, hB3⟩
  have hsz3 := hB3.size
  have hlt3 := hq3.cells.2.2.2.2
  have hr3 := Hhr2.out.below hB3 hlt2
  have hbel3 : Below w.heap.size w w3 := (by ((repeat' (first | exact Below.refl _ _ | (refine Below.alloc ?_ ?_ _) | (refine Below.setCell ?_ ?_ _) | (refine Below.drew ?_) | (refine Below.trans ?_ (Below.mono (by assumption) ?_)))) <;> ((try simp only [World.size_alloc, World.size_setCell, World.size_drew] at *); omega)))
  obtain ⟨R, hR⟩ : ∃ R, R = w1.heap.size := ⟨_, rfl⟩
  obtain ⟨Q, hQ⟩ : ∃ Q, Q = w2.heap.size := ⟨_, rfl⟩
  rw [← hR] at hr3 hlt2 ⊢
  rw [← hQ] at hq3 hlt3 hlt2 ⊢
  have hwR : w.heap.size ≤ R := by omega
  have hd0 : s.data.toList.length ≤ 1000 := by rw [len_data]; exact hs1
  clear hR hQ hsz1 hsz2 hsz3 hB1 hB2 hB3 Hhr2
  generalize s.data.toList = s0 at *
  have Hhr3 := Lib.hid hr3
  clear hr3
  have Hhq3 := Lib.hid hq3
  clear hq3
  go_wp2_with fail
  go_loopw [8, 9] (fun s8 _ wr => ∃ (i : Nat) (s' : List UInt8) (bd : Bool), s8 = .int .i64 i ∧ i ≤ l.length ∧ (bd = true → s' = []) ∧ s'.length ≤ 1000 ∧ ReaderAt wr R s' bd ∧ QAt wr Q s' bd ∧ Below w.heap.size w wr) (fun s8 _ _ => l.length - (intOf s8).toNat)
  case atStart => exact ⟨0, s0, false, rfl, by omega, by simp, by omega, Hhr3.out, Hhq3.out, hbel3⟩
  case round =>
    obtain ⟨i, s', bd, rfl, hi, hbd, hlen, hr, hq, hbel⟩ := hrel
    have hsz := hbel.size
    have hRw := hr.cells.2.2.2.2
    have hQw := hq.cells.2.2.2.2
    have Hhr := Lib.hid hr
    clear hr
    have Hhq := Lib.hid hq
    clear hq
    have Hhbd := Lib.hid hbd
    clear hbd
    by_cases hlt : i < l.length
    · obtain ⟨-, p, o, rfl, hp, hc⟩ := (Hhl0.out.below hbel (Nat.le_refl _)).at' hlt
      have hc0 : (0 : Int) ≤ (l[i].toNat : Int) := by omega
      have hc1 : (l[i].toNat : Int) ≤ 255 := by have := l[i].toNat_lt; omega
      generalize (l[i].toNat : Int) = c at *
      have hcase : c % 5 = 0 ∨ c % 5 = 1 ∨ c % 5 = 2 ∨ c % 5 = 3 ∨ c % 5 = 4 := by omega
      rcases hcase with h5 | h5 | h5 | h5 | h5
      · go_wp2_with fail
        refine (rNum_calls R s' bd wr Hhr.out (by omega)).mono ?_
        rintro e w4 ⟨rfl, hr4, hg4⟩
        have hsz4 := hg4.size
        have hq4 := Hhq.out.grown hg4 (by omega)
        have Hhq4 := Lib.hid hq4
        clear hq4
        go_wp2_with fail
        refine (rNumR_calls Q s' bd w4 Hhq4.out (by omega)).mono ?_
        rintro e w5 ⟨rfl, hq5, hg5⟩
        have hsz5 := hg5.size
        have hr5 := hr4.grown hg5 (by omega)
        obtain ⟨ok1, ok2⟩ := ok_rNum s' bd Hhbd.out
        have hbel5 : Below w.heap.size w w5 := (hbel.trans (grownBy_below hg4 hwR hsz)).trans (grownBy_below hg5 (by omega) (by omega))
        clear hr4 hg4 hg5
        generalize rNum s' bd = x at *
        obtain ⟨z, s2, b2⟩ := x
        simp only at ok1 ok2 hr5 hq5
        have Hhr5 := Lib.hid hr5
        clear hr5
        have Hhq5 := Lib.hid hq5
        clear hq5
        have Hok1 := Lib.hid ok1
        clear ok1
        go_wp2_with fail
        refine (Left_calls R _ _ w5 Hhr5.out (by omega)).mono ?_
        rintro e w6 ⟨rfl, rfl⟩
        go_wp2_with fail
        refine (LeftR_calls Q _ _ w5 Hhq5.out (by omega)).mono ?_
        rintro e w6 ⟨rfl, rfl⟩
        go_wp2_with fail
        refine (Done_calls R _ _ w5 Hhr5.out).mono ?_
        rintro e w6 ⟨rfl, rfl⟩
        go_wp2_with fail
        refine (DoneR_calls Q _ _ w5 Hhq5.out).mono ?_
        rintro e w6 ⟨rfl, rfl⟩
        go_wp2_with fail
        exact ⟨⟨i + 1, s2, b2, by go_num, by omega, Hok1.out, by omega, Hhr5.out, Hhq5.out, hbel5⟩, by simp [intOf]; omega⟩
      · go_wp2_with fail
        refine (rInt_calls R s' bd wr Hhr.out (by omega)).mono ?_
        rintro e w4 ⟨rfl, hr4, hg4⟩
        have hsz4 := hg4.size
        have hq4 := Hhq.out.grown hg4 (by omega)
        have Hhq4 := Lib.hid hq4
        clear hq4
        go_wp2_with fail
        refine (rIntR_calls Q s' bd w4 Hhq4.out (by omega)).mono ?_
        rintro e w5 ⟨rfl, hq5, hg5⟩
        have hsz5 := hg5.size
        have hr5 := hr4.grown hg5 (by omega)
        obtain ⟨ok1, ok2⟩ := ok_rInt s' bd Hhbd.out
        have hbel5 : Below w.heap.size w w5 := (hbel.trans (grownBy_below hg4 hwR hsz)).trans (grownBy_below hg5 (by omega) (by omega))
        clear hr4 hg4 hg5
        generalize rInt s' bd = x at *
        obtain ⟨z, s2, b2⟩ := x
        simp only at ok1 ok2 hr5 hq5
        have Hhr5 := Lib.hid hr5
        clear hr5
        have Hhq5 := Lib.hid hq5
        clear hq5
        have Hok1 := Lib.hid ok1
        clear ok1
        go_wp2_with fail
        refine (Left_calls R _ _ w5 Hhr5.out (by omega)).mono ?_
        rintro e w6 ⟨rfl, rfl⟩
        go_wp2_with fail
        refine (LeftR_calls Q _ _ w5 Hhq5.out (by omega)).mono ?_
        rintro e w6 ⟨rfl, rfl⟩
        go_wp2_with fail
        refine (Done_calls R _ _ w5 Hhr5.out).mono ?_
        rintro e w6 ⟨rfl, rfl⟩
        go_wp2_with fail
        refine (DoneR_calls Q _ _ w5 Hhq5.out).mono ?_
        rintro e w6 ⟨rfl, rfl⟩
        go_wp2_with fail
        exact ⟨⟨i + 1, s2, b2, by go_num, by omega, Hok1.out, by omega, Hhr5.out, Hhq5.out, hbel5⟩, by simp [intOf]; omega⟩
      · go_wp2_with fail
        refine (Text_reads R s' bd wr Hhr.out (by omega)).mono ?_
        rintro e w4 ⟨rfl, hr4, hg4⟩
        have hsz4 := hg4.size
        have hq4 := Hhq.out.grown hg4 (by omega)
        have Hhq4 := Lib.hid hq4
        clear hq4
        go_wp2_with fail
        refine (Text_readsR Q s' bd w4 Hhq4.out (by omega)).mono ?_
        rintro e w5 ⟨rfl, hq5, hg5⟩
        have hsz5 := hg5.size
        have hr5 := hr4.grown hg5 (by omega)
        obtain ⟨ok1, ok2⟩ := ok_rText s' bd Hhbd.out
        have hbel5 : Below w.heap.size w w5 := (hbel.trans (grownBy_below hg4 hwR hsz)).trans (grownBy_below hg5 (by omega) (by omega))
        clear hr4 hg4 hg5
        generalize rText s' bd = x at *
        obtain ⟨z, s2, b2⟩ := x
        simp only at ok1 ok2 hr5 hq5
        have Hhr5 := Lib.hid hr5
        clear hr5
        have Hhq5 := Lib.hid hq5
        clear hq5
        have Hok1 := Lib.hid ok1
        clear ok1
        go_wp2_with fail
        refine (Left_calls R _ _ w5 Hhr5.out (by omega)).mono ?_
        rintro e w6 ⟨rfl, rfl⟩
        go_wp2_with fail
        refine (LeftR_calls Q _ _ w5 Hhq5.out (by omega)).mono ?_
        rintro e w6 ⟨rfl, rfl⟩
        go_wp2_with fail
        refine (Done_calls R _ _ w5 Hhr5.out).mono ?_
        rintro e w6 ⟨rfl, rfl⟩
        go_wp2_with fail
        refine (DoneR_calls Q _ _ w5 Hhq5.out).mono ?_
        rintro e w6 ⟨rfl, rfl⟩
        go_wp2_with fail
        exact ⟨⟨i + 1, s2, b2, by go_num, by omega, Hok1.out, by omega, Hhr5.out, Hhq5.out, hbel5⟩, by simp [intOf]; omega⟩
      · go_wp2_with fail
        refine (Nums_reads R s' bd wr Hhr.out Hhbd.out (by omega)).mono ?_
        rintro e w4 ⟨v4, rfl, hown4, hr4, hg4⟩
        have hsz4 := hg4.size
        have hq4 := Hhq.out.grown hg4 (by omega)
        have Hhq4 := Lib.hid hq4
        clear hq4
        have Hhown4 := Lib.hid hown4
        clear hown4
        go_wp2_with fail
        refine (Nums_readsR Q s' bd w4 Hhq4.out Hhbd.out (by omega)).mono ?_
        rintro e w5 ⟨v5, rfl, hown5, hq5, hg5⟩
        have hsz5 := hg5.size
        have hr5 := hr4.grown hg5 (by omega)
        obtain ⟨⟨ok1, ok2⟩, ok3, ok4⟩ := ok_rNums s' bd
        have hown45 := ownsRow_grown Hhown4.out hg5 (by omega)
        have hbel5 : Below w.heap.size w w5 := (hbel.trans (grownBy_below hg4 hwR hsz)).trans (grownBy_below hg5 (by omega) (by omega))
        have hi4 := IntsAt.of_owned hown45 ok4 (by omega)
        have hi5 := IntsAt.of_owned hown5 ok4 (by omega)
        clear hr4 hg4 hg5 hown5 hown45 Hhown4 ok4
        generalize rNums s' bd = x at *
        obtain ⟨z, s2, b2⟩ := x
        simp only at ok1 ok2 ok3 hr5 hq5 hi4 hi5
        have Hhr5 := Lib.hid hr5
        clear hr5
        have Hhq5 := Lib.hid hq5
        clear hq5
        have Hok1 := Lib.hid ok1
        clear ok1
        have Hhi4 := Lib.hid hi4
        clear hi4
        have Hhi5 := Lib.hid hi5
        clear hi5
        go_wp2_with fail
        refine (SameNums_calls v4 v5 _ _ w5 Hhi4.out Hhi5.out).mono ?_
        rintro e w6 ⟨rfl, hB6⟩
        rw [decide_eq_true rfl]
        have hsz6 := hB6.size
        have hr6 := Hhr5.out.below hB6 (by omega)
        have hq6 := Hhq5.out.below hB6 (by omega)
        have hbel6 : Below w.heap.size w w6 := hbel5.trans (hB6.mono (by omega))
        clear Hhr5 Hhq5 Hhi4 Hhi5 hB6
        have Hhr6 := Lib.hid hr6
        clear hr6
        have Hhq6 := Lib.hid hq6
        clear hq6
        go_wp2_with fail
        refine (Left_calls R _ _ w6 Hhr6.out (by omega)).mono ?_
        rintro e w7 ⟨rfl, rfl⟩
        go_wp2_with fail
        refine (LeftR_calls Q _ _ w6 Hhq6.out (by omega)).mono ?_
        rintro e w7 ⟨rfl, rfl⟩
        go_wp2_with fail
        refine (Done_calls R _ _ w6 Hhr6.out).mono ?_
        rintro e w7 ⟨rfl, rfl⟩
        go_wp2_with fail
        refine (DoneR_calls Q _ _ w6 Hhq6.out).mono ?_
        rintro e w7 ⟨rfl, rfl⟩
        go_wp2_with fail
        exact ⟨⟨i + 1, s2, b2, by go_num, by omega, Hok1.out, by omega, Hhr6.out, Hhq6.out, hbel6⟩, by simp [intOf]; omega⟩
      · go_wp2_with fail
        refine (Texts_reads R s' bd wr Hhr.out Hhbd.out (by omega)).mono ?_
        rintro e w4 ⟨v4, rfl, hown4, hr4, hg4⟩
        have hsz4 := hg4.size
        have hq4 := Hhq.out.grown hg4 (by omega)
        have Hhq4 := Lib.hid hq4
        clear hq4
        have Hhown4 := Lib.hid hown4
        clear hown4
        go_wp2_with fail
        refine (Texts_readsR Q s' bd w4 Hhq4.out Hhbd.out (by omega)).mono ?_
        rintro e w5 ⟨v5, rfl, hown5, hq5, hg5⟩
        have hsz5 := hg5.size
        have hr5 := hr4.grown hg5 (by omega)
        obtain ⟨⟨ok1, ok2⟩, ok3⟩ := ok_rTexts s' bd
        have ok4 := rTexts_short s' bd (by omega)
        have hown45 := ownsRow_grown Hhown4.out hg5 (by omega)
        have hbel5 : Below w.heap.size w w5 := (hbel.trans (grownBy_below hg4 hwR hsz)).trans (grownBy_below hg5 (by omega) (by omega))
        have hi4 := StrsAt.of_owned hown45 (fun x hx => by have := ok4 x hx; omega) (by omega)
        have hi5 := StrsAt.of_owned hown5 (fun x hx => by have := ok4 x hx; omega) (by omega)
        clear hr4 hg4 hg5 hown5 hown45 Hhown4 ok4
        generalize rTexts s' bd = x at *
        obtain ⟨z, s2, b2⟩ := x
        simp only at ok1 ok2 ok3 hr5 hq5 hi4 hi5
        have Hhr5 := Lib.hid hr5
        clear hr5
        have Hhq5 := Lib.hid hq5
        clear hq5
        have Hok1 := Lib.hid ok1
        clear ok1
        have Hhi4 := Lib.hid hi4
        clear hi4
        have Hhi5 := Lib.hid hi5
        clear hi5
        go_wp2_with fail
        refine (SameTexts_calls v4 v5 _ _ w5 Hhi4.out Hhi5.out).mono ?_
        rintro e w6 ⟨rfl, hB6⟩
        rw [decide_eq_true rfl]
        have hsz6 := hB6.size
        have hr6 := Hhr5.out.below hB6 (by omega)
        have hq6 := Hhq5.out.below hB6 (by omega)
        have hbel6 : Below w.heap.size w w6 := hbel5.trans (hB6.mono (by omega))
        clear Hhr5 Hhq5 Hhi4 Hhi5 hB6
        have Hhr6 := Lib.hid hr6
        clear hr6
        have Hhq6 := Lib.hid hq6
        clear hq6
        go_wp2_with fail
        refine (Left_calls R _ _ w6 Hhr6.out (by omega)).mono ?_
        rintro e w7 ⟨rfl, rfl⟩
        go_wp2_with fail
        refine (LeftR_calls Q _ _ w6 Hhq6.out (by omega)).mono ?_
        rintro e w7 ⟨rfl, rfl⟩
        go_wp2_with fail
        refine (Done_calls R _ _ w6 Hhr6.out).mono ?_
        rintro e w7 ⟨rfl, rfl⟩
        go_wp2_with fail
        refine (DoneR_calls Q _ _ w6 Hhq6.out).mono ?_
        rintro e w7 ⟨rfl, rfl⟩
        go_wp2_with fail
        exact ⟨⟨i + 1, s2, b2, by go_num, by omega, Hok1.out, by omega, Hhr6.out, Hhq6.out, hbel6⟩, by simp [intOf]; omega⟩
    · go_wp2_with fail
      go_ret
      exact ⟨rfl, hbel⟩
end Go.Proofs.YtiopehgghlfmgaaDoor
