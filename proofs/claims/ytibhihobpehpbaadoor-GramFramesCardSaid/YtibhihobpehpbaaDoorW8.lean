/- The walk of the reference's reader's Int. -/
import Derived.Test.YtibhihobpehpbaaDoorW7
set_option linter.unusedSimpArgs false
set_option linter.unusedVariables false
namespace Go.Proofs.YtibhihobpehpbaaDoor
open Go.RowKit

theorem drop1_extract (c : UInt8) (t : List UInt8) (k : Nat) : (ByteArray.mk (c :: t).toArray).extract (1 + k) (t.length + 1) = ⟨(t.drop k).toArray⟩ := by
  apply ByteArray.ext
  rw [Nat.add_comm 1 k]
  simp [ByteArray.data_extract]
  rw [List.take_of_length_le (by simp)]
theorem QAt.drewN {w : World} {b : Nat} {s : List UInt8} {bad : Bool} (h : QAt w b s bad) (n : Nat) : QAt (w.drewN n) b s bad := h

set_option maxRecDepth 100000 in
set_option maxHeartbeats 1000000 in
theorem rInt_true (b : Nat) (c : UInt8) (t : List UInt8) (bad : Bool) (w : World) (h : QAt w b (c :: t) bad) (htl : t.length ≤ 9223372036854775806) (hneg : c.toNat < 128) :
    Calls Tryd.prog 31 #[.pointer (some ⟨b, 0, none⟩)] w fun e w' => e = .returned (.int .i64 (rInt (c :: t) bad).1) ∧ QAt w' b (rInt (c :: t) bad).2.1 (rInt (c :: t) bad).2.2 ∧ w.grownBy w' (some b) := by
  obtain ⟨c0, c1, f0, f1, hlt⟩ := h.cells
  have hc256 : c.toNat < 256 := c.toNat_lt
  have ek : 127 - (c.toNat : Int) = (cnt8 c : Int) := by unfold cnt8; rw [if_pos hneg]; omega
  have hdec : decide (c.toNat < 128) = true := by simpa using hneg
  have hkb : cnt8 c ≤ 128 := by unfold cnt8; split <;> omega
  generalize hk : cnt8 c = k at *
  have Hh := Lib.hid h
  clear h
  have Hhk := Lib.hid hk
  clear hk
  have Hhdec := Lib.hid hdec
  clear hdec
  by_cases hk8 : 8 < k
  · go_enter Tryd.func31, Tryd.ntmps31
    go_wp2_with fail
    refine (failR_calls b (c :: t) bad w Hh.out).mono ?_
    rintro e w2 ⟨rfl, hr2, hg2⟩
    go_wp2_with fail
    go_ret
    have e1 : rInt (c :: t) bad = (0, [], true) := by simp [rInt, Hhk.out, hk8]
    rw [e1]
    exact ⟨rfl, hr2, hg2⟩
  · by_cases hkt : t.length < k
    · have hkt2 : (t.length : Int) + 1 < 1 + k := by omega
      go_enter Tryd.func31, Tryd.ntmps31
      go_wp2_with fail
      refine (failR_calls b (c :: t) bad w Hh.out).mono ?_
      rintro e w2 ⟨rfl, hr2, hg2⟩
      go_wp2_with fail
      go_ret
      have e1 : rInt (c :: t) bad = (0, [], true) := by simp [rInt, Hhk.out, hkt]
      rw [e1]
      exact ⟨rfl, hr2, hg2⟩
    · go_enter Tryd.func31, Tryd.ntmps31
      go_wp2_with fail
      go_loop [5, 6] (fun s5 s6 => ∃ j : Nat, j ≤ k ∧ s6 = .int .i64 (j + 1) ∧ s5 = .int .u64 (num true (t.take j) : Nat)) (fun _ s6 => k + 1 - (intOf s6).toNat)
      case atStart => exact ⟨0, by omega, rfl, by simp [num]⟩
      case round =>
        obtain ⟨j, hj, rfl, rfl⟩ := hrel
        by_cases hjk : j < k
        · have hjt : j < t.length := by omega
          have hm7 := num_lt7 true t j (by omega) (by omega)
          have hsn := num_snoc true t j hjt
          have hx := t[j].toNat_lt
          simp only [if_true] at hsn
          generalize num true (t.take j) = m at *
          have Hhsn := Lib.hid hsn
          clear hsn
          go_wp2_with fail
          exact ⟨⟨j + 1, by omega, by go_num, by rw [Hhsn.out]; exact ret_u64 (by omega)⟩, by simp [intOf]; omega⟩
        · have hje : j = k := by omega
          subst hje
          have hm8 := num_lt8 true t j (by omega) (by omega)
          generalize hmm : num true (t.take j) = m at *
          have hs8 := sz_le m hm8
          have Hhmm := Lib.hid hmm
          clear hmm
          by_cases hbig : m < 9223372036854775808
          · have hwm := wrap_m m hbig
            have hmag : mag (-(m : Int) - 1) = m := by unfold mag; first | (rw [if_pos (by omega)]; omega) | (rw [if_neg (by omega)]; omega)
            have hin : In64 (-(m : Int) - 1) := by unfold In64; omega
            have hiff := encInt_num c t j Hhk.out (by omega) (by omega) (-(m : Int) - 1) (by rw [Hhdec.out]; simp <;> omega) (by rw [Hhdec.out, hmag]; exact Hhmm.out.symm) (by rw [hmag]; exact hs8)
            rw [hmag] at hiff
            have hcmp : (encInt (-(m : Int) - 1) == ((ByteArray.mk (c :: t).toArray).extract 0 (j + 1)).toList) = decide (sz m = j) := by
              rw [take1_extract, ByteArray.toList_mk]
              by_cases hsj : sz m = j
              · simp [hsj, hiff.2 hsj]
              · simp only [hsj, decide_false]
                rw [beq_eq_false_iff_ne]
                exact fun h => hsj (hiff.1 h)
            have Hhmag := Lib.hid hmag
            clear hmag
            have Hhiff := Lib.hid hiff
            clear hiff
            have Hhcmp := Lib.hid hcmp
            clear hcmp
            have hb : decide ((9223372036854775808 : Int) ≤ (m : Int)) = false := by simp; omega
            go_wp2_with fail
            have hsum : IntKind.i64.wrap (1 + (j : Int)) = 1 + (j : Int) := IntWalk.i64_in _ (by omega)
            have hsum0 : (0 : Int) ≤ 1 + (j : Int) := by omega
            have hsum1 : 1 + (j : Int) ≤ (t.length : Int) + 1 := by omega
            have hsum2 : (1 + (j : Int)).toNat = j + 1 := by omega
            go_region_held3 (fun w' => w'.cell? ⟨b, 0, none⟩ = some (.string ⟨(c :: t).toArray⟩)) (first | exact c0 | exact (hb2.cell (p := ⟨b, 0, none⟩) hlt).trans c0) (first | (go_at_call 54; refine (refInt_calls _ _ hin).mono ?_; rintro e w2 ⟨rfl, hb2⟩))
            clear hsum hsum0 hsum1 hsum2
            replace hb2 : Below w.heap.size w w2 := (Below.refl _ _).drew.trans hb2
            have hr2 := Hh.out.below hb2 hlt
            have hg2 : w.grownBy w2 (some b) := below_grown hb2 (Nat.le_refl _) _
            obtain ⟨d0, d1, e0, e1, hlt2⟩ := hr2.cells
            generalize hB : (encInt (-(m : Int) - 1) == ((ByteArray.mk (c :: t).toArray).extract 0 (j + 1)).toList) = B
            have hB2 : B = decide (sz m = j) := hB.symm.trans Hhcmp.out
            clear hB
            by_cases hsj : sz m = j
            · rw [decide_eq_true hsj] at hB2
              subst hB2
              have Hhsj := Lib.hid hsj
              clear hsj
              have Hhr2 := Lib.hid hr2
              clear hr2
              go_wp2_with fail
              go_ret
              rw [drop1_extract]
              have e1 : rInt (c :: t) bad = (-(m : Int) - 1, t.drop j, bad) := by
                simp only [rInt, Hhk.out, Hhdec.out, Hhmm.out]
                rw [if_neg (by omega), if_neg (by intro h; rcases h with h | h; exact h Hhsj.out; omega)]
                rw [if_pos hneg]
              rw [e1]
              exact ⟨rfl, Hhr2.out.set0 _, grownBy_setCell hg2 rfl _⟩
            · rw [decide_eq_false hsj] at hB2
              subst hB2
              have Hhsj := Lib.hid hsj
              clear hsj
              have Hhr2 := Lib.hid hr2
              clear hr2
              go_wp2_with fail
              refine (failR_calls b (c :: t) bad w2 Hhr2.out).mono ?_
              rintro e w3 ⟨rfl, hr3, hg3⟩
              go_wp2_with fail
              go_ret
              have e1 : rInt (c :: t) bad = (0, [], true) := by
                simp only [rInt, Hhk.out, Hhdec.out, Hhmm.out]
                rw [if_neg (by omega), if_pos (by left; exact Hhsj.out)]
              rw [e1]
              exact ⟨rfl, hr3, grownBy_trans hg2 hg3⟩
          · have hb : decide ((9223372036854775808 : Int) ≤ (m : Int)) = true := by simp; omega
            have hg2 : (9223372036854775808 : Int) ≤ (m : Int) := by omega
            go_wp2_with fail
            go_quiet (fail)
            go_wp2_with fail
            refine (failR_calls b (c :: t) bad _ (Hh.out.drewN _)).mono ?_
            rintro e w3 ⟨rfl, hr3, hg3⟩
            go_wp2_with fail
            go_ret
            have e1 : rInt (c :: t) bad = (0, [], true) := by
              simp only [rInt, Hhk.out, Hhdec.out, Hhmm.out]
              rw [if_neg (by omega), if_pos (by right; omega)]
            rw [e1]
            exact ⟨rfl, hr3, grownBy_trans (grownBy_drewN (grownBy_refl w _) _) hg3⟩

set_option maxRecDepth 100000 in
set_option maxHeartbeats 1000000 in
theorem rInt_false (b : Nat) (c : UInt8) (t : List UInt8) (bad : Bool) (w : World) (h : QAt w b (c :: t) bad) (htl : t.length ≤ 9223372036854775806) (hneg : ¬ c.toNat < 128) :
    Calls Tryd.prog 31 #[.pointer (some ⟨b, 0, none⟩)] w fun e w' => e = .returned (.int .i64 (rInt (c :: t) bad).1) ∧ QAt w' b (rInt (c :: t) bad).2.1 (rInt (c :: t) bad).2.2 ∧ w.grownBy w' (some b) := by
  obtain ⟨c0, c1, f0, f1, hlt⟩ := h.cells
  have hc256 : c.toNat < 256 := c.toNat_lt
  have ek : (c.toNat : Int) - 128 = (cnt8 c : Int) := by unfold cnt8; rw [if_neg hneg]; omega
  have hdec : decide (c.toNat < 128) = false := by simpa using hneg
  have hkb : cnt8 c ≤ 128 := by unfold cnt8; split <;> omega
  generalize hk : cnt8 c = k at *
  have Hh := Lib.hid h
  clear h
  have Hhk := Lib.hid hk
  clear hk
  have Hhdec := Lib.hid hdec
  clear hdec
  by_cases hk8 : 8 < k
  · go_enter Tryd.func31, Tryd.ntmps31
    go_wp2_with fail
    refine (failR_calls b (c :: t) bad w Hh.out).mono ?_
    rintro e w2 ⟨rfl, hr2, hg2⟩
    go_wp2_with fail
    go_ret
    have e1 : rInt (c :: t) bad = (0, [], true) := by simp [rInt, Hhk.out, hk8]
    rw [e1]
    exact ⟨rfl, hr2, hg2⟩
  · by_cases hkt : t.length < k
    · have hkt2 : (t.length : Int) + 1 < 1 + k := by omega
      go_enter Tryd.func31, Tryd.ntmps31
      go_wp2_with fail
      refine (failR_calls b (c :: t) bad w Hh.out).mono ?_
      rintro e w2 ⟨rfl, hr2, hg2⟩
      go_wp2_with fail
      go_ret
      have e1 : rInt (c :: t) bad = (0, [], true) := by simp [rInt, Hhk.out, hkt]
      rw [e1]
      exact ⟨rfl, hr2, hg2⟩
    · go_enter Tryd.func31, Tryd.ntmps31
      go_wp2_with fail
      go_loop [5, 6] (fun s5 s6 => ∃ j : Nat, j ≤ k ∧ s6 = .int .i64 (j + 1) ∧ s5 = .int .u64 (num false (t.take j) : Nat)) (fun _ s6 => k + 1 - (intOf s6).toNat)
      case atStart => exact ⟨0, by omega, rfl, by simp [num]⟩
      case round =>
        obtain ⟨j, hj, rfl, rfl⟩ := hrel
        by_cases hjk : j < k
        · have hjt : j < t.length := by omega
          have hm7 := num_lt7 false t j (by omega) (by omega)
          have hsn := num_snoc false t j hjt
          have hx := t[j].toNat_lt
          simp only [Bool.false_eq_true, if_false] at hsn
          generalize num false (t.take j) = m at *
          have Hhsn := Lib.hid hsn
          clear hsn
          go_wp2_with fail
          exact ⟨⟨j + 1, by omega, by go_num, by rw [Hhsn.out]; exact ret_u64 (by omega)⟩, by simp [intOf]; omega⟩
        · have hje : j = k := by omega
          subst hje
          have hm8 := num_lt8 false t j (by omega) (by omega)
          generalize hmm : num false (t.take j) = m at *
          have hs8 := sz_le m hm8
          have Hhmm := Lib.hid hmm
          clear hmm
          by_cases hbig : m < 9223372036854775808
          · have hwm := wrap_m m hbig
            have hmag : mag ((m : Int)) = m := by unfold mag; first | (rw [if_pos (by omega)]; omega) | (rw [if_neg (by omega)]; omega)
            have hin : In64 ((m : Int)) := by unfold In64; omega
            have hiff := encInt_num c t j Hhk.out (by omega) (by omega) ((m : Int)) (by rw [Hhdec.out]; simp <;> omega) (by rw [Hhdec.out, hmag]; exact Hhmm.out.symm) (by rw [hmag]; exact hs8)
            rw [hmag] at hiff
            have hcmp : (encInt ((m : Int)) == ((ByteArray.mk (c :: t).toArray).extract 0 (j + 1)).toList) = decide (sz m = j) := by
              rw [take1_extract, ByteArray.toList_mk]
              by_cases hsj : sz m = j
              · simp [hsj, hiff.2 hsj]
              · simp only [hsj, decide_false]
                rw [beq_eq_false_iff_ne]
                exact fun h => hsj (hiff.1 h)
            have Hhmag := Lib.hid hmag
            clear hmag
            have Hhiff := Lib.hid hiff
            clear hiff
            have Hhcmp := Lib.hid hcmp
            clear hcmp
            have hb : decide ((9223372036854775808 : Int) ≤ (m : Int)) = false := by simp; omega
            go_wp2_with fail
            have hsum : IntKind.i64.wrap (1 + (j : Int)) = 1 + (j : Int) := IntWalk.i64_in _ (by omega)
            have hsum0 : (0 : Int) ≤ 1 + (j : Int) := by omega
            have hsum1 : 1 + (j : Int) ≤ (t.length : Int) + 1 := by omega
            have hsum2 : (1 + (j : Int)).toNat = j + 1 := by omega
            go_region_held3 (fun w' => w'.cell? ⟨b, 0, none⟩ = some (.string ⟨(c :: t).toArray⟩)) (first | exact c0 | exact (hb2.cell (p := ⟨b, 0, none⟩) hlt).trans c0) (first | (go_at_call 54; refine (refInt_calls _ _ hin).mono ?_; rintro e w2 ⟨rfl, hb2⟩))
            clear hsum hsum0 hsum1 hsum2
            replace hb2 : Below w.heap.size w w2 := (Below.refl _ _).drew.trans hb2
            have hr2 := Hh.out.below hb2 hlt
            have hg2 : w.grownBy w2 (some b) := below_grown hb2 (Nat.le_refl _) _
            obtain ⟨d0, d1, e0, e1, hlt2⟩ := hr2.cells
            generalize hB : (encInt ((m : Int)) == ((ByteArray.mk (c :: t).toArray).extract 0 (j + 1)).toList) = B
            have hB2 : B = decide (sz m = j) := hB.symm.trans Hhcmp.out
            clear hB
            by_cases hsj : sz m = j
            · rw [decide_eq_true hsj] at hB2
              subst hB2
              have Hhsj := Lib.hid hsj
              clear hsj
              have Hhr2 := Lib.hid hr2
              clear hr2
              go_wp2_with fail
              go_ret
              rw [drop1_extract]
              have e1 : rInt (c :: t) bad = ((m : Int), t.drop j, bad) := by
                simp only [rInt, Hhk.out, Hhdec.out, Hhmm.out]
                rw [if_neg (by omega), if_neg (by intro h; rcases h with h | h; exact h Hhsj.out; omega)]
                rw [if_neg hneg]
              rw [e1]
              exact ⟨rfl, Hhr2.out.set0 _, grownBy_setCell hg2 rfl _⟩
            · rw [decide_eq_false hsj] at hB2
              subst hB2
              have Hhsj := Lib.hid hsj
              clear hsj
              have Hhr2 := Lib.hid hr2
              clear hr2
              go_wp2_with fail
              refine (failR_calls b (c :: t) bad w2 Hhr2.out).mono ?_
              rintro e w3 ⟨rfl, hr3, hg3⟩
              go_wp2_with fail
              go_ret
              have e1 : rInt (c :: t) bad = (0, [], true) := by
                simp only [rInt, Hhk.out, Hhdec.out, Hhmm.out]
                rw [if_neg (by omega), if_pos (by left; exact Hhsj.out)]
              rw [e1]
              exact ⟨rfl, hr3, grownBy_trans hg2 hg3⟩
          · have hb : decide ((9223372036854775808 : Int) ≤ (m : Int)) = true := by simp; omega
            have hg2 : (9223372036854775808 : Int) ≤ (m : Int) := by omega
            go_wp2_with fail
            go_quiet (fail)
            go_wp2_with fail
            refine (failR_calls b (c :: t) bad _ (Hh.out.drewN _)).mono ?_
            rintro e w3 ⟨rfl, hr3, hg3⟩
            go_wp2_with fail
            go_ret
            have e1 : rInt (c :: t) bad = (0, [], true) := by
              simp only [rInt, Hhk.out, Hhdec.out, Hhmm.out]
              rw [if_neg (by omega), if_pos (by right; omega)]
            rw [e1]
            exact ⟨rfl, hr3, grownBy_trans (grownBy_drewN (grownBy_refl w _) _) hg3⟩

set_option maxRecDepth 100000 in
theorem rIntR_nil (b : Nat) (bad : Bool) (w : World) (h : QAt w b [] bad) :
    Calls Tryd.prog 31 #[.pointer (some ⟨b, 0, none⟩)] w fun e w' => e = .returned (.int .i64 (rInt [] bad).1) ∧ QAt w' b (rInt [] bad).2.1 (rInt [] bad).2.2 ∧ w.grownBy w' (some b) := by
  obtain ⟨c0, c1, f0, f1, hlt⟩ := h.cells
  have Hh := Lib.hid h
  clear h
  go_enter Tryd.func31, Tryd.ntmps31
  go_wp2_with fail
  refine (failR_calls b [] bad w Hh.out).mono ?_
  rintro e w2 ⟨rfl, hr2, hg2⟩
  go_wp2_with fail
  go_ret
  exact ⟨rfl, hr2, hg2⟩

theorem rIntR_calls (b : Nat) (s : List UInt8) (bad : Bool) (w : World) (h : QAt w b s bad) (hs : s.length ≤ 9223372036854775807) :
    Calls Tryd.prog 31 #[.pointer (some ⟨b, 0, none⟩)] w fun e w' => e = .returned (.int .i64 (rInt s bad).1) ∧ QAt w' b (rInt s bad).2.1 (rInt s bad).2.2 ∧ w.grownBy w' (some b) := by
  rcases s with _ | ⟨c, t⟩
  · exact rIntR_nil b bad w h
  · simp at hs
    by_cases hneg : c.toNat < 128
    · exact rInt_true b c t bad w h (by omega) hneg
    · exact rInt_false b c t bad w h (by omega) hneg

end Go.Proofs.YtibhihobpehpbaaDoor
