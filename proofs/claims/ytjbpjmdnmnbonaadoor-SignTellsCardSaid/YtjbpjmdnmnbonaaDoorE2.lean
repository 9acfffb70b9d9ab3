/- The references' walks: Mul, Exp, AddQ, MulQ, In, Num, Short. -/
import Derived.Test.YtjbpjmdnmnbonaaDoorE1
set_option linter.unusedSimpArgs false
set_option linter.unusedVariables false

namespace Go.Proofs.YtjbpjmdnmnbonaaDoor
open Go.RowKit

theorem timesP_calls (a b : Nat) (w : World) (ha : a < 2305843009213691579) (hb : b < 2305843009213691579) :
    Calls Tryd.prog 46 #[.int .i64 a, .int .i64 b, .int .i64 2305843009213691579] w fun e w' => e = .returned (.int .i64 ((a * b % 2305843009213691579 : Nat) : Int)) ∧ Below w.heap.size w w' := times_calls a b _ w mdP ha hb
theorem timesQ_calls (a b : Nat) (w : World) (ha : a < 1152921504606845789) (hb : b < 1152921504606845789) :
    Calls Tryd.prog 46 #[.int .i64 a, .int .i64 b, .int .i64 1152921504606845789] w fun e w' => e = .returned (.int .i64 ((a * b % 1152921504606845789 : Nat) : Int)) ∧ Below w.heap.size w w' := times_calls a b _ w mdQ ha hb
theorem exp_low (c b E : Nat) (p : Nat) : (if E % 2 = 1 then c * b % p else c) * (b * b % p) ^ (E / 2) % p = c * b ^ E % p := by
  rw [Nat.mul_mod, ← Nat.pow_mod, ← Nat.mul_mod]
  conv => rhs; rw [pow_half b E]
  have e : (b * b) ^ (E / 2) = b ^ (E / 2) * b ^ (E / 2) := by rw [Nat.mul_pow]
  rw [e]
  split
  · rw [Nat.mod_mul_mod, Nat.mul_assoc c b, Nat.mul_comm b]
  · rfl
set_option maxRecDepth 100000 in
set_option maxHeartbeats 2000000 in
theorem refExp_calls (a e : Int) (w : World) (ha : In64 a) (he : In64 e) :
    Calls Tryd.prog 30 #[.int .i64 a, .int .i64 e] w fun r w' => r = .returned (.int .i64 (expS a e : Nat)) ∧ Below w.heap.size w w' := by
  obtain ⟨E, hE⟩ : ∃ E, expE e = E := ⟨_, rfl⟩
  have hEl := expE_lt he
  rw [hE] at hEl
  have hr := fun wx => refModP_calls a wx ha
  have hbl := resP_lt a
  have hS : expS a e = resP a ^ E % 2305843009213691579 := by rw [expS, hE]
  rw [hS]
  clear hS
  generalize resP a = b at *
  by_cases hneg : e < 0
  · have hq := refModQ_calls e w he
    rw [show resQ e = E by rw [← hE, expE, if_pos hneg]; rfl] at hq
    have Hhr := Lib.hid hr
    clear hr
    have Hhq := Lib.hid hq
    clear hq
    go_enter Tryd.func30, Tryd.ntmps30
    go_wp2_with fail
    refine Hhq.out.mono ?_
    rintro r w1 ⟨rfl, hB1⟩
    have HhB1 := Lib.hid hB1
    clear hB1
    go_wp2_with fail
    refine (Hhr.out _).mono ?_
    rintro r w2 ⟨rfl, hB2⟩
    have hbel2 := HhB1.out.trans (hB2.mono HhB1.out.size)
    have hs2 := hbel2.size
    clear hB2
    go_wp2_with fail
    go_loopw [1, 5, 6] (fun s1 s5 s6 wr => ∃ F c d : Nat, s1 = .int .i64 F ∧ s5 = .int .i64 c ∧ s6 = .int .i64 d ∧ F < 9223372036854775808 ∧ c < 2305843009213691579 ∧ d < 2305843009213691579 ∧ c * d ^ F % 2305843009213691579 = b ^ E % 2305843009213691579 ∧ Below w.heap.size w wr) (fun s1 _ _ _ => (intOf s1).toNat)
    case atStart => exact ⟨E, 1, b, rfl, rfl, rfl, hEl, by decide, hbl, by rw [Nat.one_mul], hbel2⟩
    case round =>
      obtain ⟨F, c, d, rfl, rfl, rfl, hF, hc, hd, hinv, hB3⟩ := hrel
      have hs3 := hB3.size
      by_cases hF0 : 0 < F
      · have hlow := exp_low c d F 2305843009213691579
        rw [hinv] at hlow
        have hc2 := fun wx => timesP_calls d d wx hd hd
        have l2 := Nat.mod_lt (d * d) (show 0 < 2305843009213691579 by decide)
        obtain ⟨d2, hd2⟩ : ∃ y, y = d * d % 2305843009213691579 := ⟨_, rfl⟩
        rw [← hd2] at hlow hc2 l2
        obtain ⟨F2, hF2⟩ : ∃ y, y = F / 2 := ⟨_, rfl⟩
        rw [← hF2] at hlow
        have hFd : (F : Int).tdiv 2 = (F2 : Int) := by rw [hF2]; rfl
        have hFm : (F : Int).tmod 2 = ((F % 2 : Nat) : Int) := rfl
        have hFl : F2 < F := by omega
        by_cases hodd : F % 2 = 1
        · rw [if_pos hodd] at hlow
          have hc1 := timesP_calls c d wr hc hd
          have l1 := Nat.mod_lt (c * d) (show 0 < 2305843009213691579 by decide)
          obtain ⟨c2, hcd⟩ : ∃ y, y = c * d % 2305843009213691579 := ⟨_, rfl⟩
          rw [← hcd] at hlow hc1 l1
          rw [hodd] at hFm
          clear hd2 hF2 hcd hinv hodd
          have Hhlow := Lib.hid hlow
          clear hlow
          have Hhc1 := Lib.hid hc1
          clear hc1
          have Hhc2 := Lib.hid hc2
          clear hc2
          have HhB3 := Lib.hid hB3
          clear hB3
          go_wp2_with fail
          refine Hhc1.out.mono ?_
          rintro r w4 ⟨rfl, hB4⟩
          have hB4b := HhB3.out.trans (hB4.mono hs3)
          have hs4 := hB4b.size
          clear hB4
          have HhB4b := Lib.hid hB4b
          clear hB4b
          go_wp2_with fail
          refine (Hhc2.out w4).mono ?_
          rintro r w5 ⟨rfl, hB5⟩
          have hB5b := HhB4b.out.trans (hB5.mono hs4)
          clear hB5
          have HhB5b := Lib.hid hB5b
          clear hB5b
          go_wp2_with fail
          exact ⟨⟨F2, c2, d2, rfl, rfl, rfl, by omega, l1, l2, Hhlow.out, HhB5b.out⟩, by simp [intOf]; omega⟩
        · rw [if_neg hodd] at hlow
          rw [show F % 2 = 0 by omega] at hFm
          clear hd2 hF2 hinv hodd
          have Hhlow := Lib.hid hlow
          clear hlow
          have Hhc2 := Lib.hid hc2
          clear hc2
          have HhB3 := Lib.hid hB3
          clear hB3
          go_wp2_with fail
          refine (Hhc2.out wr).mono ?_
          rintro r w5 ⟨rfl, hB5⟩
          have hB5b := HhB3.out.trans (hB5.mono hs3)
          clear hB5
          have HhB5b := Lib.hid hB5b
          clear hB5b
          go_wp2_with fail
          exact ⟨⟨F2, c, d2, rfl, rfl, rfl, by omega, hc, l2, Hhlow.out, HhB5b.out⟩, by simp [intOf]; omega⟩
      · obtain rfl : F = 0 := by omega
        rw [Nat.pow_zero, Nat.mul_one, Nat.mod_eq_of_lt hc] at hinv
        have HhB3 := Lib.hid hB3
        clear hB3
        have Hhinv := Lib.hid hinv
        clear hinv
        go_wp2_with fail
        go_ret
        exact ⟨by rw [← Hhinv.out]; rfl, HhB3.out⟩
  · obtain rfl : e = (E : Int) := by rw [expE, if_neg hneg] at hE; omega
    have Hhr := Lib.hid hr
    clear hr
    go_enter Tryd.func30, Tryd.ntmps30
    go_wp2_with fail
    refine (Hhr.out _).mono ?_
    rintro r w2 ⟨rfl, hB2⟩
    have hbel2 := hB2
    have hs2 := hbel2.size
    clear hB2
    go_wp2_with fail
    go_loopw [1, 5, 6] (fun s1 s5 s6 wr => ∃ F c d : Nat, s1 = .int .i64 F ∧ s5 = .int .i64 c ∧ s6 = .int .i64 d ∧ F < 9223372036854775808 ∧ c < 2305843009213691579 ∧ d < 2305843009213691579 ∧ c * d ^ F % 2305843009213691579 = b ^ E % 2305843009213691579 ∧ Below w.heap.size w wr) (fun s1 _ _ _ => (intOf s1).toNat)
    case atStart => exact ⟨E, 1, b, rfl, rfl, rfl, hEl, by decide, hbl, by rw [Nat.one_mul], hbel2⟩
    case round =>
      obtain ⟨F, c, d, rfl, rfl, rfl, hF, hc, hd, hinv, hB3⟩ := hrel
      have hs3 := hB3.size
      by_cases hF0 : 0 < F
      · have hlow := exp_low c d F 2305843009213691579
        rw [hinv] at hlow
        have hc2 := fun wx => timesP_calls d d wx hd hd
        have l2 := Nat.mod_lt (d * d) (show 0 < 2305843009213691579 by decide)
        obtain ⟨d2, hd2⟩ : ∃ y, y = d * d % 2305843009213691579 := ⟨_, rfl⟩
        rw [← hd2] at hlow hc2 l2
        obtain ⟨F2, hF2⟩ : ∃ y, y = F / 2 := ⟨_, rfl⟩
        rw [← hF2] at hlow
        have hFd : (F : Int).tdiv 2 = (F2 : Int) := by rw [hF2]; rfl
        have hFm : (F : Int).tmod 2 = ((F % 2 : Nat) : Int) := rfl
        have hFl : F2 < F := by omega
        by_cases hodd : F % 2 = 1
        · rw [if_pos hodd] at hlow
          have hc1 := timesP_calls c d wr hc hd
          have l1 := Nat.mod_lt (c * d) (show 0 < 2305843009213691579 by decide)
          obtain ⟨c2, hcd⟩ : ∃ y, y = c * d % 2305843009213691579 := ⟨_, rfl⟩
          rw [← hcd] at hlow hc1 l1
          rw [hodd] at hFm
          clear hd2 hF2 hcd hinv hodd
          have Hhlow := Lib.hid hlow
          clear hlow
          have Hhc1 := Lib.hid hc1
          clear hc1
          have Hhc2 := Lib.hid hc2
          clear hc2
          have HhB3 := Lib.hid hB3
          clear hB3
          go_wp2_with fail
          refine Hhc1.out.mono ?_
          rintro r w4 ⟨rfl, hB4⟩
          have hB4b := HhB3.out.trans (hB4.mono hs3)
          have hs4 := hB4b.size
          clear hB4
          have HhB4b := Lib.hid hB4b
          clear hB4b
          go_wp2_with fail
          refine (Hhc2.out w4).mono ?_
          rintro r w5 ⟨rfl, hB5⟩
          have hB5b := HhB4b.out.trans (hB5.mono hs4)
          clear hB5
          have HhB5b := Lib.hid hB5b
          clear hB5b
          go_wp2_with fail
          exact ⟨⟨F2, c2, d2, rfl, rfl, rfl, by omega, l1, l2, Hhlow.out, HhB5b.out⟩, by simp [intOf]; omega⟩
        · rw [if_neg hodd] at hlow
          rw [show F % 2 = 0 by omega] at hFm
          clear hd2 hF2 hinv hodd
          have Hhlow := Lib.hid hlow
          clear hlow
          have Hhc2 := Lib.hid hc2
          clear hc2
          have HhB3 := Lib.hid hB3
          clear hB3
          go_wp2_with fail
          refine (Hhc2.out wr).mono ?_
          rintro r w5 ⟨rfl, hB5⟩
          have hB5b := HhB3.out.trans (hB5.mono hs3)
          clear hB5
          have HhB5b := Lib.hid hB5b
          clear hB5b
          go_wp2_with fail
          exact ⟨⟨F2, c, d2, rfl, rfl, rfl, by omega, hc, l2, Hhlow.out, HhB5b.out⟩, by simp [intOf]; omega⟩
      · obtain rfl : F = 0 := by omega
        rw [Nat.pow_zero, Nat.mul_one, Nat.mod_eq_of_lt hc] at hinv
        have HhB3 := Lib.hid hB3
        clear hB3
        have Hhinv := Lib.hid hinv
        clear hinv
        go_wp2_with fail
        go_ret
        exact ⟨by rw [← Hhinv.out]; rfl, HhB3.out⟩
theorem refMul_calls (a b : Int) (w : World) (ha : In64 a) (hb : In64 b) :
    Calls Tryd.prog 39 #[.int .i64 a, .int .i64 b] w fun r w' => r = .returned (.int .i64 (mulP a b : Nat)) ∧ Below w.heap.size w w' := by
  have h1 := refModP_calls a w ha
  have l1 := resP_lt a
  have l2 := resP_lt b
  have h2 := fun wx => refModP_calls b wx hb
  have h3 := fun wx => timesP_calls (resP a) (resP b) wx (by omega) (by omega)
  have hm := Nat.mod_lt (resP a * resP b) (show 0 < 2305843009213691579 by decide)
  obtain ⟨Z, hZ⟩ : ∃ Z, Z = mulP a b := ⟨_, rfl⟩
  rw [show resP a * resP b % 2305843009213691579 = Z from hZ.symm] at hm h3
  generalize resP a = x at *
  generalize resP b = y at *
  have Hh1 := Lib.hid h1
  clear h1
  have Hh2 := Lib.hid h2
  clear h2
  have Hh3 := Lib.hid h3
  clear h3
  have HhZ := Lib.hid hZ
  clear hZ
  go_enter Tryd.func39, Tryd.ntmps39
  go_wp2_with fail
  refine Hh1.out.mono ?_
  rintro r w1 ⟨rfl, hB1⟩
  have hs1 := hB1.size
  have HhB1 := Lib.hid hB1
  clear hB1
  go_wp2_with fail
  refine (Hh2.out w1).mono ?_
  rintro r w2 ⟨rfl, hB2⟩
  have hB2b := HhB1.out.trans (hB2.mono hs1)
  have hs2 := hB2b.size
  clear hB2
  have HhB2b := Lib.hid hB2b
  clear hB2b
  go_wp2_with fail
  refine (Hh3.out w2).mono ?_
  rintro r w3 ⟨rfl, hB3⟩
  have hB3b := HhB2b.out.trans (hB3.mono hs2)
  clear hB3
  have HhB3b := Lib.hid hB3b
  clear hB3b
  go_wp2_with fail
  go_ret
  exact ⟨by rw [HhZ.out]; rfl, HhB3b.out⟩
theorem refMulQ_calls (a b : Int) (w : World) (ha : In64 a) (hb : In64 b) :
    Calls Tryd.prog 37 #[.int .i64 a, .int .i64 b] w fun r w' => r = .returned (.int .i64 (mulQ a b : Nat)) ∧ Below w.heap.size w w' := by
  have h1 := refModQ_calls a w ha
  have l1 := resQ_lt a
  have l2 := resQ_lt b
  have h2 := fun wx => refModQ_calls b wx hb
  have h3 := fun wx => timesQ_calls (resQ a) (resQ b) wx (by omega) (by omega)
  have hm := Nat.mod_lt (resQ a * resQ b) (show 0 < 1152921504606845789 by decide)
  obtain ⟨Z, hZ⟩ : ∃ Z, Z = mulQ a b := ⟨_, rfl⟩
  rw [show resQ a * resQ b % 1152921504606845789 = Z from hZ.symm] at hm h3
  generalize resQ a = x at *
  generalize resQ b = y at *
  have Hh1 := Lib.hid h1
  clear h1
  have Hh2 := Lib.hid h2
  clear h2
  have Hh3 := Lib.hid h3
  clear h3
  have HhZ := Lib.hid hZ
  clear hZ
  go_enter Tryd.func37, Tryd.ntmps37
  go_wp2_with fail
  refine Hh1.out.mono ?_
  rintro r w1 ⟨rfl, hB1⟩
  have hs1 := hB1.size
  have HhB1 := Lib.hid hB1
  clear hB1
  go_wp2_with fail
  refine (Hh2.out w1).mono ?_
  rintro r w2 ⟨rfl, hB2⟩
  have hB2b := HhB1.out.trans (hB2.mono hs1)
  have hs2 := hB2b.size
  clear hB2
  have HhB2b := Lib.hid hB2b
  clear hB2b
  go_wp2_with fail
  refine (Hh3.out w2).mono ?_
  rintro r w3 ⟨rfl, hB3⟩
  have hB3b := HhB2b.out.trans (hB3.mono hs2)
  clear hB3
  have HhB3b := Lib.hid hB3b
  clear hB3b
  go_wp2_with fail
  go_ret
  exact ⟨by rw [HhZ.out]; rfl, HhB3b.out⟩
theorem refAddQ_calls (a b : Int) (w : World) (ha : In64 a) (hb : In64 b) :
    Calls Tryd.prog 36 #[.int .i64 a, .int .i64 b] w fun r w' => r = .returned (.int .i64 (addQ a b : Nat)) ∧ Below w.heap.size w w' := by
  have h1 := refModQ_calls a w ha
  have l1 := resQ_lt a
  have l2 := resQ_lt b
  have h2 := fun wx => refModQ_calls b wx hb
  have h3 : ∀ wx, Calls Tryd.prog 45 #[.int .i64 ((resQ a : Int) + (resQ b : Int)), .int .i64 1152921504606845789] wx fun e w' => e = .returned (.int .i64 (addQ a b : Nat)) ∧ Below wx.heap.size wx w' := fun wx =>
    (refModQ_calls ((resQ a : Int) + (resQ b : Int)) wx (by unfold In64; omega)).mono fun e w' ⟨h1, h2⟩ => ⟨by rw [h1]; unfold addQ resQ; congr 2, h2⟩
  obtain ⟨Z, hZ⟩ : ∃ Z, Z = addQ a b := ⟨_, rfl⟩
  have hm : addQ a b < 1152921504606845789 := Nat.mod_lt _ (by decide)
  rw [← hZ] at hm h3
  generalize resQ a = x at *
  generalize resQ b = y at *
  have Hh1 := Lib.hid h1
  clear h1
  have Hh2 := Lib.hid h2
  clear h2
  have Hh3 := Lib.hid h3
  clear h3
  have HhZ := Lib.hid hZ
  clear hZ
  go_enter Tryd.func36, Tryd.ntmps36
  go_wp2_with fail
  refine Hh1.out.mono ?_
  rintro r w1 ⟨rfl, hB1⟩
  have hs1 := hB1.size
  have HhB1 := Lib.hid hB1
  clear hB1
  go_wp2_with fail
  refine (Hh2.out w1).mono ?_
  rintro r w2 ⟨rfl, hB2⟩
  have hB2b := HhB1.out.trans (hB2.mono hs1)
  have hs2 := hB2b.size
  clear hB2
  have HhB2b := Lib.hid hB2b
  clear hB2b
  go_wp2_with fail
  refine (Hh3.out w2).mono ?_
  rintro r w3 ⟨rfl, hB3⟩
  have hB3b := HhB2b.out.trans (hB3.mono hs2)
  clear hB3
  have HhB3b := Lib.hid hB3b
  clear hB3b
  go_wp2_with fail
  go_ret
  exact ⟨by rw [HhZ.out]; rfl, HhB3b.out⟩
theorem refNum_calls (n : Int) (w : World) (h : In64 n) : Calls Tryd.prog 35 #[.int .i64 n] w fun e w' => e = .returned (.string ⟨(numS n).toArray⟩) ∧ Below w.heap.size w w' := by
  by_cases hn : n < 0
  · rw [numS, if_pos hn]
    go_enter Tryd.func35, Tryd.ntmps35
    go_wp2_with fail
    go_ret
    exact ⟨rfl, Below.refl _ _⟩
  · rw [numS, if_neg hn]
    have hc := refInt_calls n w h
    have Hhc := Lib.hid hc
    clear hc
    go_enter Tryd.func35, Tryd.ntmps35
    go_wp2_with fail
    refine Hhc.out.mono ?_
    rintro e w1 ⟨rfl, hB⟩
    have HhB := Lib.hid hB
    clear hB
    go_wp2_with fail
    go_ret
    exact ⟨rfl, HhB.out⟩
end Go.Proofs.YtjbpjmdnmnbonaaDoor
