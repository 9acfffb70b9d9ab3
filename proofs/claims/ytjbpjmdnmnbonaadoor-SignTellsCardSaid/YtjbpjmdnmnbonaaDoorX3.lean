/- The walks of group: Exp, Mul, In, AddQ, MulQ, Inv. -/
import Derived.Test.YtjbpjmdnmnbonaaDoorX2
set_option linter.unusedSimpArgs false
set_option linter.unusedVariables false
namespace Go.Proofs.YtjbpjmdnmnbonaaDoor
open Go.RowKit

def expE (e : Int) : Nat := (if e < 0 then e % 1152921504606845789 else e).toNat
def resP (a : Int) : Nat := (a % 2305843009213691579).toNat
def resQ (a : Int) : Nat := (a % 1152921504606845789).toNat
def expS (a e : Int) : Nat := resP a ^ expE e % 2305843009213691579
theorem mdP : Md 2305843009213691579 := .inl rfl
theorem mdQ : Md 1152921504606845789 := .inr rfl
theorem resP_lt (a : Int) : resP a < 2305843009213691579 := by unfold resP; have := Int.emod_nonneg a (show (2305843009213691579 : Int) ≠ 0 by decide); have := Int.emod_lt_of_pos a (show (0 : Int) < 2305843009213691579 by decide); omega
theorem resQ_lt (a : Int) : resQ a < 1152921504606845789 := by unfold resQ; have := Int.emod_nonneg a (show (1152921504606845789 : Int) ≠ 0 by decide); have := Int.emod_lt_of_pos a (show (0 : Int) < 1152921504606845789 by decide); omega
theorem resP_c (a : Int) : a % ((2305843009213691579 : Nat) : Int) = (resP a : Int) := by unfold resP; have := Int.emod_nonneg a (show (2305843009213691579 : Int) ≠ 0 by decide); omega
theorem resQ_c (a : Int) : a % ((1152921504606845789 : Nat) : Int) = (resQ a : Int) := by unfold resQ; have := Int.emod_nonneg a (show (1152921504606845789 : Int) ≠ 0 by decide); omega
theorem resP_calls (a : Int) (w : World) (ha : In64 a) : Calls Tryd.prog 40 #[.int .i64 a, .int .i64 2305843009213691579] w fun e w' => e = .returned (.int .i64 (resP a : Int)) ∧ Below w.heap.size w w' :=
  (residue_calls a 2305843009213691579 w mdP ha).mono fun e w' ⟨h1, h2⟩ => ⟨by rw [h1, resP_c], h2⟩
theorem resQ_calls (a : Int) (w : World) (ha : In64 a) : Calls Tryd.prog 40 #[.int .i64 a, .int .i64 1152921504606845789] w fun e w' => e = .returned (.int .i64 (resQ a : Int)) ∧ Below w.heap.size w w' :=
  (residue_calls a 1152921504606845789 w mdQ ha).mono fun e w' ⟨h1, h2⟩ => ⟨by rw [h1, resQ_c], h2⟩
theorem prodP_calls (a b : Nat) (w : World) (ha : a < 9223372036854775808) (hb : b < 9223372036854775808) :
    Calls Tryd.prog 41 #[.int .i64 a, .int .i64 b, .int .i64 2305843009213691579] w fun e w' => e = .returned (.int .i64 ((a * b % 2305843009213691579 : Nat) : Int)) ∧ Below w.heap.size w w' := product_calls a b _ w mdP ha hb
theorem prodQ_calls (a b : Nat) (w : World) (ha : a < 9223372036854775808) (hb : b < 9223372036854775808) :
    Calls Tryd.prog 41 #[.int .i64 a, .int .i64 b, .int .i64 1152921504606845789] w fun e w' => e = .returned (.int .i64 ((a * b % 1152921504606845789 : Nat) : Int)) ∧ Below w.heap.size w w' := product_calls a b _ w mdQ ha hb

theorem expE_lt {e : Int} (h : In64 e) : expE e < 9223372036854775808 := by
  unfold expE
  have h1 := Int.emod_lt_of_pos e (show (0 : Int) < 1152921504606845789 by decide)
  obtain ⟨ha, hb⟩ := h
  split <;> omega
/-- one step from the most significant bit on -/
theorem exp_step (b E i : Nat) (hi : i < 63) : b ^ (E / 2 ^ (62 - i)) = b ^ (E / 2 ^ (63 - i)) * b ^ (E / 2 ^ (63 - i)) * (if E / 2 ^ (62 - i) % 2 = 1 then b else 1) := by
  have e : E / 2 ^ (63 - i) = E / 2 ^ (62 - i) / 2 := by rw [show 63 - i = 62 - i + 1 by omega, Nat.pow_succ, Nat.div_div_eq_div_mul]
  rw [e]
  generalize E / 2 ^ (62 - i) = m
  conv => lhs; rw [pow_half b m]
  split
  · rfl
  · rw [Nat.mul_one]

theorem bit_of (m : Nat) (h : m < 9223372036854775808) : bits .and .i64 (m : Int) 1 = ((m % 2 : Nat) : Int) := by
  have h1 : (BitVec.ofInt 64 1).toNat = 2 ^ 1 - 1 := by decide
  have key : (BitVec.ofInt 64 (m : Int) &&& BitVec.ofInt 64 1).toNat = ((m : Int) % ((2 ^ 64 : Nat) : Int)).toNat % 2 ^ 1 := by
    rw [BitVec.toNat_and, BitVec.toNat_ofInt, h1, Nat.and_two_pow_sub_one_eq_mod]
  show IntKind.i64.wrap ((BitVec.ofInt 64 (m : Int) &&& BitVec.ofInt 64 1).toNat : Nat) = ((m % 2 : Nat) : Int)
  rw [key, IntKind.wrap_i64]
  omega
set_option maxRecDepth 100000 in
set_option maxHeartbeats 2000000 in
theorem expLoop (a e : Int) (E : Nat) (w : World) (he : In64 e) (ha : In64 a) (hE : expE e = E) :
    Calls Tryd.prog 24 #[.int .i64 a, .int .i64 e] w fun r w' => r = .returned (.int .i64 (expS a e : Nat)) ∧ Below w.heap.size w w' := by
  have hEl := expE_lt he
  rw [hE] at hEl
  have hr := resP_calls a
  have hbl := resP_lt a
  have hS : expS a e = resP a ^ E % 2305843009213691579 := by rw [expS, hE]
  rw [hS]
  clear hS
  generalize resP a = b at *
  have key : ∀ w0, Below w.heap.size w w0 → True := fun _ _ => trivial
  by_cases hneg : e < 0
  · have hq := resQ_calls e w he
    rw [show resQ e = E by rw [← hE, expE, if_pos hneg]; rfl] at hq
    have Hhr := Lib.hid hr
    clear hr
    have Hhq := Lib.hid hq
    clear hq
    go_enter Tryd.func24, Tryd.ntmps24
    go_wp2_with fail
    refine Hhq.out.mono ?_
    rintro r w1 ⟨rfl, hB1⟩
    have HhB1 := Lib.hid hB1
    clear hB1
    go_wp2_with fail
    refine (Hhr.out _ ha).mono ?_
    rintro r w2 ⟨rfl, hB2⟩
    have hbel2 := HhB1.out.trans (hB2.mono HhB1.out.size)
    have hs2 := hbel2.size
    clear hB2
    go_wp2_with fail
    go_loopw [5, 6, 13] (fun s5 _ s13 wr => ∃ i : Nat, i ≤ 63 ∧ s13 = .int .i64 i ∧ s5 = .int .i64 ((b ^ (E / 2 ^ (63 - i)) % 2305843009213691579 : Nat) : Int) ∧ Below w.heap.size w wr) (fun _ _ s13 _ => 63 - (intOf s13).toNat)
    case atStart => exact ⟨0, by omega, rfl, by rw [Nat.div_eq_of_lt (by omega)]; rfl, hbel2⟩
    case round =>
      obtain ⟨i, hi, rfl, rfl, hB3⟩ := hrel
      by_cases hlt : i < 63
      · have hstep := exp_step b E i hlt
        have hX := Nat.mod_lt (b ^ (E / 2 ^ (63 - i))) (show 0 < 2305843009213691579 by decide)
        obtain ⟨X, hXd⟩ : ∃ X, X = b ^ (E / 2 ^ (63 - i)) % 2305843009213691579 := ⟨_, rfl⟩
        rw [← hXd] at hX ⊢
        have hs3 := hB3.size
        have hc1 := prodP_calls X X wr (by omega) (by omega)
        have hX2 := Nat.mod_lt (X * X) (show 0 < 2305843009213691579 by decide)
        obtain ⟨X2, hX2d⟩ : ∃ Y, Y = X * X % 2305843009213691579 := ⟨_, rfl⟩
        rw [← hX2d] at hc1 hX2
        have hc2 := fun wx => prodP_calls X2 b wx (by omega) (by omega)
        have hX3 := Nat.mod_lt (X2 * b) (show 0 < 2305843009213691579 by decide)
        obtain ⟨X3, hX3d⟩ : ∃ Y, Y = X2 * b % 2305843009213691579 := ⟨_, rfl⟩
        rw [← hX3d] at hc2 hX3
        have Hhstep := Lib.hid hstep
        clear hstep
        have HhXd := Lib.hid hXd
        clear hXd
        have HhX2d := Lib.hid hX2d
        clear hX2d
        have HhX3d := Lib.hid hX3d
        clear hX3d
        have Hhc1 := Lib.hid hc1
        clear hc1
        have Hhc2 := Lib.hid hc2
        clear hc2
        have HhB3 := Lib.hid hB3
        clear hB3
        go_wp2_with fail
        refine Hhc1.out.mono ?_
        rintro r w4 ⟨rfl, hB4⟩
        have hB4b := HhB3.out.trans (hB4.mono hs3)
        clear hB4
        have HhB4b := Lib.hid hB4b
        clear hB4b
        have hs4 := HhB4b.out.size
        have hbit := bit_of (E / 2 ^ (62 - i)) (Nat.lt_of_le_of_lt (Nat.div_le_self _ _) hEl)
        rw [Int.natCast_ediv, Int.natCast_pow] at hbit
        have hbit2 : bits .and .i64 ((E : Int) / 2 ^ (62 - i)) 1 = ((E / 2 ^ (62 - i) % 2 : Nat) : Int) := hbit
        clear hbit
        have hstep2 := Hhstep.out
        by_cases hodd : E / 2 ^ (62 - i) % 2 = 1
        · have hb1 : (bits .and .i64 ((E : Int) / 2 ^ (62 - i)) 1 == 1) = true := by rw [hbit2, hodd]; rfl
          have hfin : X3 = b ^ (E / 2 ^ (63 - (i + 1))) % 2305843009213691579 := by
            rw [show 63 - (i + 1) = 62 - i by omega, hstep2, if_pos hodd, HhX3d.out, HhX2d.out, HhXd.out]
            simp only [Nat.mod_mul_mod, Nat.mul_mod_mod, Nat.mod_mod, ← Nat.mul_mod]
          clear hbit2 hstep2 hodd
          have Hhfin := Lib.hid hfin
          clear hfin
          go_wp2_with fail
          refine (Hhc2.out w4).mono ?_
          rintro r w5 ⟨rfl, hB5⟩
          have hB5b := HhB4b.out.trans (hB5.mono hs4)
          clear hB5
          have HhB5b := Lib.hid hB5b
          clear hB5b
          go_wp2_with fail
          exact ⟨⟨i + 1, by omega, by go_num, by rw [Hhfin.out], HhB5b.out⟩, by simp [intOf]; omega⟩
        · have hb1 : (bits .and .i64 ((E : Int) / 2 ^ (62 - i)) 1 == 1) = false := by rw [hbit2, beq_eq_false_iff_ne]; omega
          have hfin : X2 = b ^ (E / 2 ^ (63 - (i + 1))) % 2305843009213691579 := by
            rw [show 63 - (i + 1) = 62 - i by omega, hstep2, if_neg hodd, HhX2d.out, HhXd.out, Nat.mul_one]
            simp only [Nat.mod_mul_mod, Nat.mul_mod_mod, Nat.mod_mod, ← Nat.mul_mod]
          clear hbit2 hstep2 hodd
          have Hhfin := Lib.hid hfin
          clear hfin
          go_wp2_with fail
          exact ⟨⟨i + 1, by omega, by go_num, by rw [Hhfin.out], HhB4b.out⟩, by simp [intOf]; omega⟩
      · obtain rfl : i = 63 := by omega
        rw [show 63 - 63 = 0 by rfl, Nat.pow_zero, Nat.div_one]
        have hX := Nat.mod_lt (b ^ E) (show 0 < 2305843009213691579 by decide)
        obtain ⟨Z, hZ⟩ : ∃ Z, Z = b ^ E % 2305843009213691579 := ⟨_, rfl⟩
        rw [← hZ] at hX ⊢
        have HhB3 := Lib.hid hB3
        clear hB3
        have HhZ := Lib.hid hZ
        clear hZ
        go_wp2_with fail
        go_ret
        exact ⟨by rw [HhZ.out]; rfl, HhB3.out⟩
  · obtain rfl : e = (E : Int) := by rw [expE, if_neg hneg] at hE; omega
    have Hhr := Lib.hid hr
    clear hr
    go_enter Tryd.func24, Tryd.ntmps24
    go_wp2_with fail
    refine (Hhr.out _ ha).mono ?_
    rintro r w2 ⟨rfl, hB2⟩
    have hbel2 := hB2
    have hs2 := hbel2.size
    clear hB2
    go_wp2_with fail
    go_loopw [5, 6, 13] (fun s5 _ s13 wr => ∃ i : Nat, i ≤ 63 ∧ s13 = .int .i64 i ∧ s5 = .int .i64 ((b ^ (E / 2 ^ (63 - i)) % 2305843009213691579 : Nat) : Int) ∧ Below w.heap.size w wr) (fun _ _ s13 _ => 63 - (intOf s13).toNat)
    case atStart => exact ⟨0, by omega, rfl, by rw [Nat.div_eq_of_lt (by omega)]; rfl, hbel2⟩
    case round =>
      obtain ⟨i, hi, rfl, rfl, hB3⟩ := hrel
      by_cases hlt : i < 63
      · have hstep := exp_step b E i hlt
        have hX := Nat.mod_lt (b ^ (E / 2 ^ (63 - i))) (show 0 < 2305843009213691579 by decide)
        obtain ⟨X, hXd⟩ : ∃ X, X = b ^ (E / 2 ^ (63 - i)) % 2305843009213691579 := ⟨_, rfl⟩
        rw [← hXd] at hX ⊢
        have hs3 := hB3.size
        have hc1 := prodP_calls X X wr (by omega) (by omega)
        have hX2 := Nat.mod_lt (X * X) (show 0 < 2305843009213691579 by decide)
        obtain ⟨X2, hX2d⟩ : ∃ Y, Y = X * X % 2305843009213691579 := ⟨_, rfl⟩
        rw [← hX2d] at hc1 hX2
        have hc2 := fun wx => prodP_calls X2 b wx (by omega) (by omega)
        have hX3 := Nat.mod_lt (X2 * b) (show 0 < 2305843009213691579 by decide)
        obtain ⟨X3, hX3d⟩ : ∃ Y, Y = X2 * b % 2305843009213691579 := ⟨_, rfl⟩
        rw [← hX3d] at hc2 hX3
        have Hhstep := Lib.hid hstep
        clear hstep
        have HhXd := Lib.hid hXd
        clear hXd
        have HhX2d := Lib.hid hX2d
        clear hX2d
        have HhX3d := Lib.hid hX3d
        clear hX3d
        have Hhc1 := Lib.hid hc1
        clear hc1
        have Hhc2 := Lib.hid hc2
        clear hc2
        have HhB3 := Lib.hid hB3
        clear hB3
        go_wp2_with fail
        refine Hhc1.out.mono ?_
        rintro r w4 ⟨rfl, hB4⟩
        have hB4b := HhB3.out.trans (hB4.mono hs3)
        clear hB4
        have HhB4b := Lib.hid hB4b
        clear hB4b
        have hs4 := HhB4b.out.size
        have hbit := bit_of (E / 2 ^ (62 - i)) (Nat.lt_of_le_of_lt (Nat.div_le_self _ _) hEl)
        rw [Int.natCast_ediv, Int.natCast_pow] at hbit
        have hbit2 : bits .and .i64 ((E : Int) / 2 ^ (62 - i)) 1 = ((E / 2 ^ (62 - i) % 2 : Nat) : Int) := hbit
        clear hbit
        have hstep2 := Hhstep.out
        by_cases hodd : E / 2 ^ (62 - i) % 2 = 1
        · have hb1 : (bits .and .i64 ((E : Int) / 2 ^ (62 - i)) 1 == 1) = true := by rw [hbit2, hodd]; rfl
          have hfin : X3 = b ^ (E / 2 ^ (63 - (i + 1))) % 2305843009213691579 := by
            rw [show 63 - (i + 1) = 62 - i by omega, hstep2, if_pos hodd, HhX3d.out, HhX2d.out, HhXd.out]
            simp only [Nat.mod_mul_mod, Nat.mul_mod_mod, Nat.mod_mod, ← Nat.mul_mod]
          clear hbit2 hstep2 hodd
          have Hhfin := Lib.hid hfin
          clear hfin
          go_wp2_with fail
          refine (Hhc2.out w4).mono ?_
          rintro r w5 ⟨rfl, hB5⟩
          have hB5b := HhB4b.out.trans (hB5.mono hs4)
          clear hB5
          have HhB5b := Lib.hid hB5b
          clear hB5b
          go_wp2_with fail
          exact ⟨⟨i + 1, by omega, by go_num, by rw [Hhfin.out], HhB5b.out⟩, by simp [intOf]; omega⟩
        · have hb1 : (bits .and .i64 ((E : Int) / 2 ^ (62 - i)) 1 == 1) = false := by rw [hbit2, beq_eq_false_iff_ne]; omega
          have hfin : X2 = b ^ (E / 2 ^ (63 - (i + 1))) % 2305843009213691579 := by
            rw [show 63 - (i + 1) = 62 - i by omega, hstep2, if_neg hodd, HhX2d.out, HhXd.out, Nat.mul_one]
            simp only [Nat.mod_mul_mod, Nat.mul_mod_mod, Nat.mod_mod, ← Nat.mul_mod]
          clear hbit2 hstep2 hodd
          have Hhfin := Lib.hid hfin
          clear hfin
          go_wp2_with fail
          exact ⟨⟨i + 1, by omega, by go_num, by rw [Hhfin.out], HhB4b.out⟩, by simp [intOf]; omega⟩
      · obtain rfl : i = 63 := by omega
        rw [show 63 - 63 = 0 by rfl, Nat.pow_zero, Nat.div_one]
        have hX := Nat.mod_lt (b ^ E) (show 0 < 2305843009213691579 by decide)
        obtain ⟨Z, hZ⟩ : ∃ Z, Z = b ^ E % 2305843009213691579 := ⟨_, rfl⟩
        rw [← hZ] at hX ⊢
        have HhB3 := Lib.hid hB3
        clear hB3
        have HhZ := Lib.hid hZ
        clear hZ
        go_wp2_with fail
        go_ret
        exact ⟨by rw [HhZ.out]; rfl, HhB3.out⟩
theorem exp_calls (a e : Int) (w : World) (ha : In64 a) (he : In64 e) :
    Calls Tryd.prog 24 #[.int .i64 a, .int .i64 e] w fun r w' => r = .returned (.int .i64 (expS a e : Nat)) ∧ Below w.heap.size w w' := expLoop a e _ w he ha rfl
theorem expS_lt (a e : Int) : expS a e < 2305843009213691579 := Nat.mod_lt _ (by decide)

def mulP (a b : Int) : Nat := resP a * resP b % 2305843009213691579
def mulQ (a b : Int) : Nat := resQ a * resQ b % 1152921504606845789
def addQ (a b : Int) : Nat := (resQ a + resQ b) % 1152921504606845789
theorem mul_calls (a b : Int) (w : World) (ha : In64 a) (hb : In64 b) :
    Calls Tryd.prog 25 #[.int .i64 a, .int .i64 b] w fun r w' => r = .returned (.int .i64 (mulP a b : Nat)) ∧ Below w.heap.size w w' := by
  have h1 := resP_calls a w ha
  have l1 := resP_lt a
  have l2 := resP_lt b
  have h2 := fun wx => resP_calls b wx hb
  have h3 := fun wx => prodP_calls (resP a) (resP b) wx (by omega) (by omega)
  have hm := Nat.mod_lt (resP a * resP b) (show 0 < 2305843009213691579 by decide)
  obtain ⟨Z, hZ⟩ : ∃ Z, Z = mulP a b := ⟨_, rfl⟩
  rw [show resP a * resP b % 2305843009213691579 = Z from hZ.symm] at hm h3
  generalize resP a = x at *
  generalize resP b = y at *
  have Hh1 := Lib.hid h1
  clear h1
  have Hh2 := Lib.hid h2
  clear h2
  have Hh3 := Lib.hid h3
  clear h3
  have HhZ := Lib.hid hZ
  clear hZ
  go_enter Tryd.func25, Tryd.ntmps25
  go_wp2_with fail
  refine Hh1.out.mono ?_
  rintro r w1 ⟨rfl, hB1⟩
  have hs1 := hB1.size
  have HhB1 := Lib.hid hB1
  clear hB1
  go_wp2_with fail
  refine (Hh2.out w1).mono ?_
  rintro r w2 ⟨rfl, hB2⟩
  have hB2b := HhB1.out.trans (hB2.mono hs1)
  have hs2 := hB2b.size
  clear hB2
  have HhB2b := Lib.hid hB2b
  clear hB2b
  go_wp2_with fail
  refine (Hh3.out w2).mono ?_
  rintro r w3 ⟨rfl, hB3⟩
  have hB3b := HhB2b.out.trans (hB3.mono hs2)
  clear hB3
  have HhB3b := Lib.hid hB3b
  clear hB3b
  go_wp2_with fail
  go_ret
  exact ⟨by rw [HhZ.out]; rfl, HhB3b.out⟩
theorem mulQ_calls (a b : Int) (w : World) (ha : In64 a) (hb : In64 b) :
    Calls Tryd.prog 34 #[.int .i64 a, .int .i64 b] w fun r w' => r = .returned (.int .i64 (mulQ a b : Nat)) ∧ Below w.heap.size w w' := by
  have h1 := resQ_calls a w ha
  have l1 := resQ_lt a
  have l2 := resQ_lt b
  have h2 := fun wx => resQ_calls b wx hb
  have h3 := fun wx => prodQ_calls (resQ a) (resQ b) wx (by omega) (by omega)
  have hm := Nat.mod_lt (resQ a * resQ b) (show 0 < 1152921504606845789 by decide)
  obtain ⟨Z, hZ⟩ : ∃ Z, Z = mulQ a b := ⟨_, rfl⟩
  rw [show resQ a * resQ b % 1152921504606845789 = Z from hZ.symm] at hm h3
  generalize resQ a = x at *
  generalize resQ b = y at *
  have Hh1 := Lib.hid h1
  clear h1
  have Hh2 := Lib.hid h2
  clear h2
  have Hh3 := Lib.hid h3
  clear h3
  have HhZ := Lib.hid hZ
  clear hZ
  go_enter Tryd.func34, Tryd.ntmps34
  go_wp2_with fail
  refine Hh1.out.mono ?_
  rintro r w1 ⟨rfl, hB1⟩
  have hs1 := hB1.size
  have HhB1 := Lib.hid hB1
  clear hB1
  go_wp2_with fail
  refine (Hh2.out w1).mono ?_
  rintro r w2 ⟨rfl, hB2⟩
  have hB2b := HhB1.out.trans (hB2.mono hs1)
  have hs2 := hB2b.size
  clear hB2
  have HhB2b := Lib.hid hB2b
  clear hB2b
  go_wp2_with fail
  refine (Hh3.out w2).mono ?_
  rintro r w3 ⟨rfl, hB3⟩
  have hB3b := HhB2b.out.trans (hB3.mono hs2)
  clear hB3
  have HhB3b := Lib.hid hB3b
  clear hB3b
  go_wp2_with fail
  go_ret
  exact ⟨by rw [HhZ.out]; rfl, HhB3b.out⟩
theorem addQ_calls (a b : Int) (w : World) (ha : In64 a) (hb : In64 b) :
    Calls Tryd.prog 33 #[.int .i64 a, .int .i64 b] w fun r w' => r = .returned (.int .i64 (addQ a b : Nat)) ∧ Below w.heap.size w w' := by
  have h1 := resQ_calls a w ha
  have l1 := resQ_lt a
  have l2 := resQ_lt b
  have h2 := fun wx => resQ_calls b wx hb
  have h3 : ∀ wx, Calls Tryd.prog 40 #[.int .i64 ((resQ a : Int) + (resQ b : Int)), .int .i64 1152921504606845789] wx fun e w' => e = .returned (.int .i64 (addQ a b : Nat)) ∧ Below wx.heap.size wx w' := fun wx =>
    (resQ_calls ((resQ a : Int) + (resQ b : Int)) wx (by unfold In64; omega)).mono fun e w' ⟨h1, h2⟩ => ⟨by rw [h1]; unfold addQ resQ; congr 2, h2⟩
  obtain ⟨Z, hZ⟩ : ∃ Z, Z = addQ a b := ⟨_, rfl⟩
  have hm : addQ a b < 1152921504606845789 := Nat.mod_lt _ (by decide)
  rw [← hZ] at hm h3
  generalize resQ a = x at *
  generalize resQ b = y at *
  have Hh1 := Lib.hid h1
  clear h1
  have Hh2 := Lib.hid h2
  clear h2
  have Hh3 := Lib.hid h3
  clear h3
  have HhZ := Lib.hid hZ
  clear hZ
  go_enter Tryd.func33, Tryd.ntmps33
  go_wp2_with fail
  refine Hh1.out.mono ?_
  rintro r w1 ⟨rfl, hB1⟩
  have hs1 := hB1.size
  have HhB1 := Lib.hid hB1
  clear hB1
  go_wp2_with fail
  refine (Hh2.out w1).mono ?_
  rintro r w2 ⟨rfl, hB2⟩
  have hB2b := HhB1.out.trans (hB2.mono hs1)
  have hs2 := hB2b.size
  clear hB2
  have HhB2b := Lib.hid hB2b
  clear hB2b
  go_wp2_with fail
  refine (Hh3.out w2).mono ?_
  rintro r w3 ⟨rfl, hB3⟩
  have hB3b := HhB2b.out.trans (hB3.mono hs2)
  clear hB3
  have HhB3b := Lib.hid hB3b
  clear hB3b
  go_wp2_with fail
  go_ret
  exact ⟨by rw [HhZ.out]; rfl, HhB3b.out⟩
/-- is it in the group -/
def inG (y : Int) : Bool := decide (0 < y) && (decide (y < 2305843009213691579) && expS y 1152921504606845789 == 1)
theorem in_calls (y : Int) (w : World) (hy : In64 y) :
    Calls Tryd.prog 22 #[.int .i64 y] w fun r w' => r = .returned (.bool (inG y)) ∧ Below w.heap.size w w' := by
  have h1 := exp_calls y 1152921504606845789 w hy (by unfold In64; omega)
  have hl := expS_lt y 1152921504606845789
  have hin : inG y = (decide (0 < y) && (decide (y < 2305843009213691579) && expS y 1152921504606845789 == 1)) := rfl
  rw [hin]
  generalize expS y 1152921504606845789 = z at *
  by_cases h0 : 0 < y
  · by_cases h2 : y < 2305843009213691579
    · rw [decide_eq_true h0, decide_eq_true h2, Bool.true_and, Bool.true_and]
      have hz : ((z : Int) == 1) = (z == 1) := by rw [Bool.eq_iff_iff]; simp; omega
      have Hh1 := Lib.hid h1
      clear h1
      have Hhin := Lib.hid hin
      clear hin
      go_enter Tryd.func22, Tryd.ntmps22
      go_wp2_with fail
      refine Hh1.out.mono ?_
      rintro r w1 ⟨rfl, hB1⟩
      have HhB1 := Lib.hid hB1
      clear hB1
      go_wp2_with fail
      go_ret
      exact ⟨rfl, HhB1.out⟩
    · rw [decide_eq_false h2, Bool.false_and, Bool.and_false]
      clear h1 hin
      go_enter Tryd.func22, Tryd.ntmps22
      go_wp2_with fail
      go_ret
      exact ⟨rfl, Below.refl _ _⟩
  · rw [decide_eq_false h0, Bool.false_and]
    clear h1 hin
    go_enter Tryd.func22, Tryd.ntmps22
    go_wp2_with fail
    go_ret
    exact ⟨rfl, Below.refl _ _⟩
end Go.Proofs.YtjbpjmdnmnbonaaDoor
