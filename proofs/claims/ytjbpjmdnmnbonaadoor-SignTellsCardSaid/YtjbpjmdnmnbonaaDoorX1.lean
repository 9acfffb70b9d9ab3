/- The walk of math/bits.Div64 and Rem64 at the moduli. -/
import Derived.Test.YtjbpjmdnmnbonaaDoorZ1
import Derived.Test.YtjbpjmdnmnbonaaDoorBuild
import Derived.Laws.Bits64b
import Derived.Shelf.Bits.Mul64
import Derived.Deep.QuietTactic
set_option linter.unusedSimpArgs false
set_option linter.unusedVariables false
namespace Go.Proofs.YtjbpjmdnmnbonaaDoor
open Go.RowKit

theorem wr64 (a : Nat) (h : a < 18446744073709551616) : IntKind.u64.wrap (a : Int) = (a : Int) := by rw [IntKind.wrap_u64]; omega
theorem wr_mul (a b : Nat) (h : a * b < 18446744073709551616) : IntKind.u64.wrap ((a : Int) * (b : Int)) = ((a * b : Nat) : Int) := by rw [← Int.natCast_mul]; exact wr64 _ h
theorem wr_rest (u d q Y : Nat) (hY : Y < 18446744073709551616) (hY0 : 0 < Y) (hq : q = (u * 4294967296 + d) / Y) :
    IntKind.u64.wrap (IntKind.u64.wrap (IntKind.u64.wrap ((u : Int) * 4294967296) + (d : Int)) - IntKind.u64.wrap ((q : Int) * (Y : Int))) = (((u * 4294967296 + d) % Y : Nat) : Int) := by
  have h := dig_rest hY hY0 hq
  rw [← h, Int.natCast_mul, ← Int.natCast_mul]
  simp only [IntKind.wrap_u64]
  generalize ((q * Y : Nat) : Int) = a
  omega
theorem or_add (hi lo k m : Nat) (hk : k * m = 18446744073709551616) (hp : ∃ s, k = 2 ^ s) (hhi : hi < m) (hlo : lo < 18446744073709551616) (hm : 0 < m) :
    bits .or .u64 ((hi : Int) * (k : Int)) ((lo : Int) / (m : Int)) = ((hi * k + lo / m : Nat) : Int) := by
  have h1 : hi * k < 18446744073709551616 := by
    rw [← hk, Nat.mul_comm k m]
    obtain ⟨s, rfl⟩ := hp
    exact Nat.mul_lt_mul_of_pos_right hhi (Nat.two_pow_pos s)
  have h2 : lo / m < k := by rw [Nat.div_lt_iff_lt_mul hm, hk]; exact hlo
  have h3 := bits_or_u64_nat (hi * k) (lo / m) h1 (by have := Nat.div_le_self lo m; omega)
  rw [← Int.natCast_mul, ← Int.natCast_ediv, h3]
  obtain ⟨s, rfl⟩ := hp
  rw [Nat.mul_comm hi, ← Nat.two_pow_add_eq_or_of_lt h2]


set_option maxRecDepth 100000 in
set_option maxHeartbeats 4000000 in
theorem Div64_3 (hi lo y : Nat) (w : World) (hhi : hi < y) (hlo : lo < 18446744073709551616) (hyl : 9223372036854775808 ≤ y * 8) (hyu : y * 8 < 18446744073709551616) (hbl : Lib.bitLen y = 61) :
    Calls Tryd.prog 59 #[.int .u64 hi, .int .u64 lo, .int .u64 y] w fun e w' => (∃ q : Int, e = .returned (.tuple #[.int .u64 q, .int .u64 (((hi * 18446744073709551616 + lo) % y : Nat) : Int)])) ∧ Below w.heap.size w w' := by
  have hy0 : ((y : Int) == 0) = false := by simp; omega
  have hyn : 0 < y := by omega
  by_cases h0 : hi = 0
  · subst h0
    rw [show (0 * 18446744073709551616 + lo) % y = lo % y by rw [Nat.zero_mul, Nat.zero_add]]
    have hyi : ¬ ((y : Int) = 0) := by omega
    have hmod : (lo : Int).tmod (y : Int) = ((lo % y : Nat) : Int) := rfl
    have hdiv : (lo : Int).tdiv (y : Int) = ((lo / y : Nat) : Int) := rfl
    have hdl : lo / y ≤ lo := Nat.div_le_self _ _
    have hml : lo % y ≤ lo := Nat.mod_le _ _
    have hw1 := wr64 (lo / y) (by omega)
    have hw2 := wr64 (lo % y) (by omega)
    go_enter Tryd.func59, Tryd.ntmps59
    go_wp2_with fail
    go_quiet (fail)
    go_wp2_with fail
    go_ret2
    exact ⟨⟨_, rfl⟩, below_drewN (Below.refl _ _) _⟩
  · have hlz := Tryd.bits_LeadingZeros64 (y : Int) w (by omega) (by omega)
    rw [Int.toNat_natCast, hbl] at hlz
    have hall := scaled hi lo y 8 2305843009213693952 (by decide) (by decide) (by decide)
    have hu := or_add hi lo 8 2305843009213693952 (by decide) ⟨3, by decide⟩ (by omega) hlo (by decide)
    have hul : hi * 8 + lo / 2305843009213693952 < y * 8 := by omega
    obtain ⟨Y, hY⟩ : ∃ Y, Y = y * 8 := ⟨_, rfl⟩
    obtain ⟨u, hud⟩ : ∃ u, u = hi * 8 + lo / 2305843009213693952 := ⟨_, rfl⟩
    obtain ⟨L, hL⟩ : ∃ L, L = lo * 8 % 18446744073709551616 := ⟨_, rfl⟩
    obtain ⟨d1, hd1⟩ : ∃ d, d = L / 4294967296 := ⟨_, rfl⟩
    obtain ⟨d0, hd0⟩ : ∃ d, d = L % 4294967296 := ⟨_, rfl⟩
    rw [← hud, ← hL, ← hd1, ← hd0, ← hY] at hall
    rw [← hud] at hu hul
    have hu2 : bits .or .u64 ((hi : Int) * 8) ((lo : Int) / 2305843009213693952) = (u : Int) := hu
    clear hu
    rw [← hY] at hul hyl hyu
    have hYc : (y : Int) * 8 = (Y : Int) := by omega
    obtain ⟨y1, hy1⟩ : ∃ d, d = Y / 4294967296 := ⟨_, rfl⟩
    obtain ⟨y0, hy0d⟩ : ∃ d, d = Y % 4294967296 := ⟨_, rfl⟩
    have hYs : Y = y1 * 4294967296 + y0 := by omega
    have hy1c : (Y : Int) / 4294967296 = (y1 : Int) := by omega
    have hy0c := Mul64.maskN Y hyu
    rw [← hy0d] at hy0c
    have hLl : L < 18446744073709551616 := by omega
    have hLc : IntKind.u64.wrap ((lo : Int) * 8) = (L : Int) := by rw [IntKind.wrap_u64]; omega
    have hd1c : (L : Int) / 4294967296 = (d1 : Int) := by omega
    have hd0c := Mul64.maskN L hLl
    rw [← hd0] at hd0c
    have hd1l : d1 < 4294967296 := by omega
    have hd0l : d0 < 4294967296 := by omega
    have hy1l : 2147483648 ≤ y1 := by omega
    have hy1u : y1 < 4294967296 := by omega
    have hy0l : y0 < 4294967296 := by omega
    have hu64 : u < 18446744073709551616 := by omega
    have hst := dig_start (d := d1) (by omega) hd1l hy1l hy1u hy0l (u := u) (y1 := y1) (y0 := y0)
    obtain ⟨q1, hq1d⟩ : ∃ q, q = u / y1 := ⟨_, rfl⟩
    have hq1 : (u : Int).tdiv (y1 : Int) = (q1 : Int) := by rw [hq1d]; rfl
    rw [← hq1d] at hst
    have hq1b : q1 ≤ 4294967297 := hst.2.2.1
    have hwq1 := wr64 q1 (by omega)
    have hm1 : q1 * y1 ≤ u := by rw [hq1d]; exact Nat.div_mul_le_self _ _
    have hwm := wr_mul q1 y1 (by omega)
    have hwr : IntKind.u64.wrap ((u : Int) - ((q1 * y1 : Nat) : Int)) = ((u % y1 : Nat) : Int) := by
      have := Nat.div_add_mod u y1
      rw [Nat.mul_comm, ← hq1d] at this
      rw [IntKind.wrap_u64]; omega
    generalize q1 * y1 = m1 at *
    generalize u % y1 = r1 at *
    have Hhst := Lib.hid hst
    clear hst
    have Hhall := Lib.hid hall
    clear hall
    have HhYs := Lib.hid hYs
    clear hYs
    have Hhy1 := Lib.hid hy1
    clear hy1
    have Hhy0d := Lib.hid hy0d
    clear hy0d
    have HhL := Lib.hid hL
    clear hL
    have Hhud := Lib.hid hud
    clear hud
    have Hhd1 := Lib.hid hd1
    clear hd1
    have Hhd0 := Lib.hid hd0
    clear hd0
    have Hhq1d := Lib.hid hq1d
    clear hq1d
    have Hhm1 := Lib.hid hm1
    clear hm1
    have HhY := Lib.hid hY
    clear hY
    go_enter Tryd.func59, Tryd.ntmps59
    go_wp2_with fail
    refine hlz.mono ?_
    rintro e w' ⟨rfl, rfl⟩
    go_wp2_with fail
    clear hq1 hwq1 hwm hwr hu2 hLc hYc hy1c hy0c hd1c hd0c hy0 hlz
    go_loopw [15, 16] (fun s15 s16 wr => ∃ q r : Nat, s15 = .int .u64 q ∧ s16 = .int .u64 r ∧ Dig u y1 y0 d1 q r ∧ wr = w') (fun s15 _ _ => (intOf s15).toNat)
    case atStart => exact ⟨q1, r1, rfl, rfl, Hhst.out, rfl⟩
    case round =>
      obtain ⟨q, r, rfl, rfl, hdig, rfl⟩ := hrel
      have hqb := hdig.2.2.1
      have hrb := hdig.2.2.2
      have hulY : u < y1 * 4294967296 + y0 := by have := HhYs.out; omega
      by_cases hqB : 4294967296 ≤ q
      · skip
        have hlt := dig_yes hdig hulY hd1l (.inl hqB)
        have hq0 : 0 < q := Nat.lt_of_le_of_lt (Nat.zero_le _) hlt
        obtain ⟨p, hp⟩ : ∃ p, p = q - 1 := ⟨_, rfl⟩
        have hpc : IntKind.u64.wrap ((q : Int) - 1) = (p : Int) := by rw [IntKind.wrap_u64]; omega
        obtain ⟨r9, hr9⟩ : ∃ x, x = r + y1 := ⟨_, rfl⟩
        have hrc : IntKind.u64.wrap ((r : Int) + (y1 : Int)) = (r9 : Int) := by rw [IntKind.wrap_u64]; omega
        have hpq : p < q := by omega
        have hqi : (4294967296 : Int) ≤ (q : Int) := by omega
        clear hqB
        by_cases hbr : (4294967296 : Int) ≤ (r9 : Int)
        · have hqq := dig_end hdig (by omega) hy0l hlt (by omega)
          rw [← hp, ← HhYs.out] at hqq
          have Hhdig := Lib.hid hdig
          clear hdig
          have Hhlt := Lib.hid hlt
          clear hlt
          have Hhqq := Lib.hid hqq
          clear hqq
          have Hhp := Lib.hid hp
          clear hp
          have Hhr9 := Lib.hid hr9
          clear hr9
          go_wp2_with fail
          try clear hqi
          try clear hti
          try clear hwm0
          try clear hmb
          try clear hm0
          try clear hpc
          try clear hrc
          try clear hq0
          try clear hpq
          try clear hbr
          try clear hulY
          try clear hqb
          try clear hrb
          have hY0 : 0 < Y := by omega
          obtain ⟨v, hvd⟩ : ∃ v, v = (u * 4294967296 + d1) % Y := ⟨_, rfl⟩
          have hv := wr_rest u d1 p Y hyu hY0 Hhqq.out
          have hvlt : (u * 4294967296 + d1) % Y < Y := Nat.mod_lt _ hY0
          rw [← hvd] at hv hvlt
          rw [hv]
          obtain ⟨q0, hq0d⟩ : ∃ q, q = v / y1 := ⟨_, rfl⟩
          have hst0 := dig_start (d := d0) (by have := HhYs.out; omega) hd0l hy1l hy1u hy0l (u := v) (y1 := y1) (y0 := y0)
          have hq0 : (v : Int).tdiv (y1 : Int) = (q0 : Int) := by rw [hq0d]; rfl
          rw [← hq0d] at hst0
          have hq0b : q0 ≤ 4294967297 := hst0.2.2.1
          have hwq0 := wr64 q0 (by omega)
          have hm2 : q0 * y1 ≤ v := by rw [hq0d]; exact Nat.div_mul_le_self _ _
          have hwm2 := wr_mul q0 y1 (by omega)
          have hwr2 : IntKind.u64.wrap ((v : Int) - ((q0 * y1 : Nat) : Int)) = ((v % y1 : Nat) : Int) := by
            have := Nat.div_add_mod v y1
            rw [Nat.mul_comm, ← hq0d] at this
            rw [IntKind.wrap_u64]; omega
          rw [hq0, hwq0, hwm2, hwr2]
          clear hwr2 hwm2 hm2 hwq0 hq0 hq0d hv
          have Hhst0 := Lib.hid hst0
          clear hst0
          have Hhvd := Lib.hid hvd
          clear hvd
          obtain ⟨r0, hr0⟩ : ∃ r, r = v % y1 := ⟨_, rfl⟩
          rw [← hr0] at Hhst0 ⊢
          clear hr0 Hhqq
          go_loopw [18, 16] (fun s18 s16 wx => ∃ q r : Nat, s18 = .int .u64 q ∧ s16 = .int .u64 r ∧ Dig v y1 y0 d0 q r ∧ wx = wr) (fun s18 _ _ => (intOf s18).toNat)
          case atStart => exact ⟨q0, r0, rfl, rfl, Hhst0.out, rfl⟩
          case round =>
            obtain ⟨q, r, rfl, rfl, hdig, rfl⟩ := hrel
            have hqb := hdig.2.2.1
            have hrb := hdig.2.2.2
            have hulY : v < y1 * 4294967296 + y0 := by have := HhYs.out; omega
            by_cases hqB : 4294967296 ≤ q
            · skip
              have hlt := dig_yes hdig hulY hd0l (.inl hqB)
              have hq0 : 0 < q := Nat.lt_of_le_of_lt (Nat.zero_le _) hlt
              obtain ⟨p, hp⟩ : ∃ p, p = q - 1 := ⟨_, rfl⟩
              have hpc : IntKind.u64.wrap ((q : Int) - 1) = (p : Int) := by rw [IntKind.wrap_u64]; omega
              obtain ⟨r9, hr9⟩ : ∃ x, x = r + y1 := ⟨_, rfl⟩
              have hrc : IntKind.u64.wrap ((r : Int) + (y1 : Int)) = (r9 : Int) := by rw [IntKind.wrap_u64]; omega
              have hpq : p < q := by omega
              have hqi : (4294967296 : Int) ≤ (q : Int) := by omega
              clear hqB
              by_cases hbr : (4294967296 : Int) ≤ (r9 : Int)
              · have hqq := dig_end hdig (by omega) hy0l hlt (by omega)
                rw [← hp, ← HhYs.out] at hqq
                have Hhdig := Lib.hid hdig
                clear hdig
                have Hhlt := Lib.hid hlt
                clear hlt
                have Hhqq := Lib.hid hqq
                clear hqq
                have Hhp := Lib.hid hp
                clear hp
                have Hhr9 := Lib.hid hr9
                clear hr9
                go_wp2_with fail
                obtain ⟨z, hzd⟩ : ∃ z, z = (v * 4294967296 + d0) % Y := ⟨_, rfl⟩
                have hz := wr_rest v d0 p Y hyu hY0 Hhqq.out
                have hfin : (z : Int) / 8 = (((hi * 18446744073709551616 + lo) % y : Nat) : Int) := by
                  rw [← Hhall.out, hzd, Hhvd.out, dig_two]; rfl
                rw [← hzd] at hz
                rw [hz]
                go_wp2_with fail
                rw [hfin]
                go_ret2
                exact ⟨⟨_, rfl⟩, Below.refl _ _⟩
              · have hd2 := dig_step hdig hlt (by omega)
                rw [← hp, ← hr9] at hd2
                have Hhdig := Lib.hid hdig
                clear hdig
                have Hhlt := Lib.hid hlt
                clear hlt
                have Hhd2 := Lib.hid hd2
                clear hd2
                have Hhp := Lib.hid hp
                clear hp
                have Hhr9 := Lib.hid hr9
                clear hr9
                go_wp2_with fail
                exact ⟨⟨p, r9, rfl, rfl, Hhd2.out, trivial⟩, by simp [intOf]; omega⟩
            · have hmb : q * y0 < 18446744073709551616 := Nat.lt_of_le_of_lt (Nat.mul_le_mul (show q ≤ 4294967295 by omega) (show y0 ≤ 4294967295 by omega)) (by decide)
              have hwm0 := wr_mul q y0 hmb
              obtain ⟨m0, hm0⟩ : ∃ m, m = q * y0 := ⟨_, rfl⟩
              rw [← hm0] at hwm0 hmb
              by_cases htest : 4294967296 * r + d0 < m0
              · skip
                have hlt := dig_yes hdig hulY hd0l (.inr (by rw [← hm0]; exact htest))
                have hq0 : 0 < q := Nat.lt_of_le_of_lt (Nat.zero_le _) hlt
                obtain ⟨p, hp⟩ : ∃ p, p = q - 1 := ⟨_, rfl⟩
                have hpc : IntKind.u64.wrap ((q : Int) - 1) = (p : Int) := by rw [IntKind.wrap_u64]; omega
                obtain ⟨r9, hr9⟩ : ∃ x, x = r + y1 := ⟨_, rfl⟩
                have hrc : IntKind.u64.wrap ((r : Int) + (y1 : Int)) = (r9 : Int) := by rw [IntKind.wrap_u64]; omega
                have hpq : p < q := by omega
                have hqi : ¬ (4294967296 : Int) ≤ (q : Int) := by omega
                have hti : (4294967296 : Int) * (r : Int) + (d0 : Int) < (m0 : Int) := by omega
                clear hqB htest
                by_cases hbr : (4294967296 : Int) ≤ (r9 : Int)
                · have hqq := dig_end hdig (by omega) hy0l hlt (by omega)
                  rw [← hp, ← HhYs.out] at hqq
                  have Hhdig := Lib.hid hdig
                  clear hdig
                  have Hhlt := Lib.hid hlt
                  clear hlt
                  have Hhqq := Lib.hid hqq
                  clear hqq
                  have Hhp := Lib.hid hp
                  clear hp
                  have Hhr9 := Lib.hid hr9
                  clear hr9
                  go_wp2_with fail
                  obtain ⟨z, hzd⟩ : ∃ z, z = (v * 4294967296 + d0) % Y := ⟨_, rfl⟩
                  have hz := wr_rest v d0 p Y hyu hY0 Hhqq.out
                  have hfin : (z : Int) / 8 = (((hi * 18446744073709551616 + lo) % y : Nat) : Int) := by
                    rw [← Hhall.out, hzd, Hhvd.out, dig_two]; rfl
                  rw [← hzd] at hz
                  rw [hz]
                  go_wp2_with fail
                  rw [hfin]
                  go_ret2
                  exact ⟨⟨_, rfl⟩, Below.refl _ _⟩
                · have hd2 := dig_step hdig hlt (by omega)
                  rw [← hp, ← hr9] at hd2
                  have Hhdig := Lib.hid hdig
                  clear hdig
                  have Hhlt := Lib.hid hlt
                  clear hlt
                  have Hhd2 := Lib.hid hd2
                  clear hd2
                  have Hhp := Lib.hid hp
                  clear hp
                  have Hhr9 := Lib.hid hr9
                  clear hr9
                  go_wp2_with fail
                  exact ⟨⟨p, r9, rfl, rfl, Hhd2.out, trivial⟩, by simp [intOf]; omega⟩
              · have hqq := dig_no hdig (by omega) (by rw [← hm0]; omega)
                rw [← HhYs.out] at hqq
                have hqi : ¬ (4294967296 : Int) ≤ (q : Int) := by omega
                have hti : ¬ (4294967296 : Int) * (r : Int) + (d0 : Int) < (m0 : Int) := by omega
                clear hqB htest
                have Hhdig := Lib.hid hdig
                clear hdig
                have Hhqq := Lib.hid hqq
                clear hqq
                go_wp2_with fail
                obtain ⟨z, hzd⟩ : ∃ z, z = (v * 4294967296 + d0) % Y := ⟨_, rfl⟩
                have hz := wr_rest v d0 q Y hyu hY0 Hhqq.out
                have hfin : (z : Int) / 8 = (((hi * 18446744073709551616 + lo) % y : Nat) : Int) := by
                  rw [← Hhall.out, hzd, Hhvd.out, dig_two]; rfl
                rw [← hzd] at hz
                rw [hz]
                go_wp2_with fail
                rw [hfin]
                go_ret2
                exact ⟨⟨_, rfl⟩, Below.refl _ _⟩
        · have hd2 := dig_step hdig hlt (by omega)
          rw [← hp, ← hr9] at hd2
          have Hhdig := Lib.hid hdig
          clear hdig
          have Hhlt := Lib.hid hlt
          clear hlt
          have Hhd2 := Lib.hid hd2
          clear hd2
          have Hhp := Lib.hid hp
          clear hp
          have Hhr9 := Lib.hid hr9
          clear hr9
          go_wp2_with fail
          exact ⟨⟨p, r9, rfl, rfl, Hhd2.out, trivial⟩, by simp [intOf]; omega⟩
      · have hmb : q * y0 < 18446744073709551616 := Nat.lt_of_le_of_lt (Nat.mul_le_mul (show q ≤ 4294967295 by omega) (show y0 ≤ 4294967295 by omega)) (by decide)
        have hwm0 := wr_mul q y0 hmb
        obtain ⟨m0, hm0⟩ : ∃ m, m = q * y0 := ⟨_, rfl⟩
        rw [← hm0] at hwm0 hmb
        by_cases htest : 4294967296 * r + d1 < m0
        · skip
          have hlt := dig_yes hdig hulY hd1l (.inr (by rw [← hm0]; exact htest))
          have hq0 : 0 < q := Nat.lt_of_le_of_lt (Nat.zero_le _) hlt
          obtain ⟨p, hp⟩ : ∃ p, p = q - 1 := ⟨_, rfl⟩
          have hpc : IntKind.u64.wrap ((q : Int) - 1) = (p : Int) := by rw [IntKind.wrap_u64]; omega
          obtain ⟨r9, hr9⟩ : ∃ x, x = r + y1 := ⟨_, rfl⟩
          have hrc : IntKind.u64.wrap ((r : Int) + (y1 : Int)) = (r9 : Int) := by rw [IntKind.wrap_u64]; omega
          have hpq : p < q := by omega
          have hqi : ¬ (4294967296 : Int) ≤ (q : Int) := by omega
          have hti : (4294967296 : Int) * (r : Int) + (d1 : Int) < (m0 : Int) := by omega
          clear hqB htest
          by_cases hbr : (4294967296 : Int) ≤ (r9 : Int)
          · have hqq := dig_end hdig (by omega) hy0l hlt (by omega)
            rw [← hp, ← HhYs.out] at hqq
            have Hhdig := Lib.hid hdig
            clear hdig
            have Hhlt := Lib.hid hlt
            clear hlt
            have Hhqq := Lib.hid hqq
            clear hqq
            have Hhp := Lib.hid hp
            clear hp
            have Hhr9 := Lib.hid hr9
            clear hr9
            go_wp2_with fail
            try clear hqi
            try clear hti
            try clear hwm0
            try clear hmb
            try clear hm0
            try clear hpc
            try clear hrc
            try clear hq0
            try clear hpq
            try clear hbr
            try clear hulY
            try clear hqb
            try clear hrb
            have hY0 : 0 < Y := by omega
            obtain ⟨v, hvd⟩ : ∃ v, v = (u * 4294967296 + d1) % Y := ⟨_, rfl⟩
            have hv := wr_rest u d1 p Y hyu hY0 Hhqq.out
            have hvlt : (u * 4294967296 + d1) % Y < Y := Nat.mod_lt _ hY0
            rw [← hvd] at hv hvlt
            rw [hv]
            obtain ⟨q0, hq0d⟩ : ∃ q, q = v / y1 := ⟨_, rfl⟩
            have hst0 := dig_start (d := d0) (by have := HhYs.out; omega) hd0l hy1l hy1u hy0l (u := v) (y1 := y1) (y0 := y0)
            have hq0 : (v : Int).tdiv (y1 : Int) = (q0 : Int) := by rw [hq0d]; rfl
            rw [← hq0d] at hst0
            have hq0b : q0 ≤ 4294967297 := hst0.2.2.1
            have hwq0 := wr64 q0 (by omega)
            have hm2 : q0 * y1 ≤ v := by rw [hq0d]; exact Nat.div_mul_le_self _ _
            have hwm2 := wr_mul q0 y1 (by omega)
            have hwr2 : IntKind.u64.wrap ((v : Int) - ((q0 * y1 : Nat) : Int)) = ((v % y1 : Nat) : Int) := by
              have := Nat.div_add_mod v y1
              rw [Nat.mul_comm, ← hq0d] at this
              rw [IntKind.wrap_u64]; omega
            rw [hq0, hwq0, hwm2, hwr2]
            clear hwr2 hwm2 hm2 hwq0 hq0 hq0d hv
            have Hhst0 := Lib.hid hst0
            clear hst0
            have Hhvd := Lib.hid hvd
            clear hvd
            obtain ⟨r0, hr0⟩ : ∃ r, r = v % y1 := ⟨_, rfl⟩
            rw [← hr0] at Hhst0 ⊢
            clear hr0 Hhqq
            go_loopw [18, 16] (fun s18 s16 wx => ∃ q r : Nat, s18 = .int .u64 q ∧ s16 = .int .u64 r ∧ Dig v y1 y0 d0 q r ∧ wx = wr) (fun s18 _ _ => (intOf s18).toNat)
            case atStart => exact ⟨q0, r0, rfl, rfl, Hhst0.out, rfl⟩
            case round =>
              obtain ⟨q, r, rfl, rfl, hdig, rfl⟩ := hrel
              have hqb := hdig.2.2.1
              have hrb := hdig.2.2.2
              have hulY : v < y1 * 4294967296 + y0 := by have := HhYs.out; omega
              by_cases hqB : 4294967296 ≤ q
              · skip
                have hlt := dig_yes hdig hulY hd0l (.inl hqB)
                have hq0 : 0 < q := Nat.lt_of_le_of_lt (Nat.zero_le _) hlt
                obtain ⟨p, hp⟩ : ∃ p, p = q - 1 := ⟨_, rfl⟩
                have hpc : IntKind.u64.wrap ((q : Int) - 1) = (p : Int) := by rw [IntKind.wrap_u64]; omega
                obtain ⟨r9, hr9⟩ : ∃ x, x = r + y1 := ⟨_, rfl⟩
                have hrc : IntKind.u64.wrap ((r : Int) + (y1 : Int)) = (r9 : Int) := by rw [IntKind.wrap_u64]; omega
                have hpq : p < q := by omega
                have hqi : (4294967296 : Int) ≤ (q : Int) := by omega
                clear hqB
                by_cases hbr : (4294967296 : Int) ≤ (r9 : Int)
                · have hqq := dig_end hdig (by omega) hy0l hlt (by omega)
                  rw [← hp, ← HhYs.out] at hqq
                  have Hhdig := Lib.hid hdig
                  clear hdig
                  have Hhlt := Lib.hid hlt
                  clear hlt
                  have Hhqq := Lib.hid hqq
                  clear hqq
                  have Hhp := Lib.hid hp
                  clear hp
                  have Hhr9 := Lib.hid hr9
                  clear hr9
                  go_wp2_with fail
                  obtain ⟨z, hzd⟩ : ∃ z, z = (v * 4294967296 + d0) % Y := ⟨_, rfl⟩
                  have hz := wr_rest v d0 p Y hyu hY0 Hhqq.out
                  have hfin : (z : Int) / 8 = (((hi * 18446744073709551616 + lo) % y : Nat) : Int) := by
                    rw [← Hhall.out, hzd, Hhvd.out, dig_two]; rfl
                  rw [← hzd] at hz
                  rw [hz]
                  go_wp2_with fail
                  rw [hfin]
                  go_ret2
                  exact ⟨⟨_, rfl⟩, Below.refl _ _⟩
                · have hd2 := dig_step hdig hlt (by omega)
                  rw [← hp, ← hr9] at hd2
                  have Hhdig := Lib.hid hdig
                  clear hdig
                  have Hhlt := Lib.hid hlt
                  clear hlt
                  have Hhd2 := Lib.hid hd2
                  clear hd2
                  have Hhp := Lib.hid hp
                  clear hp
                  have Hhr9 := Lib.hid hr9
                  clear hr9
                  go_wp2_with fail
                  exact ⟨⟨p, r9, rfl, rfl, Hhd2.out, trivial⟩, by simp [intOf]; omega⟩
              · have hmb : q * y0 < 18446744073709551616 := Nat.lt_of_le_of_lt (Nat.mul_le_mul (show q ≤ 4294967295 by omega) (show y0 ≤ 4294967295 by omega)) (by decide)
                have hwm0 := wr_mul q y0 hmb
                obtain ⟨m0, hm0⟩ : ∃ m, m = q * y0 := ⟨_, rfl⟩
                rw [← hm0] at hwm0 hmb
                by_cases htest : 4294967296 * r + d0 < m0
                · skip
                  have hlt := dig_yes hdig hulY hd0l (.inr (by rw [← hm0]; exact htest))
                  have hq0 : 0 < q := Nat.lt_of_le_of_lt (Nat.zero_le _) hlt
                  obtain ⟨p, hp⟩ : ∃ p, p = q - 1 := ⟨_, rfl⟩
                  have hpc : IntKind.u64.wrap ((q : Int) - 1) = (p : Int) := by rw [IntKind.wrap_u64]; omega
                  obtain ⟨r9, hr9⟩ : ∃ x, x = r + y1 := ⟨_, rfl⟩
                  have hrc : IntKind.u64.wrap ((r : Int) + (y1 : Int)) = (r9 : Int) := by rw [IntKind.wrap_u64]; omega
                  have hpq : p < q := by omega
                  have hqi : ¬ (4294967296 : Int) ≤ (q : Int) := by omega
                  have hti : (4294967296 : Int) * (r : Int) + (d0 : Int) < (m0 : Int) := by omega
                  clear hqB htest
                  by_cases hbr : (4294967296 : Int) ≤ (r9 : Int)
                  · have hqq := dig_end hdig (by omega) hy0l hlt (by omega)
                    rw [← hp, ← HhYs.out] at hqq
                    have Hhdig := Lib.hid hdig
                    clear hdig
                    have Hhlt := Lib.hid hlt
                    clear hlt
                    have Hhqq := Lib.hid hqq
                    clear hqq
                    have Hhp := Lib.hid hp
                    clear hp
                    have Hhr9 := Lib.hid hr9
                    clear hr9
                    go_wp2_with fail
                    obtain ⟨z, hzd⟩ : ∃ z, z = (v * 4294967296 + d0) % Y := ⟨_, rfl⟩
                    have hz := wr_rest v d0 p Y hyu hY0 Hhqq.out
                    have hfin : (z : Int) / 8 = (((hi * 18446744073709551616 + lo) % y : Nat) : Int) := by
                      rw [← Hhall.out, hzd, Hhvd.out, dig_two]; rfl
                    rw [← hzd] at hz
                    rw [hz]
                    go_wp2_with fail
                    rw [hfin]
                    go_ret2
                    exact ⟨⟨_, rfl⟩, Below.refl _ _⟩
                  · have hd2 := dig_step hdig hlt (by omega)
                    rw [← hp, ← hr9] at hd2
                    have Hhdig := Lib.hid hdig
                    clear hdig
                    have Hhlt := Lib.hid hlt
                    clear hlt
                    have Hhd2 := Lib.hid hd2
                    clear hd2
                    have Hhp := Lib.hid hp
                    clear hp
                    have Hhr9 := Lib.hid hr9
                    clear hr9
                    go_wp2_with fail
                    exact ⟨⟨p, r9, rfl, rfl, Hhd2.out, trivial⟩, by simp [intOf]; omega⟩
                · have hqq := dig_no hdig (by omega) (by rw [← hm0]; omega)
                  rw [← HhYs.out] at hqq
                  have hqi : ¬ (4294967296 : Int) ≤ (q : Int) := by omega
                  have hti : ¬ (4294967296 : Int) * (r : Int) + (d0 : Int) < (m0 : Int) := by omega
                  clear hqB htest
                  have Hhdig := Lib.hid hdig
                  clear hdig
                  have Hhqq := Lib.hid hqq
                  clear hqq
                  go_wp2_with fail
                  obtain ⟨z, hzd⟩ : ∃ z, z = (v * 4294967296 + d0) % Y := ⟨_, rfl⟩
                  have hz := wr_rest v d0 q Y hyu hY0 Hhqq.out
                  have hfin : (z : Int) / 8 = (((hi * 18446744073709551616 + lo) % y : Nat) : Int) := by
                    rw [← Hhall.out, hzd, Hhvd.out, dig_two]; rfl
                  rw [← hzd] at hz
                  rw [hz]
                  go_wp2_with fail
                  rw [hfin]
                  go_ret2
                  exact ⟨⟨_, rfl⟩, Below.refl _ _⟩
          · have hd2 := dig_step hdig hlt (by omega)
            rw [← hp, ← hr9] at hd2
            have Hhdig := Lib.hid hdig
            clear hdig
            have Hhlt := Lib.hid hlt
            clear hlt
            have Hhd2 := Lib.hid hd2
            clear hd2
            have Hhp := Lib.hid hp
            clear hp
            have Hhr9 := Lib.hid hr9
            clear hr9
            go_wp2_with fail
            exact ⟨⟨p, r9, rfl, rfl, Hhd2.out, trivial⟩, by simp [intOf]; omega⟩
        · have hqq := dig_no hdig (by omega) (by rw [← hm0]; omega)
          rw [← HhYs.out] at hqq
          have hqi : ¬ (4294967296 : Int) ≤ (q : Int) := by omega
          have hti : ¬ (4294967296 : Int) * (r : Int) + (d1 : Int) < (m0 : Int) := by omega
          clear hqB htest
          have Hhdig := Lib.hid hdig
          clear hdig
          have Hhqq := Lib.hid hqq
          clear hqq
          go_wp2_with fail
          try clear hqi
          try clear hti
          try clear hwm0
          try clear hmb
          try clear hm0
          try clear hpc
          try clear hrc
          try clear hq0
          try clear hpq
          try clear hbr
          try clear hulY
          try clear hqb
          try clear hrb
          have hY0 : 0 < Y := by omega
          obtain ⟨v, hvd⟩ : ∃ v, v = (u * 4294967296 + d1) % Y := ⟨_, rfl⟩
          have hv := wr_rest u d1 q Y hyu hY0 Hhqq.out
          have hvlt : (u * 4294967296 + d1) % Y < Y := Nat.mod_lt _ hY0
          rw [← hvd] at hv hvlt
          rw [hv]
          obtain ⟨q0, hq0d⟩ : ∃ q, q = v / y1 := ⟨_, rfl⟩
          have hst0 := dig_start (d := d0) (by have := HhYs.out; omega) hd0l hy1l hy1u hy0l (u := v) (y1 := y1) (y0 := y0)
          have hq0 : (v : Int).tdiv (y1 : Int) = (q0 : Int) := by rw [hq0d]; rfl
          rw [← hq0d] at hst0
          have hq0b : q0 ≤ 4294967297 := hst0.2.2.1
          have hwq0 := wr64 q0 (by omega)
          have hm2 : q0 * y1 ≤ v := by rw [hq0d]; exact Nat.div_mul_le_self _ _
          have hwm2 := wr_mul q0 y1 (by omega)
          have hwr2 : IntKind.u64.wrap ((v : Int) - ((q0 * y1 : Nat) : Int)) = ((v % y1 : Nat) : Int) := by
            have := Nat.div_add_mod v y1
            rw [Nat.mul_comm, ← hq0d] at this
            rw [IntKind.wrap_u64]; omega
          rw [hq0, hwq0, hwm2, hwr2]
          clear hwr2 hwm2 hm2 hwq0 hq0 hq0d hv
          have Hhst0 := Lib.hid hst0
          clear hst0
          have Hhvd := Lib.hid hvd
          clear hvd
          obtain ⟨r0, hr0⟩ : ∃ r, r = v % y1 := ⟨_, rfl⟩
          rw [← hr0] at Hhst0 ⊢
          clear hr0 Hhqq
          go_loopw [18, 16] (fun s18 s16 wx => ∃ q r : Nat, s18 = .int .u64 q ∧ s16 = .int .u64 r ∧ Dig v y1 y0 d0 q r ∧ wx = wr) (fun s18 _ _ => (intOf s18).toNat)
          case atStart => exact ⟨q0, r0, rfl, rfl, Hhst0.out, rfl⟩
          case round =>
            obtain ⟨q, r, rfl, rfl, hdig, rfl⟩ := hrel
            have hqb := hdig.2.2.1
            have hrb := hdig.2.2.2
            have hulY : v < y1 * 4294967296 + y0 := by have := HhYs.out; omega
            by_cases hqB : 4294967296 ≤ q
            · skip
              have hlt := dig_yes hdig hulY hd0l (.inl hqB)
              have hq0 : 0 < q := Nat.lt_of_le_of_lt (Nat.zero_le _) hlt
              obtain ⟨p, hp⟩ : ∃ p, p = q - 1 := ⟨_, rfl⟩
              have hpc : IntKind.u64.wrap ((q : Int) - 1) = (p : Int) := by rw [IntKind.wrap_u64]; omega
              obtain ⟨r9, hr9⟩ : ∃ x, x = r + y1 := ⟨_, rfl⟩
              have hrc : IntKind.u64.wrap ((r : Int) + (y1 : Int)) = (r9 : Int) := by rw [IntKind.wrap_u64]; omega
              have hpq : p < q := by omega
              have hqi : (4294967296 : Int) ≤ (q : Int) := by omega
              clear hqB
              by_cases hbr : (4294967296 : Int) ≤ (r9 : Int)
              · have hqq := dig_end hdig (by omega) hy0l hlt (by omega)
                rw [← hp, ← HhYs.out] at hqq
                have Hhdig := Lib.hid hdig
                clear hdig
                have Hhlt := Lib.hid hlt
                clear hlt
                have Hhqq := Lib.hid hqq
                clear hqq
                have Hhp := Lib.hid hp
                clear hp
                have Hhr9 := Lib.hid hr9
                clear hr9
                go_wp2_with fail
                obtain ⟨z, hzd⟩ : ∃ z, z = (v * 4294967296 + d0) % Y := ⟨_, rfl⟩
                have hz := wr_rest v d0 p Y hyu hY0 Hhqq.out
                have hfin : (z : Int) / 8 = (((hi * 18446744073709551616 + lo) % y : Nat) : Int) := by
                  rw [← Hhall.out, hzd, Hhvd.out, dig_two]; rfl
                rw [← hzd] at hz
                rw [hz]
                go_wp2_with fail
                rw [hfin]
                go_ret2
                exact ⟨⟨_, rfl⟩, Below.refl _ _⟩
              · have hd2 := dig_step hdig hlt (by omega)
                rw [← hp, ← hr9] at hd2
                have Hhdig := Lib.hid hdig
                clear hdig
                have Hhlt := Lib.hid hlt
                clear hlt
                have Hhd2 := Lib.hid hd2
                clear hd2
                have Hhp := Lib.hid hp
                clear hp
                have Hhr9 := Lib.hid hr9
                clear hr9
                go_wp2_with fail
                exact ⟨⟨p, r9, rfl, rfl, Hhd2.out, trivial⟩, by simp [intOf]; omega⟩
            · have hmb : q * y0 < 18446744073709551616 := Nat.lt_of_le_of_lt (Nat.mul_le_mul (show q ≤ 4294967295 by omega) (show y0 ≤ 4294967295 by omega)) (by decide)
              have hwm0 := wr_mul q y0 hmb
              obtain ⟨m0, hm0⟩ : ∃ m, m = q * y0 := ⟨_, rfl⟩
              rw [← hm0] at hwm0 hmb
              by_cases htest : 4294967296 * r + d0 < m0
              · skip
                have hlt := dig_yes hdig hulY hd0l (.inr (by rw [← hm0]; exact htest))
                have hq0 : 0 < q := Nat.lt_of_le_of_lt (Nat.zero_le _) hlt
                obtain ⟨p, hp⟩ : ∃ p, p = q - 1 := ⟨_, rfl⟩
                have hpc : IntKind.u64.wrap ((q : Int) - 1) = (p : Int) := by rw [IntKind.wrap_u64]; omega
                obtain ⟨r9, hr9⟩ : ∃ x, x = r + y1 := ⟨_, rfl⟩
                have hrc : IntKind.u64.wrap ((r : Int) + (y1 : Int)) = (r9 : Int) := by rw [IntKind.wrap_u64]; omega
                have hpq : p < q := by omega
                have hqi : ¬ (4294967296 : Int) ≤ (q : Int) := by omega
                have hti : (4294967296 : Int) * (r : Int) + (d0 : Int) < (m0 : Int) := by omega
                clear hqB htest
                by_cases hbr : (4294967296 : Int) ≤ (r9 : Int)
                · have hqq := dig_end hdig (by omega) hy0l hlt (by omega)
                  rw [← hp, ← HhYs.out] at hqq
                  have Hhdig := Lib.hid hdig
                  clear hdig
                  have Hhlt := Lib.hid hlt
                  clear hlt
                  have Hhqq := Lib.hid hqq
                  clear hqq
                  have Hhp := Lib.hid hp
                  clear hp
                  have Hhr9 := Lib.hid hr9
                  clear hr9
                  go_wp2_with fail
                  obtain ⟨z, hzd⟩ : ∃ z, z = (v * 4294967296 + d0) % Y := ⟨_, rfl⟩
                  have hz := wr_rest v d0 p Y hyu hY0 Hhqq.out
                  have hfin : (z : Int) / 8 = (((hi * 18446744073709551616 + lo) % y : Nat) : Int) := by
                    rw [← Hhall.out, hzd, Hhvd.out, dig_two]; rfl
                  rw [← hzd] at hz
                  rw [hz]
                  go_wp2_with fail
                  rw [hfin]
                  go_ret2
                  exact ⟨⟨_, rfl⟩, Below.refl _ _⟩
                · have hd2 := dig_step hdig hlt (by omega)
                  rw [← hp, ← hr9] at hd2
                  have Hhdig := Lib.hid hdig
                  clear hdig
                  have Hhlt := Lib.hid hlt
                  clear hlt
                  have Hhd2 := Lib.hid hd2
                  clear hd2
                  have Hhp := Lib.hid hp
                  clear hp
                  have Hhr9 := Lib.hid hr9
                  clear hr9
                  go_wp2_with fail
                  exact ⟨⟨p, r9, rfl, rfl, Hhd2.out, trivial⟩, by simp [intOf]; omega⟩
              · have hqq := dig_no hdig (by omega) (by rw [← hm0]; omega)
                rw [← HhYs.out] at hqq
                have hqi : ¬ (4294967296 : Int) ≤ (q : Int) := by omega
                have hti : ¬ (4294967296 : Int) * (r : Int) + (d0 : Int) < (m0 : Int) := by omega
                clear hqB htest
                have Hhdig := Lib.hid hdig
                clear hdig
                have Hhqq := Lib.hid hqq
                clear hqq
                go_wp2_with fail
                obtain ⟨z, hzd⟩ : ∃ z, z = (v * 4294967296 + d0) % Y := ⟨_, rfl⟩
                have hz := wr_rest v d0 q Y hyu hY0 Hhqq.out
                have hfin : (z : Int) / 8 = (((hi * 18446744073709551616 + lo) % y : Nat) : Int) := by
                  rw [← Hhall.out, hzd, Hhvd.out, dig_two]; rfl
                rw [← hzd] at hz
                rw [hz]
                go_wp2_with fail
                rw [hfin]
                go_ret2
                exact ⟨⟨_, rfl⟩, Below.refl _ _⟩

set_option maxRecDepth 100000 in
set_option maxHeartbeats 4000000 in
theorem Div64_4 (hi lo y : Nat) (w : World) (hhi : hi < y) (hlo : lo < 18446744073709551616) (hyl : 9223372036854775808 ≤ y * 16) (hyu : y * 16 < 18446744073709551616) (hbl : Lib.bitLen y = 60) :
    Calls Tryd.prog 59 #[.int .u64 hi, .int .u64 lo, .int .u64 y] w fun e w' => (∃ q : Int, e = .returned (.tuple #[.int .u64 q, .int .u64 (((hi * 18446744073709551616 + lo) % y : Nat) : Int)])) ∧ Below w.heap.size w w' := by
  have hy0 : ((y : Int) == 0) = false := by simp; omega
  have hyn : 0 < y := by omega
  by_cases h0 : hi = 0
  · subst h0
    rw [show (0 * 18446744073709551616 + lo) % y = lo % y by rw [Nat.zero_mul, Nat.zero_add]]
    have hyi : ¬ ((y : Int) = 0) := by omega
    have hmod : (lo : Int).tmod (y : Int) = ((lo % y : Nat) : Int) := rfl
    have hdiv : (lo : Int).tdiv (y : Int) = ((lo / y : Nat) : Int) := rfl
    have hdl : lo / y ≤ lo := Nat.div_le_self _ _
    have hml : lo % y ≤ lo := Nat.mod_le _ _
    have hw1 := wr64 (lo / y) (by omega)
    have hw2 := wr64 (lo % y) (by omega)
    go_enter Tryd.func59, Tryd.ntmps59
    go_wp2_with fail
    go_quiet (fail)
    go_wp2_with fail
    go_ret2
    exact ⟨⟨_, rfl⟩, below_drewN (Below.refl _ _) _⟩
  · have hlz := Tryd.bits_LeadingZeros64 (y : Int) w (by omega) (by omega)
    rw [Int.toNat_natCast, hbl] at hlz
    have hall := scaled hi lo y 16 1152921504606846976 (by decide) (by decide) (by decide)
    have hu := or_add hi lo 16 1152921504606846976 (by decide) ⟨4, by decide⟩ (by omega) hlo (by decide)
    have hul : hi * 16 + lo / 1152921504606846976 < y * 16 := by omega
    obtain ⟨Y, hY⟩ : ∃ Y, Y = y * 16 := ⟨_, rfl⟩
    obtain ⟨u, hud⟩ : ∃ u, u = hi * 16 + lo / 1152921504606846976 := ⟨_, rfl⟩
    obtain ⟨L, hL⟩ : ∃ L, L = lo * 16 % 18446744073709551616 := ⟨_, rfl⟩
    obtain ⟨d1, hd1⟩ : ∃ d, d = L / 4294967296 := ⟨_, rfl⟩
    obtain ⟨d0, hd0⟩ : ∃ d, d = L % 4294967296 := ⟨_, rfl⟩
    rw [← hud, ← hL, ← hd1, ← hd0, ← hY] at hall
    rw [← hud] at hu hul
    have hu2 : bits .or .u64 ((hi : Int) * 16) ((lo : Int) / 1152921504606846976) = (u : Int) := hu
    clear hu
    rw [← hY] at hul hyl hyu
    have hYc : (y : Int) * 16 = (Y : Int) := by omega
    obtain ⟨y1, hy1⟩ : ∃ d, d = Y / 4294967296 := ⟨_, rfl⟩
    obtain ⟨y0, hy0d⟩ : ∃ d, d = Y % 4294967296 := ⟨_, rfl⟩
    have hYs : Y = y1 * 4294967296 + y0 := by omega
    have hy1c : (Y : Int) / 4294967296 = (y1 : Int) := by omega
    have hy0c := Mul64.maskN Y hyu
    rw [← hy0d] at hy0c
    have hLl : L < 18446744073709551616 := by omega
    have hLc : IntKind.u64.wrap ((lo : Int) * 16) = (L : Int) := by rw [IntKind.wrap_u64]; omega
    have hd1c : (L : Int) / 4294967296 = (d1 : Int) := by omega
    have hd0c := Mul64.maskN L hLl
    rw [← hd0] at hd0c
    have hd1l : d1 < 4294967296 := by omega
    have hd0l : d0 < 4294967296 := by omega
    have hy1l : 2147483648 ≤ y1 := by omega
    have hy1u : y1 < 4294967296 := by omega
    have hy0l : y0 < 4294967296 := by omega
    have hu64 : u < 18446744073709551616 := by omega
    have hst := dig_start (d := d1) (by omega) hd1l hy1l hy1u hy0l (u := u) (y1 := y1) (y0 := y0)
    obtain ⟨q1, hq1d⟩ : ∃ q, q = u / y1 := ⟨_, rfl⟩
    have hq1 : (u : Int).tdiv (y1 : Int) = (q1 : Int) := by rw [hq1d]; rfl
    rw [← hq1d] at hst
    have hq1b : q1 ≤ 4294967297 := hst.2.2.1
    have hwq1 := wr64 q1 (by omega)
    have hm1 : q1 * y1 ≤ u := by rw [hq1d]; exact Nat.div_mul_le_self _ _
    have hwm := wr_mul q1 y1 (by omega)
    have hwr : IntKind.u64.wrap ((u : Int) - ((q1 * y1 : Nat) : Int)) = ((u % y1 : Nat) : Int) := by
      have := Nat.div_add_mod u y1
      rw [Nat.mul_comm, ← hq1d] at this
      rw [IntKind.wrap_u64]; omega
    generalize q1 * y1 = m1 at *
    generalize u % y1 = r1 at *
    have Hhst := Lib.hid hst
    clear hst
    have Hhall := Lib.hid hall
    clear hall
    have HhYs := Lib.hid hYs
    clear hYs
    have Hhy1 := Lib.hid hy1
    clear hy1
    have Hhy0d := Lib.hid hy0d
    clear hy0d
    have HhL := Lib.hid hL
    clear hL
    have Hhud := Lib.hid hud
    clear hud
    have Hhd1 := Lib.hid hd1
    clear hd1
    have Hhd0 := Lib.hid hd0
    clear hd0
    have Hhq1d := Lib.hid hq1d
    clear hq1d
    have Hhm1 := Lib.hid hm1
    clear hm1
    have HhY := Lib.hid hY
    clear hY
    go_enter Tryd.func59, Tryd.ntmps59
    go_wp2_with fail
    refine hlz.mono ?_
    rintro e w' ⟨rfl, rfl⟩
    go_wp2_with fail
    clear hq1 hwq1 hwm hwr hu2 hLc hYc hy1c hy0c hd1c hd0c hy0 hlz
    go_loopw [15, 16] (fun s15 s16 wr => ∃ q r : Nat, s15 = .int .u64 q ∧ s16 = .int .u64 r ∧ Dig u y1 y0 d1 q r ∧ wr = w') (fun s15 _ _ => (intOf s15).toNat)
    case atStart => exact ⟨q1, r1, rfl, rfl, Hhst.out, rfl⟩
    case round =>
      obtain ⟨q, r, rfl, rfl, hdig, rfl⟩ := hrel
      have hqb := hdig.2.2.1
      have hrb := hdig.2.2.2
      have hulY : u < y1 * 4294967296 + y0 := by have := HhYs.out; omega
      by_cases hqB : 4294967296 ≤ q
      · skip
        have hlt := dig_yes hdig hulY hd1l (.inl hqB)
        have hq0 : 0 < q := Nat.lt_of_le_of_lt (Nat.zero_le _) hlt
        obtain ⟨p, hp⟩ : ∃ p, p = q - 1 := ⟨_, rfl⟩
        have hpc : IntKind.u64.wrap ((q : Int) - 1) = (p : Int) := by rw [IntKind.wrap_u64]; omega
        obtain ⟨r9, hr9⟩ : ∃ x, x = r + y1 := ⟨_, rfl⟩
        have hrc : IntKind.u64.wrap ((r : Int) + (y1 : Int)) = (r9 : Int) := by rw [IntKind.wrap_u64]; omega
        have hpq : p < q := by omega
        have hqi : (4294967296 : Int) ≤ (q : Int) := by omega
        clear hqB
        by_cases hbr : (4294967296 : Int) ≤ (r9 : Int)
        · have hqq := dig_end hdig (by omega) hy0l hlt (by omega)
          rw [← hp, ← HhYs.out] at hqq
          have Hhdig := Lib.hid hdig
          clear hdig
          have Hhlt := Lib.hid hlt
          clear hlt
          have Hhqq := Lib.hid hqq
          clear hqq
          have Hhp := Lib.hid hp
          clear hp
          have Hhr9 := Lib.hid hr9
          clear hr9
          go_wp2_with fail
          try clear hqi
          try clear hti
          try clear hwm0
          try clear hmb
          try clear hm0
          try clear hpc
          try clear hrc
          try clear hq0
          try clear hpq
          try clear hbr
          try clear hulY
          try clear hqb
          try clear hrb
          have hY0 : 0 < Y := by omega
          obtain ⟨v, hvd⟩ : ∃ v, v = (u * 4294967296 + d1) % Y := ⟨_, rfl⟩
          have hv := wr_rest u d1 p Y hyu hY0 Hhqq.out
          have hvlt : (u * 4294967296 + d1) % Y < Y := Nat.mod_lt _ hY0
          rw [← hvd] at hv hvlt
          rw [hv]
          obtain ⟨q0, hq0d⟩ : ∃ q, q = v / y1 := ⟨_, rfl⟩
          have hst0 := dig_start (d := d0) (by have := HhYs.out; omega) hd0l hy1l hy1u hy0l (u := v) (y1 := y1) (y0 := y0)
          have hq0 : (v : Int).tdiv (y1 : Int) = (q0 : Int) := by rw [hq0d]; rfl
          rw [← hq0d] at hst0
          have hq0b : q0 ≤ 4294967297 := hst0.2.2.1
          have hwq0 := wr64 q0 (by omega)
          have hm2 : q0 * y1 ≤ v := by rw [hq0d]; exact Nat.div_mul_le_self _ _
          have hwm2 := wr_mul q0 y1 (by omega)
          have hwr2 : IntKind.u64.wrap ((v : Int) - ((q0 * y1 : Nat) : Int)) = ((v % y1 : Nat) : Int) := by
            have := Nat.div_add_mod v y1
            rw [Nat.mul_comm, ← hq0d] at this
            rw [IntKind.wrap_u64]; omega
          rw [hq0, hwq0, hwm2, hwr2]
          clear hwr2 hwm2 hm2 hwq0 hq0 hq0d hv
          have Hhst0 := Lib.hid hst0
          clear hst0
          have Hhvd := Lib.hid hvd
          clear hvd
          obtain ⟨r0, hr0⟩ : ∃ r, r = v % y1 := ⟨_, rfl⟩
          rw [← hr0] at Hhst0 ⊢
          clear hr0 Hhqq
          go_loopw [18, 16] (fun s18 s16 wx => ∃ q r : Nat, s18 = .int .u64 q ∧ s16 = .int .u64 r ∧ Dig v y1 y0 d0 q r ∧ wx = wr) (fun s18 _ _ => (intOf s18).toNat)
          case atStart => exact ⟨q0, r0, rfl, rfl, Hhst0.out, rfl⟩
          case round =>
            obtain ⟨q, r, rfl, rfl, hdig, rfl⟩ := hrel
            have hqb := hdig.2.2.1
            have hrb := hdig.2.2.2
            have hulY : v < y1 * 4294967296 + y0 := by have := HhYs.out; omega
            by_cases hqB : 4294967296 ≤ q
            · skip
              have hlt := dig_yes hdig hulY hd0l (.inl hqB)
              have hq0 : 0 < q := Nat.lt_of_le_of_lt (Nat.zero_le _) hlt
              obtain ⟨p, hp⟩ : ∃ p, p = q - 1 := ⟨_, rfl⟩
              have hpc : IntKind.u64.wrap ((q : Int) - 1) = (p : Int) := by rw [IntKind.wrap_u64]; omega
              obtain ⟨r9, hr9⟩ : ∃ x, x = r + y1 := ⟨_, rfl⟩
              have hrc : IntKind.u64.wrap ((r : Int) + (y1 : Int)) = (r9 : Int) := by rw [IntKind.wrap_u64]; omega
              have hpq : p < q := by omega
              have hqi : (4294967296 : Int) ≤ (q : Int) := by omega
              clear hqB
              by_cases hbr : (4294967296 : Int) ≤ (r9 : Int)
              · have hqq := dig_end hdig (by omega) hy0l hlt (by omega)
                rw [← hp, ← HhYs.out] at hqq
                have Hhdig := Lib.hid hdig
                clear hdig
                have Hhlt := Lib.hid hlt
                clear hlt
                have Hhqq := Lib.hid hqq
                clear hqq
                have Hhp := Lib.hid hp
                clear hp
                have Hhr9 := Lib.hid hr9
                clear hr9
                go_wp2_with fail
                obtain ⟨z, hzd⟩ : ∃ z, z = (v * 4294967296 + d0) % Y := ⟨_, rfl⟩
                have hz := wr_rest v d0 p Y hyu hY0 Hhqq.out
                have hfin : (z : Int) / 16 = (((hi * 18446744073709551616 + lo) % y : Nat) : Int) := by
                  rw [← Hhall.out, hzd, Hhvd.out, dig_two]; rfl
                rw [← hzd] at hz
                rw [hz]
                go_wp2_with fail
                rw [hfin]
                go_ret2
                exact ⟨⟨_, rfl⟩, Below.refl _ _⟩
              · have hd2 := dig_step hdig hlt (by omega)
                rw [← hp, ← hr9] at hd2
                have Hhdig := Lib.hid hdig
                clear hdig
                have Hhlt := Lib.hid hlt
                clear hlt
                have Hhd2 := Lib.hid hd2
                clear hd2
                have Hhp := Lib.hid hp
                clear hp
                have Hhr9 := Lib.hid hr9
                clear hr9
                go_wp2_with fail
                exact ⟨⟨p, r9, rfl, rfl, Hhd2.out, trivial⟩, by simp [intOf]; omega⟩
            · have hmb : q * y0 < 18446744073709551616 := Nat.lt_of_le_of_lt (Nat.mul_le_mul (show q ≤ 4294967295 by omega) (show y0 ≤ 4294967295 by omega)) (by decide)
              have hwm0 := wr_mul q y0 hmb
              obtain ⟨m0, hm0⟩ : ∃ m, m = q * y0 := ⟨_, rfl⟩
              rw [← hm0] at hwm0 hmb
              by_cases htest : 4294967296 * r + d0 < m0
              · skip
                have hlt := dig_yes hdig hulY hd0l (.inr (by rw [← hm0]; exact htest))
                have hq0 : 0 < q := Nat.lt_of_le_of_lt (Nat.zero_le _) hlt
                obtain ⟨p, hp⟩ : ∃ p, p = q - 1 := ⟨_, rfl⟩
                have hpc : IntKind.u64.wrap ((q : Int) - 1) = (p : Int) := by rw [IntKind.wrap_u64]; omega
                obtain ⟨r9, hr9⟩ : ∃ x, x = r + y1 := ⟨_, rfl⟩
                have hrc : IntKind.u64.wrap ((r : Int) + (y1 : Int)) = (r9 : Int) := by rw [IntKind.wrap_u64]; omega
                have hpq : p < q := by omega
                have hqi : ¬ (4294967296 : Int) ≤ (q : Int) := by omega
                have hti : (4294967296 : Int) * (r : Int) + (d0 : Int) < (m0 : Int) := by omega
                clear hqB htest
                by_cases hbr : (4294967296 : Int) ≤ (r9 : Int)
                · have hqq := dig_end hdig (by omega) hy0l hlt (by omega)
                  rw [← hp, ← HhYs.out] at hqq
                  have Hhdig := Lib.hid hdig
                  clear hdig
                  have Hhlt := Lib.hid hlt
                  clear hlt
                  have Hhqq := Lib.hid hqq
                  clear hqq
                  have Hhp := Lib.hid hp
                  clear hp
                  have Hhr9 := Lib.hid hr9
                  clear hr9
                  go_wp2_with fail
                  obtain ⟨z, hzd⟩ : ∃ z, z = (v * 4294967296 + d0) % Y := ⟨_, rfl⟩
                  have hz := wr_rest v d0 p Y hyu hY0 Hhqq.out
                  have hfin : (z : Int) / 16 = (((hi * 18446744073709551616 + lo) % y : Nat) : Int) := by
                    rw [← Hhall.out, hzd, Hhvd.out, dig_two]; rfl
                  rw [← hzd] at hz
                  rw [hz]
                  go_wp2_with fail
                  rw [hfin]
                  go_ret2
                  exact ⟨⟨_, rfl⟩, Below.refl _ _⟩
                · have hd2 := dig_step hdig hlt (by omega)
                  rw [← hp, ← hr9] at hd2
                  have Hhdig := Lib.hid hdig
                  clear hdig
                  have Hhlt := Lib.hid hlt
                  clear hlt
                  have Hhd2 := Lib.hid hd2
                  clear hd2
                  have Hhp := Lib.hid hp
                  clear hp
                  have Hhr9 := Lib.hid hr9
                  clear hr9
                  go_wp2_with fail
                  exact ⟨⟨p, r9, rfl, rfl, Hhd2.out, trivial⟩, by simp [intOf]; omega⟩
              · have hqq := dig_no hdig (by omega) (by rw [← hm0]; omega)
                rw [← HhYs.out] at hqq
                have hqi : ¬ (4294967296 : Int) ≤ (q : Int) := by omega
                have hti : ¬ (4294967296 : Int) * (r : Int) + (d0 : Int) < (m0 : Int) := by omega
                clear hqB htest
                have Hhdig := Lib.hid hdig
                clear hdig
                have Hhqq := Lib.hid hqq
                clear hqq
                go_wp2_with fail
                obtain ⟨z, hzd⟩ : ∃ z, z = (v * 4294967296 + d0) % Y := ⟨_, rfl⟩
                have hz := wr_rest v d0 q Y hyu hY0 Hhqq.out
                have hfin : (z : Int) / 16 = (((hi * 18446744073709551616 + lo) % y : Nat) : Int) := by
                  rw [← Hhall.out, hzd, Hhvd.out, dig_two]; rfl
                rw [← hzd] at hz
                rw [hz]
                go_wp2_with fail
                rw [hfin]
                go_ret2
                exact ⟨⟨_, rfl⟩, Below.refl _ _⟩
        · have hd2 := dig_step hdig hlt (by omega)
          rw [← hp, ← hr9] at hd2
          have Hhdig := Lib.hid hdig
          clear hdig
          have Hhlt := Lib.hid hlt
          clear hlt
          have Hhd2 := Lib.hid hd2
          clear hd2
          have Hhp := Lib.hid hp
          clear hp
          have Hhr9 := Lib.hid hr9
          clear hr9
          go_wp2_with fail
          exact ⟨⟨p, r9, rfl, rfl, Hhd2.out, trivial⟩, by simp [intOf]; omega⟩
      · have hmb : q * y0 < 18446744073709551616 := Nat.lt_of_le_of_lt (Nat.mul_le_mul (show q ≤ 4294967295 by omega) (show y0 ≤ 4294967295 by omega)) (by decide)
        have hwm0 := wr_mul q y0 hmb
        obtain ⟨m0, hm0⟩ : ∃ m, m = q * y0 := ⟨_, rfl⟩
        rw [← hm0] at hwm0 hmb
        by_cases htest : 4294967296 * r + d1 < m0
        · skip
          have hlt := dig_yes hdig hulY hd1l (.inr (by rw [← hm0]; exact htest))
          have hq0 : 0 < q := Nat.lt_of_le_of_lt (Nat.zero_le _) hlt
          obtain ⟨p, hp⟩ : ∃ p, p = q - 1 := ⟨_, rfl⟩
          have hpc : IntKind.u64.wrap ((q : Int) - 1) = (p : Int) := by rw [IntKind.wrap_u64]; omega
          obtain ⟨r9, hr9⟩ : ∃ x, x = r + y1 := ⟨_, rfl⟩
          have hrc : IntKind.u64.wrap ((r : Int) + (y1 : Int)) = (r9 : Int) := by rw [IntKind.wrap_u64]; omega
          have hpq : p < q := by omega
          have hqi : ¬ (4294967296 : Int) ≤ (q : Int) := by omega
          have hti : (4294967296 : Int) * (r : Int) + (d1 : Int) < (m0 : Int) := by omega
          clear hqB htest
          by_cases hbr : (4294967296 : Int) ≤ (r9 : Int)
          · have hqq := dig_end hdig (by omega) hy0l hlt (by omega)
            rw [← hp, ← HhYs.out] at hqq
            have Hhdig := Lib.hid hdig
            clear hdig
            have Hhlt := Lib.hid hlt
            clear hlt
            have Hhqq := Lib.hid hqq
            clear hqq
            have Hhp := Lib.hid hp
            clear hp
            have Hhr9 := Lib.hid hr9
            clear hr9
            go_wp2_with fail
            try clear hqi
            try clear hti
            try clear hwm0
            try clear hmb
            try clear hm0
            try clear hpc
            try clear hrc
            try clear hq0
            try clear hpq
            try clear hbr
            try clear hulY
            try clear hqb
            try clear hrb
            have hY0 : 0 < Y := by omega
            obtain ⟨v, hvd⟩ : ∃ v, v = (u * 4294967296 + d1) % Y := ⟨_, rfl⟩
            have hv := wr_rest u d1 p Y hyu hY0 Hhqq.out
            have hvlt : (u * 4294967296 + d1) % Y < Y := Nat.mod_lt _ hY0
            rw [← hvd] at hv hvlt
            rw [hv]
            obtain ⟨q0, hq0d⟩ : ∃ q, q = v / y1 := ⟨_, rfl⟩
            have hst0 := dig_start (d := d0) (by have := HhYs.out; omega) hd0l hy1l hy1u hy0l (u := v) (y1 := y1) (y0 := y0)
            have hq0 : (v : Int).tdiv (y1 : Int) = (q0 : Int) := by rw [hq0d]; rfl
            rw [← hq0d] at hst0
            have hq0b : q0 ≤ 4294967297 := hst0.2.2.1
            have hwq0 := wr64 q0 (by omega)
            have hm2 : q0 * y1 ≤ v := by rw [hq0d]; exact Nat.div_mul_le_self _ _
            have hwm2 := wr_mul q0 y1 (by omega)
            have hwr2 : IntKind.u64.wrap ((v : Int) - ((q0 * y1 : Nat) : Int)) = ((v % y1 : Nat) : Int) := by
              have := Nat.div_add_mod v y1
              rw [Nat.mul_comm, ← hq0d] at this
              rw [IntKind.wrap_u64]; omega
            rw [hq0, hwq0, hwm2, hwr2]
            clear hwr2 hwm2 hm2 hwq0 hq0 hq0d hv
            have Hhst0 := Lib.hid hst0
            clear hst0
            have Hhvd := Lib.hid hvd
            clear hvd
            obtain ⟨r0, hr0⟩ : ∃ r, r = v % y1 := ⟨_, rfl⟩
            rw [← hr0] at Hhst0 ⊢
            clear hr0 Hhqq
            go_loopw [18, 16] (fun s18 s16 wx => ∃ q r : Nat, s18 = .int .u64 q ∧ s16 = .int .u64 r ∧ Dig v y1 y0 d0 q r ∧ wx = wr) (fun s18 _ _ => (intOf s18).toNat)
            case atStart => exact ⟨q0, r0, rfl, rfl, Hhst0.out, rfl⟩
            case round =>
              obtain ⟨q, r, rfl, rfl, hdig, rfl⟩ := hrel
              have hqb := hdig.2.2.1
              have hrb := hdig.2.2.2
              have hulY : v < y1 * 4294967296 + y0 := by have := HhYs.out; omega
              by_cases hqB : 4294967296 ≤ q
              · skip
                have hlt := dig_yes hdig hulY hd0l (.inl hqB)
                have hq0 : 0 < q := Nat.lt_of_le_of_lt (Nat.zero_le _) hlt
                obtain ⟨p, hp⟩ : ∃ p, p = q - 1 := ⟨_, rfl⟩
                have hpc : IntKind.u64.wrap ((q : Int) - 1) = (p : Int) := by rw [IntKind.wrap_u64]; omega
                obtain ⟨r9, hr9⟩ : ∃ x, x = r + y1 := ⟨_, rfl⟩
                have hrc : IntKind.u64.wrap ((r : Int) + (y1 : Int)) = (r9 : Int) := by rw [IntKind.wrap_u64]; omega
                have hpq : p < q := by omega
                have hqi : (4294967296 : Int) ≤ (q : Int) := by omega
                clear hqB
                by_cases hbr : (4294967296 : Int) ≤ (r9 : Int)
                · have hqq := dig_end hdig (by omega) hy0l hlt (by omega)
                  rw [← hp, ← HhYs.out] at hqq
                  have Hhdig := Lib.hid hdig
                  clear hdig
                  have Hhlt := Lib.hid hlt
                  clear hlt
                  have Hhqq := Lib.hid hqq
                  clear hqq
                  have Hhp := Lib.hid hp
                  clear hp
                  have Hhr9 := Lib.hid hr9
                  clear hr9
                  go_wp2_with fail
                  obtain ⟨z, hzd⟩ : ∃ z, z = (v * 4294967296 + d0) % Y := ⟨_, rfl⟩
                  have hz := wr_rest v d0 p Y hyu hY0 Hhqq.out
                  have hfin : (z : Int) / 16 = (((hi * 18446744073709551616 + lo) % y : Nat) : Int) := by
                    rw [← Hhall.out, hzd, Hhvd.out, dig_two]; rfl
                  rw [← hzd] at hz
                  rw [hz]
                  go_wp2_with fail
                  rw [hfin]
                  go_ret2
                  exact ⟨⟨_, rfl⟩, Below.refl _ _⟩
                · have hd2 := dig_step hdig hlt (by omega)
                  rw [← hp, ← hr9] at hd2
                  have Hhdig := Lib.hid hdig
                  clear hdig
                  have Hhlt := Lib.hid hlt
                  clear hlt
                  have Hhd2 := Lib.hid hd2
                  clear hd2
                  have Hhp := Lib.hid hp
                  clear hp
                  have Hhr9 := Lib.hid hr9
                  clear hr9
                  go_wp2_with fail
                  exact ⟨⟨p, r9, rfl, rfl, Hhd2.out, trivial⟩, by simp [intOf]; omega⟩
              · have hmb : q * y0 < 18446744073709551616 := Nat.lt_of_le_of_lt (Nat.mul_le_mul (show q ≤ 4294967295 by omega) (show y0 ≤ 4294967295 by omega)) (by decide)
                have hwm0 := wr_mul q y0 hmb
                obtain ⟨m0, hm0⟩ : ∃ m, m = q * y0 := ⟨_, rfl⟩
                rw [← hm0] at hwm0 hmb
                by_cases htest : 4294967296 * r + d0 < m0
                · skip
                  have hlt := dig_yes hdig hulY hd0l (.inr (by rw [← hm0]; exact htest))
                  have hq0 : 0 < q := Nat.lt_of_le_of_lt (Nat.zero_le _) hlt
                  obtain ⟨p, hp⟩ : ∃ p, p = q - 1 := ⟨_, rfl⟩
                  have hpc : IntKind.u64.wrap ((q : Int) - 1) = (p : Int) := by rw [IntKind.wrap_u64]; omega
                  obtain ⟨r9, hr9⟩ : ∃ x, x = r + y1 := ⟨_, rfl⟩
                  have hrc : IntKind.u64.wrap ((r : Int) + (y1 : Int)) = (r9 : Int) := by rw [IntKind.wrap_u64]; omega
                  have hpq : p < q := by omega
                  have hqi : ¬ (4294967296 : Int) ≤ (q : Int) := by omega
                  have hti : (4294967296 : Int) * (r : Int) + (d0 : Int) < (m0 : Int) := by omega
                  clear hqB htest
                  by_cases hbr : (4294967296 : Int) ≤ (r9 : Int)
                  · have hqq := dig_end hdig (by omega) hy0l hlt (by omega)
                    rw [← hp, ← HhYs.out] at hqq
                    have Hhdig := Lib.hid hdig
                    clear hdig
                    have Hhlt := Lib.hid hlt
                    clear hlt
                    have Hhqq := Lib.hid hqq
                    clear hqq
                    have Hhp := Lib.hid hp
                    clear hp
                    have Hhr9 := Lib.hid hr9
                    clear hr9
                    go_wp2_with fail
                    obtain ⟨z, hzd⟩ : ∃ z, z = (v * 4294967296 + d0) % Y := ⟨_, rfl⟩
                    have hz := wr_rest v d0 p Y hyu hY0 Hhqq.out
                    have hfin : (z : Int) / 16 = (((hi * 18446744073709551616 + lo) % y : Nat) : Int) := by
                      rw [← Hhall.out, hzd, Hhvd.out, dig_two]; rfl
                    rw [← hzd] at hz
                    rw [hz]
                    go_wp2_with fail
                    rw [hfin]
                    go_ret2
                    exact ⟨⟨_, rfl⟩, Below.refl _ _⟩
                  · have hd2 := dig_step hdig hlt (by omega)
                    rw [← hp, ← hr9] at hd2
                    have Hhdig := Lib.hid hdig
                    clear hdig
                    have Hhlt := Lib.hid hlt
                    clear hlt
                    have Hhd2 := Lib.hid hd2
                    clear hd2
                    have Hhp := Lib.hid hp
                    clear hp
                    have Hhr9 := Lib.hid hr9
                    clear hr9
                    go_wp2_with fail
                    exact ⟨⟨p, r9, rfl, rfl, Hhd2.out, trivial⟩, by simp [intOf]; omega⟩
                · have hqq := dig_no hdig (by omega) (by rw [← hm0]; omega)
                  rw [← HhYs.out] at hqq
                  have hqi : ¬ (4294967296 : Int) ≤ (q : Int) := by omega
                  have hti : ¬ (4294967296 : Int) * (r : Int) + (d0 : Int) < (m0 : Int) := by omega
                  clear hqB htest
                  have Hhdig := Lib.hid hdig
                  clear hdig
                  have Hhqq := Lib.hid hqq
                  clear hqq
                  go_wp2_with fail
                  obtain ⟨z, hzd⟩ : ∃ z, z = (v * 4294967296 + d0) % Y := ⟨_, rfl⟩
                  have hz := wr_rest v d0 q Y hyu hY0 Hhqq.out
                  have hfin : (z : Int) / 16 = (((hi * 18446744073709551616 + lo) % y : Nat) : Int) := by
                    rw [← Hhall.out, hzd, Hhvd.out, dig_two]; rfl
                  rw [← hzd] at hz
                  rw [hz]
                  go_wp2_with fail
                  rw [hfin]
                  go_ret2
                  exact ⟨⟨_, rfl⟩, Below.refl _ _⟩
          · have hd2 := dig_step hdig hlt (by omega)
            rw [← hp, ← hr9] at hd2
            have Hhdig := Lib.hid hdig
            clear hdig
            have Hhlt := Lib.hid hlt
            clear hlt
            have Hhd2 := Lib.hid hd2
            clear hd2
            have Hhp := Lib.hid hp
            clear hp
            have Hhr9 := Lib.hid hr9
            clear hr9
            go_wp2_with fail
            exact ⟨⟨p, r9, rfl, rfl, Hhd2.out, trivial⟩, by simp [intOf]; omega⟩
        · have hqq := dig_no hdig (by omega) (by rw [← hm0]; omega)
          rw [← HhYs.out] at hqq
          have hqi : ¬ (4294967296 : Int) ≤ (q : Int) := by omega
          have hti : ¬ (4294967296 : Int) * (r : Int) + (d1 : Int) < (m0 : Int) := by omega
          clear hqB htest
          have Hhdig := Lib.hid hdig
          clear hdig
          have Hhqq := Lib.hid hqq
          clear hqq
          go_wp2_with fail
          try clear hqi
          try clear hti
          try clear hwm0
          try clear hmb
          try clear hm0
          try clear hpc
          try clear hrc
          try clear hq0
          try clear hpq
          try clear hbr
          try clear hulY
          try clear hqb
          try clear hrb
          have hY0 : 0 < Y := by omega
          obtain ⟨v, hvd⟩ : ∃ v, v = (u * 4294967296 + d1) % Y := ⟨_, rfl⟩
          have hv := wr_rest u d1 q Y hyu hY0 Hhqq.out
          have hvlt : (u * 4294967296 + d1) % Y < Y := Nat.mod_lt _ hY0
          rw [← hvd] at hv hvlt
          rw [hv]
          obtain ⟨q0, hq0d⟩ : ∃ q, q = v / y1 := ⟨_, rfl⟩
          have hst0 := dig_start (d := d0) (by have := HhYs.out; omega) hd0l hy1l hy1u hy0l (u := v) (y1 := y1) (y0 := y0)
          have hq0 : (v : Int).tdiv (y1 : Int) = (q0 : Int) := by rw [hq0d]; rfl
          rw [← hq0d] at hst0
          have hq0b : q0 ≤ 4294967297 := hst0.2.2.1
          have hwq0 := wr64 q0 (by omega)
          have hm2 : q0 * y1 ≤ v := by rw [hq0d]; exact Nat.div_mul_le_self _ _
          have hwm2 := wr_mul q0 y1 (by omega)
          have hwr2 : IntKind.u64.wrap ((v : Int) - ((q0 * y1 : Nat) : Int)) = ((v % y1 : Nat) : Int) := by
            have := Nat.div_add_mod v y1
            rw [Nat.mul_comm, ← hq0d] at this
            rw [IntKind.wrap_u64]; omega
          rw [hq0, hwq0, hwm2, hwr2]
          clear hwr2 hwm2 hm2 hwq0 hq0 hq0d hv
          have Hhst0 := Lib.hid hst0
          clear hst0
          have Hhvd := Lib.hid hvd
          clear hvd
          obtain ⟨r0, hr0⟩ : ∃ r, r = v % y1 := ⟨_, rfl⟩
          rw [← hr0] at Hhst0 ⊢
          clear hr0 Hhqq
          go_loopw [18, 16] (fun s18 s16 wx => ∃ q r : Nat, s18 = .int .u64 q ∧ s16 = .int .u64 r ∧ Dig v y1 y0 d0 q r ∧ wx = wr) (fun s18 _ _ => (intOf s18).toNat)
          case atStart => exact ⟨q0, r0, rfl, rfl, Hhst0.out, rfl⟩
          case round =>
            obtain ⟨q, r, rfl, rfl, hdig, rfl⟩ := hrel
            have hqb := hdig.2.2.1
            have hrb := hdig.2.2.2
            have hulY : v < y1 * 4294967296 + y0 := by have := HhYs.out; omega
            by_cases hqB : 4294967296 ≤ q
            · skip
              have hlt := dig_yes hdig hulY hd0l (.inl hqB)
              have hq0 : 0 < q := Nat.lt_of_le_of_lt (Nat.zero_le _) hlt
              obtain ⟨p, hp⟩ : ∃ p, p = q - 1 := ⟨_, rfl⟩
              have hpc : IntKind.u64.wrap ((q : Int) - 1) = (p : Int) := by rw [IntKind.wrap_u64]; omega
              obtain ⟨r9, hr9⟩ : ∃ x, x = r + y1 := ⟨_, rfl⟩
              have hrc : IntKind.u64.wrap ((r : Int) + (y1 : Int)) = (r9 : Int) := by rw [IntKind.wrap_u64]; omega
              have hpq : p < q := by omega
              have hqi : (4294967296 : Int) ≤ (q : Int) := by omega
              clear hqB
              by_cases hbr : (4294967296 : Int) ≤ (r9 : Int)
              · have hqq := dig_end hdig (by omega) hy0l hlt (by omega)
                rw [← hp, ← HhYs.out] at hqq
                have Hhdig := Lib.hid hdig
                clear hdig
                have Hhlt := Lib.hid hlt
                clear hlt
                have Hhqq := Lib.hid hqq
                clear hqq
                have Hhp := Lib.hid hp
                clear hp
                have Hhr9 := Lib.hid hr9
                clear hr9
                go_wp2_with fail
                obtain ⟨z, hzd⟩ : ∃ z, z = (v * 4294967296 + d0) % Y := ⟨_, rfl⟩
                have hz := wr_rest v d0 p Y hyu hY0 Hhqq.out
                have hfin : (z : Int) / 16 = (((hi * 18446744073709551616 + lo) % y : Nat) : Int) := by
                  rw [← Hhall.out, hzd, Hhvd.out, dig_two]; rfl
                rw [← hzd] at hz
                rw [hz]
                go_wp2_with fail
                rw [hfin]
                go_ret2
                exact ⟨⟨_, rfl⟩, Below.refl _ _⟩
              · have hd2 := dig_step hdig hlt (by omega)
                rw [← hp, ← hr9] at hd2
                have Hhdig := Lib.hid hdig
                clear hdig
                have Hhlt := Lib.hid hlt
                clear hlt
                have Hhd2 := Lib.hid hd2
                clear hd2
                have Hhp := Lib.hid hp
                clear hp
                have Hhr9 := Lib.hid hr9
                clear hr9
                go_wp2_with fail
                exact ⟨⟨p, r9, rfl, rfl, Hhd2.out, trivial⟩, by simp [intOf]; omega⟩
            · have hmb : q * y0 < 18446744073709551616 := Nat.lt_of_le_of_lt (Nat.mul_le_mul (show q ≤ 4294967295 by omega) (show y0 ≤ 4294967295 by omega)) (by decide)
              have hwm0 := wr_mul q y0 hmb
              obtain ⟨m0, hm0⟩ : ∃ m, m = q * y0 := ⟨_, rfl⟩
              rw [← hm0] at hwm0 hmb
              by_cases htest : 4294967296 * r + d0 < m0
              · skip
                have hlt := dig_yes hdig hulY hd0l (.inr (by rw [← hm0]; exact htest))
                have hq0 : 0 < q := Nat.lt_of_le_of_lt (Nat.zero_le _) hlt
                obtain ⟨p, hp⟩ : ∃ p, p = q - 1 := ⟨_, rfl⟩
                have hpc : IntKind.u64.wrap ((q : Int) - 1) = (p : Int) := by rw [IntKind.wrap_u64]; omega
                obtain ⟨r9, hr9⟩ : ∃ x, x = r + y1 := ⟨_, rfl⟩
                have hrc : IntKind.u64.wrap ((r : Int) + (y1 : Int)) = (r9 : Int) := by rw [IntKind.wrap_u64]; omega
                have hpq : p < q := by omega
                have hqi : ¬ (4294967296 : Int) ≤ (q : Int) := by omega
                have hti : (4294967296 : Int) * (r : Int) + (d0 : Int) < (m0 : Int) := by omega
                clear hqB htest
                by_cases hbr : (4294967296 : Int) ≤ (r9 : Int)
                · have hqq := dig_end hdig (by omega) hy0l hlt (by omega)
                  rw [← hp, ← HhYs.out] at hqq
                  have Hhdig := Lib.hid hdig
                  clear hdig
                  have Hhlt := Lib.hid hlt
                  clear hlt
                  have Hhqq := Lib.hid hqq
                  clear hqq
                  have Hhp := Lib.hid hp
                  clear hp
                  have Hhr9 := Lib.hid hr9
                  clear hr9
                  go_wp2_with fail
                  obtain ⟨z, hzd⟩ : ∃ z, z = (v * 4294967296 + d0) % Y := ⟨_, rfl⟩
                  have hz := wr_rest v d0 p Y hyu hY0 Hhqq.out
                  have hfin : (z : Int) / 16 = (((hi * 18446744073709551616 + lo) % y : Nat) : Int) := by
                    rw [← Hhall.out, hzd, Hhvd.out, dig_two]; rfl
                  rw [← hzd] at hz
                  rw [hz]
                  go_wp2_with fail
                  rw [hfin]
                  go_ret2
                  exact ⟨⟨_, rfl⟩, Below.refl _ _⟩
                · have hd2 := dig_step hdig hlt (by omega)
                  rw [← hp, ← hr9] at hd2
                  have Hhdig := Lib.hid hdig
                  clear hdig
                  have Hhlt := Lib.hid hlt
                  clear hlt
                  have Hhd2 := Lib.hid hd2
                  clear hd2
                  have Hhp := Lib.hid hp
                  clear hp
                  have Hhr9 := Lib.hid hr9
                  clear hr9
                  go_wp2_with fail
                  exact ⟨⟨p, r9, rfl, rfl, Hhd2.out, trivial⟩, by simp [intOf]; omega⟩
              · have hqq := dig_no hdig (by omega) (by rw [← hm0]; omega)
                rw [← HhYs.out] at hqq
                have hqi : ¬ (4294967296 : Int) ≤ (q : Int) := by omega
                have hti : ¬ (4294967296 : Int) * (r : Int) + (d0 : Int) < (m0 : Int) := by omega
                clear hqB htest
                have Hhdig := Lib.hid hdig
                clear hdig
                have Hhqq := Lib.hid hqq
                clear hqq
                go_wp2_with fail
                obtain ⟨z, hzd⟩ : ∃ z, z = (v * 4294967296 + d0) % Y := ⟨_, rfl⟩
                have hz := wr_rest v d0 q Y hyu hY0 Hhqq.out
                have hfin : (z : Int) / 16 = (((hi * 18446744073709551616 + lo) % y : Nat) : Int) := by
                  rw [← Hhall.out, hzd, Hhvd.out, dig_two]; rfl
                rw [← hzd] at hz
                rw [hz]
                go_wp2_with fail
                rw [hfin]
                go_ret2
                exact ⟨⟨_, rfl⟩, Below.refl _ _⟩
end Go.Proofs.YtjbpjmdnmnbonaaDoor
