/- The walks of the readers' Int and Num. -/
import Derived.Test.YtibhihobpehpbaaDoorW5
set_option linter.unusedSimpArgs false
set_option linter.unusedVariables false
namespace Go.Proofs.YtibhihobpehpbaaDoor
open Go.RowKit

/-- the number whose bytes these are, complemented or not -/
def num (neg : Bool) (l : List UInt8) : Nat := l.foldl (fun m d => m * 256 + (if neg then 255 - d.toNat else d.toNat)) 0
def cnt8 (c : UInt8) : Nat := if c.toNat < 128 then 127 - c.toNat else c.toNat - 128
/-- what a reader reads as an integer: the result, what is left, whether it failed -/
def rInt (s : List UInt8) (bad : Bool) : Int × List UInt8 × Bool :=
  match s with
  | [] => (0, [], true)
  | c :: t =>
    if 8 < cnt8 c ∨ t.length < cnt8 c then (0, [], true)
    else if sz (num (decide (c.toNat < 128)) (t.take (cnt8 c))) ≠ cnt8 c ∨ 9223372036854775808 ≤ num (decide (c.toNat < 128)) (t.take (cnt8 c)) then (0, [], true)
    else (if c.toNat < 128 then -(num true (t.take (cnt8 c)) : Int) - 1 else num false (t.take (cnt8 c)), t.drop (cnt8 c), bad)

theorem num_snoc (neg : Bool) (t : List UInt8) (j : Nat) (h : j < t.length) : num neg (t.take (j + 1)) = num neg (t.take j) * 256 + (if neg then 255 - t[j].toNat else t[j].toNat) := by
  unfold num
  rw [List.take_succ_eq_append_getElem h, List.foldl_append]
  rfl
theorem num_lt (neg : Bool) (t : List UInt8) : ∀ j, j ≤ t.length → num neg (t.take j) < 256 ^ j
  | 0, _ => by simp [num]
  | j + 1, h => by
    rw [num_snoc neg t j (by omega), Nat.pow_succ]
    have ih := num_lt neg t j (by omega)
    have hx := t[j].toNat_lt
    have : (if neg then 255 - t[j].toNat else t[j].toNat) < 256 := by split <;> omega
    omega
theorem num_lt7 (neg : Bool) (t : List UInt8) (j : Nat) (h : j ≤ t.length) (hj : j < 8) : num neg (t.take j) < 72057594037927936 := by
  have := num_lt neg t j h
  have h2 : 256 ^ j ≤ 256 ^ 7 := Nat.pow_le_pow_right (by omega) (by omega)
  have h3 : (256 : Nat) ^ 7 = 72057594037927936 := by decide
  omega
theorem num_lt8 (neg : Bool) (t : List UInt8) (j : Nat) (h : j ≤ t.length) (hj : j ≤ 8) : num neg (t.take j) ≤ 18446744073709551615 := by
  have := num_lt neg t j h
  have h2 : 256 ^ j ≤ 256 ^ 8 := Nat.pow_le_pow_right (by omega) (by omega)
  have h3 : (256 : Nat) ^ 8 = 18446744073709551616 := by decide
  omega
theorem shl_or (m d : Nat) (hm : m < 72057594037927936) (hd : d < 256) : bits .or .u64 ((m : Int) * 256) (d : Int) = ((m * 256 + d : Nat) : Int) := by
  have e : (m : Int) * 256 = ((m * 256 : Nat) : Int) := by simp
  rw [e, u64_or_nat _ _ (by omega) (by omega)]
  have := Nat.two_pow_add_eq_or_of_lt (i := 8) (b := d) (by omega) m
  rw [Nat.mul_comm m 256]
  simp only [Nat.reducePow] at this
  rw [this]
theorem xor255 (x : UInt8) : bits .xor .u8 (x.toNat : Int) 255 = ((255 - x.toNat : Nat) : Int) := by
  have e0 : (255 : Int) = ((255 : Nat) : Int) := rfl
  rw [e0, u8_xor_nat _ _ x.toNat_lt (by omega)]
  have hx : ∀ x : Fin 256, x.val ^^^ 255 = 255 - x.val := by decide +kernel
  have := hx ⟨x.toNat, x.toNat_lt⟩
  simp only at this
  rw [this]
theorem xor0 (x : UInt8) : bits .xor .u8 (x.toNat : Int) 0 = (x.toNat : Int) := by
  have e0 : (0 : Int) = ((0 : Nat) : Int) := rfl
  rw [e0, u8_xor_nat _ _ x.toNat_lt (by omega)]
  simp

theorem not_u64 (m : Nat) (h : m ≤ 18446744073709551615) : bits .xor .u64 IntKind.u64.max (m : Int) = ((18446744073709551615 - m : Nat) : Int) := by
  have hx : IntKind.u64.max = ((18446744073709551615 : Nat) : Int) := rfl
  rw [hx, u64_xor_nat _ _ (by omega) (by omega)]
  have e : m = (BitVec.ofNat 64 m).toNat := by simp; omega
  have e2 : (18446744073709551615 : Nat) = (BitVec.allOnes 64).toNat := by simp
  have e3 : (BitVec.allOnes 64 ^^^ BitVec.ofNat 64 m).toNat = 18446744073709551615 - m := by
    rw [BitVec.allOnes_xor, BitVec.toNat_not]; simp; omega
  rw [← e3, BitVec.toNat_xor, ← e2, ← e]
theorem wrap_notI (x : Int) (h0 : 0 ≤ x) (hb : x < 9223372036854775808) : wrap64 (18446744073709551615 - x) = -x - 1 := by unfold wrap64; omega
theorem wrap_not (m : Nat) (h : m ≤ 18446744073709551615) (hb : m < 9223372036854775808) : wrap64 ((18446744073709551615 - m : Nat) : Int) = -(m : Int) - 1 := by
  have e : ((18446744073709551615 - m : Nat) : Int) = ((18446744073709551615 : Nat) : Int) - (m : Int) := Int.ofNat_sub h
  rw [e]
  have hb' : (m : Int) < 9223372036854775808 := Int.ofNat_lt.2 hb
  exact wrap_notI (m : Int) (Int.natCast_nonneg m) hb'
theorem wrap_m (m : Nat) (hb : m < 9223372036854775808) : wrap64 (m : Int) = (m : Int) := by
  unfold wrap64
  omega
set_option maxHeartbeats 1000000 in
theorem rInt_calls (b : Nat) (s : List UInt8) (bad : Bool) (w : World) (h : ReaderAt w b s bad) (hs : s.length ≤ 9223372036854775807) :
    Calls Tryd.prog 26 #[.pointer (some ⟨b, 0, none⟩)] w fun e w' => e = .returned (.int .i64 (rInt s bad).1) ∧ ReaderAt w' b (rInt s bad).2.1 (rInt s bad).2.2 ∧ w.grownBy w' (some b) := by
  go_enter Tryd.func26, Tryd.ntmps26
  go_wp2_with fail
  refine (byte_calls b s bad w h).mono ?_
  rintro e w1 ⟨hn, hc, hg1⟩
  rcases s with _ | ⟨c, t⟩
  · obtain ⟨rfl, hr1⟩ := hn rfl
    clear hn hc h
    go_wp2_with fail
    go_ret
    exact ⟨rfl, hr1, hg1⟩
  · obtain ⟨rfl, hr1⟩ := hc c t rfl
    obtain ⟨c0, c1, f0, f1, hlt⟩ := hr1.cells
    have hc256 : c.toNat < 256 := c.toNat_lt
    have htl : t.length ≤ 9223372036854775807 := by simp at hs; omega
    clear hn hc h hs
    have Hhr1 := Lib.hid hr1
    clear hr1
    by_cases hneg : c.toNat < 128
    · have ek : -1 - ((c.toNat : Int) - 128) = (cnt8 c : Int) := by unfold cnt8; rw [if_pos hneg]; omega
      have hdec : decide (c.toNat < 128) = true := by simpa using hneg
      have hkb : cnt8 c < 128 := by unfold cnt8; split <;> omega
      generalize hk : cnt8 c = k at *
      have Hhk := Lib.hid hk
      clear hk
      have Hhdec := Lib.hid hdec
      clear hdec
      by_cases hk8 : 8 < k
      · go_wp2_with fail
        refine (fail_calls b t bad w1 Hhr1.out).mono ?_
        rintro e w2 ⟨rfl, hr2, hg2⟩
        go_wp2_with fail
        go_ret
        have e1 : rInt (c :: t) bad = (0, [], true) := by simp [rInt, Hhk.out, hk8]
        rw [e1]
        exact ⟨rfl, hr2, grownBy_trans hg1 hg2⟩
      · by_cases hkt : t.length < k
        · go_wp2_with fail
          refine (fail_calls b t bad w1 Hhr1.out).mono ?_
          rintro e w2 ⟨rfl, hr2, hg2⟩
          go_wp2_with fail
          go_ret
          have e1 : rInt (c :: t) bad = (0, [], true) := by simp [rInt, Hhk.out, hkt]
          rw [e1]
          exact ⟨rfl, hr2, grownBy_trans hg1 hg2⟩
        · go_wp2_with fail
          go_loop [7, 37] (fun s7 s37 => ∃ j : Nat, j ≤ k ∧ s37 = .int .i64 j ∧ s7 = .int .u64 (num true (t.take j) : Nat)) (fun _ s37 => k - (intOf s37).toNat)
          case atStart => exact ⟨0, by omega, rfl, by simp [num]⟩
          case round =>
            obtain ⟨j, hj, rfl, rfl⟩ := hrel
            by_cases hjk : j < k
            · have hjt : j < t.length := by omega
              have hm7 := num_lt7 true t j (by omega) (by omega)
              have hsn := num_snoc true t j hjt
              have hx := t[j].toNat_lt
              have hxx := xor255 t[j]
              simp only [if_true] at hsn
              generalize num true (t.take j) = m at *
              have hor := shl_or m (255 - t[j].toNat) hm7 (by omega)
              have Hhsn := Lib.hid hsn
              clear hsn
              go_wp2_with fail
              exact ⟨⟨j + 1, by omega, by go_num, by rw [Hhsn.out]; simp⟩, by simp [intOf]; omega⟩
            · have hje : j = k := by omega
              subst hje
              have hm8 := num_lt8 true t j (by omega) (by omega)
              generalize hmm : num true (t.take j) = m at *
              have Hhmm := Lib.hid hmm
              clear hmm
              go_wp2_with fail
              refine (size_calls m w1 hm8).mono ?_
              rintro e w2 ⟨rfl, rfl⟩
              have hs8 := sz_le m hm8
              by_cases hsj : sz m = j
              · by_cases hbig : m < 9223372036854775808
                · have hsh : (m : Int) / 9223372036854775808 = 0 := by omega
                  have hnot := not_u64 m hm8
                  have hwr := wrap_not m hm8 hbig
                  have hwm := wrap_m m hbig
                  obtain ⟨M, hM⟩ : ∃ M : Nat, M = 18446744073709551615 - m := ⟨_, rfl⟩
                  rw [← hM] at hnot hwr
                  clear hM
                  rw [hsj]
                  have Hhsj := Lib.hid hsj
                  clear hsj
                  go_wp2_with fail
                  go_ret
                  rw [drop_extract]
                  have e1 : rInt (c :: t) bad = (-(m : Int) - 1, t.drop j, bad) := by
                    simp only [rInt, Hhk.out, Hhdec.out, Hhmm.out]
                    rw [if_neg (by omega), if_neg (by intro h; rcases h with h | h; exact h Hhsj.out; omega)]
                    rw [if_pos hneg]
                  rw [e1]
                  exact ⟨rfl, Hhr1.out.set0 _, grownBy_setCell hg1 rfl _⟩
                · have hsh : (m : Int) / 9223372036854775808 = 1 := by omega
                  rw [hsj]
                  have Hhsj := Lib.hid hsj
                  clear hsj
                  go_wp2_with fail
                  refine (fail_calls b t bad w1 Hhr1.out).mono ?_
                  rintro e w2 ⟨rfl, hr2, hg2⟩
                  go_wp2_with fail
                  go_ret
                  have e1 : rInt (c :: t) bad = (0, [], true) := by
                    simp only [rInt, Hhk.out, Hhdec.out, Hhmm.out]
                    rw [if_neg (by omega), if_pos (by right; omega)]
                  rw [e1]
                  exact ⟨rfl, hr2, grownBy_trans hg1 hg2⟩
              · have hsj' : (sz m : Int) ≠ (j : Int) := by omega
                have Hhsj := Lib.hid hsj
                clear hsj
                go_wp2_with fail
                refine (fail_calls b t bad w1 Hhr1.out).mono ?_
                rintro e w2 ⟨rfl, hr2, hg2⟩
                go_wp2_with fail
                go_ret
                have e1 : rInt (c :: t) bad = (0, [], true) := by
                  simp only [rInt, Hhk.out, Hhdec.out, Hhmm.out]
                  rw [if_neg (by omega), if_pos (by left; exact Hhsj.out)]
                rw [e1]
                exact ⟨rfl, hr2, grownBy_trans hg1 hg2⟩
    · have ek : (c.toNat : Int) - 128 = (cnt8 c : Int) := by unfold cnt8; rw [if_neg hneg]; omega
      have hdec : decide (c.toNat < 128) = false := by simpa using hneg
      have hkb : cnt8 c < 128 := by unfold cnt8; split <;> omega
      generalize hk : cnt8 c = k at *
      have Hhk := Lib.hid hk
      clear hk
      have Hhdec := Lib.hid hdec
      clear hdec
      by_cases hk8 : 8 < k
      · go_wp2_with fail
        refine (fail_calls b t bad w1 Hhr1.out).mono ?_
        rintro e w2 ⟨rfl, hr2, hg2⟩
        go_wp2_with fail
        go_ret
        have e1 : rInt (c :: t) bad = (0, [], true) := by simp [rInt, Hhk.out, hk8]
        rw [e1]
        exact ⟨rfl, hr2, grownBy_trans hg1 hg2⟩
      · by_cases hkt : t.length < k
        · go_wp2_with fail
          refine (fail_calls b t bad w1 Hhr1.out).mono ?_
          rintro e w2 ⟨rfl, hr2, hg2⟩
          go_wp2_with fail
          go_ret
          have e1 : rInt (c :: t) bad = (0, [], true) := by simp [rInt, Hhk.out, hkt]
          rw [e1]
          exact ⟨rfl, hr2, grownBy_trans hg1 hg2⟩
        · go_wp2_with fail
          go_loop [7, 37] (fun s7 s37 => ∃ j : Nat, j ≤ k ∧ s37 = .int .i64 j ∧ s7 = .int .u64 (num false (t.take j) : Nat)) (fun _ s37 => k - (intOf s37).toNat)
          case atStart => exact ⟨0, by omega, rfl, by simp [num]⟩
          case round =>
            obtain ⟨j, hj, rfl, rfl⟩ := hrel
            by_cases hjk : j < k
            · have hjt : j < t.length := by omega
              have hm7 := num_lt7 false t j (by omega) (by omega)
              have hsn := num_snoc false t j hjt
              have hx := t[j].toNat_lt
              have hxx := xor0 t[j]
              simp only [Bool.false_eq_true, if_false] at hsn
              generalize num false (t.take j) = m at *
              have hor := shl_or m (t[j].toNat) hm7 (by omega)
              have Hhsn := Lib.hid hsn
              clear hsn
              go_wp2_with fail
              exact ⟨⟨j + 1, by omega, by go_num, by rw [Hhsn.out]; simp⟩, by simp [intOf]; omega⟩
            · have hje : j = k := by omega
              subst hje
              have hm8 := num_lt8 false t j (by omega) (by omega)
              generalize hmm : num false (t.take j) = m at *
              have Hhmm := Lib.hid hmm
              clear hmm
              go_wp2_with fail
              refine (size_calls m w1 hm8).mono ?_
              rintro e w2 ⟨rfl, rfl⟩
              have hs8 := sz_le m hm8
              by_cases hsj : sz m = j
              · by_cases hbig : m < 9223372036854775808
                · have hsh : (m : Int) / 9223372036854775808 = 0 := by omega
                  have hnot := not_u64 m hm8
                  have hwr := wrap_not m hm8 hbig
                  have hwm := wrap_m m hbig
                  obtain ⟨M, hM⟩ : ∃ M : Nat, M = 18446744073709551615 - m := ⟨_, rfl⟩
                  rw [← hM] at hnot hwr
                  clear hM
                  rw [hsj]
                  have Hhsj := Lib.hid hsj
                  clear hsj
                  go_wp2_with fail
                  go_ret
                  rw [drop_extract]
                  have e1 : rInt (c :: t) bad = ((m : Int), t.drop j, bad) := by
                    simp only [rInt, Hhk.out, Hhdec.out, Hhmm.out]
                    rw [if_neg (by omega), if_neg (by intro h; rcases h with h | h; exact h Hhsj.out; omega)]
                    rw [if_neg hneg]
                  rw [e1]
                  exact ⟨rfl, Hhr1.out.set0 _, grownBy_setCell hg1 rfl _⟩
                · have hsh : (m : Int) / 9223372036854775808 = 1 := by omega
                  rw [hsj]
                  have Hhsj := Lib.hid hsj
                  clear hsj
                  go_wp2_with fail
                  refine (fail_calls b t bad w1 Hhr1.out).mono ?_
                  rintro e w2 ⟨rfl, hr2, hg2⟩
                  go_wp2_with fail
                  go_ret
                  have e1 : rInt (c :: t) bad = (0, [], true) := by
                    simp only [rInt, Hhk.out, Hhdec.out, Hhmm.out]
                    rw [if_neg (by omega), if_pos (by right; omega)]
                  rw [e1]
                  exact ⟨rfl, hr2, grownBy_trans hg1 hg2⟩
              · have hsj' : (sz m : Int) ≠ (j : Int) := by omega
                have Hhsj := Lib.hid hsj
                clear hsj
                go_wp2_with fail
                refine (fail_calls b t bad w1 Hhr1.out).mono ?_
                rintro e w2 ⟨rfl, hr2, hg2⟩
                go_wp2_with fail
                go_ret
                have e1 : rInt (c :: t) bad = (0, [], true) := by
                  simp only [rInt, Hhk.out, Hhdec.out, Hhmm.out]
                  rw [if_neg (by omega), if_pos (by left; exact Hhsj.out)]
                rw [e1]
                exact ⟨rfl, hr2, grownBy_trans hg1 hg2⟩

def rNum (s : List UInt8) (bad : Bool) : Int × List UInt8 × Bool := if (rInt s bad).1 < 0 then (0, [], true) else rInt s bad
theorem num_le63 {x : Int × List UInt8 × Bool} : True := trivial
theorem Done_calls (b : Nat) (s : List UInt8) (bad : Bool) (w : World) (h : ReaderAt w b s bad) :
    Calls Tryd.prog 28 #[.pointer (some ⟨b, 0, none⟩)] w fun e w' => e = .returned (.bool (!bad && s.isEmpty)) ∧ w = w' := by
  obtain ⟨c0, c1, f0, f1, hlt⟩ := h.cells
  go_enter Tryd.func28, Tryd.ntmps28
  rcases s with _ | ⟨x, s⟩
  all_goals
    cases bad
    all_goals
      go_wp2_with fail
      go_ret
      exact ⟨rfl, rfl⟩
end Go.Proofs.YtibhihobpehpbaaDoor
