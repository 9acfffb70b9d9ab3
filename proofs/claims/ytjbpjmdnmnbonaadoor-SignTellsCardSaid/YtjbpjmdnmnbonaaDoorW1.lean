/- The walks of size and Int. -/
import Derived.Test.YtjbpjmdnmnbonaaDoorBase
import Derived.Test.YtjbpjmdnmnbonaaDoorBuild
import Derived.Laws.BitsAllLaws
set_option linter.unusedSimpArgs false
set_option linter.unusedVariables false
namespace Go.Proofs.YtjbpjmdnmnbonaaDoor
open Go.RowKit

/-- the number of bytes of a number -/
def sz (m : Nat) : Nat := (Lib.bitLen m + 7) / 8

theorem bitLen_le64 (m : Nat) (h : m ≤ 18446744073709551615) : Lib.bitLen m ≤ 64 := Lib.bitLen_le m 64 (by omega) (by omega)
theorem sz_le (m : Nat) (h : m ≤ 18446744073709551615) : sz m ≤ 8 := by
  have := bitLen_le64 m h
  unfold sz; omega

theorem size_calls (m : Nat) (w : World) (h : m ≤ 18446744073709551615) :
    Calls Tryd.prog 57 #[.int .u64 m] w fun e w' => e = .returned (.int .i64 (sz m)) ∧ w = w' := by
  go_enter Tryd.func57, Tryd.ntmps57
  go_wp2_with fail
  refine (Tryd.bits_Len64 (m : Int) w (by omega) (by omega)).mono ?_
  rintro e w1 ⟨rfl, rfl⟩
  simp only [Int.toNat_natCast]
  have hl := bitLen_le64 m h
  go_wp2_with fail
  go_ret
  exact ⟨ret_int (by simp [sz]), rfl⟩

theorem bytes_string (l : List UInt8) : (l.map fun b => Value.int .u8 b.toNat) = Lib.byteCells l := rfl

/-- the byte number i of a number, or its complement -/
def dig (neg : Bool) (m i : Nat) : UInt8 := if neg then UInt8.ofNat (255 - m / 256 ^ i % 256) else UInt8.ofNat (m / 256 ^ i % 256)
/-- the first j bytes of k, the highest first -/
def digs (neg : Bool) (m k j : Nat) : List UInt8 := (List.range j).map fun t => dig neg m (k - 1 - t)
def mag (n : Int) : Nat := if n < 0 then (-n - 1).toNat else n.toNat
def encInt (n : Int) : List UInt8 :=
  let m := mag n
  (if n < 0 then UInt8.ofNat (127 - sz m) else UInt8.ofNat (128 + sz m)) :: digs (decide (n < 0)) m (sz m) (sz m)

theorem not64 {n : Int} (h : In64 n) (hn : n < 0) : bits .xor .u64 IntKind.u64.max (IntKind.u64.wrap n) = (mag n : Int) := by
  obtain ⟨m, hm⟩ : ∃ m : Nat, n = -(m : Int) - 1 := ⟨(-n - 1).toNat, by omega⟩
  subst hm
  have hm : mag (-(m : Int) - 1) = m := by unfold mag; rw [if_pos (by omega)]; omega
  have hw : IntKind.u64.wrap (-(m : Int) - 1) = ((18446744073709551615 - m : Nat) : Int) := by
    unfold In64 at h
    simp [IntKind.wrap, IntKind.signed, IntKind.bits]
    omega
  have hx : IntKind.u64.max = ((18446744073709551615 : Nat) : Int) := rfl
  rw [hm, hw, hx, u64_xor_nat _ _ (by omega) (by unfold In64 at h; omega)]
  have : (18446744073709551615 ^^^ (18446744073709551615 - m) : Nat) = m := by
    have h2 : m < 2 ^ 64 := by unfold In64 at h; omega
    have e : 18446744073709551615 - m = (~~~ (BitVec.ofNat 64 m)).toNat := by simp [BitVec.toNat_not]; omega
    have e2 : (18446744073709551615 : Nat) = (BitVec.allOnes 64).toNat := by simp
    rw [e, e2, ← BitVec.toNat_xor, BitVec.allOnes_xor, BitVec.not_not]
    simp; omega
  rw [this]

theorem mag_le {n : Int} (h : In64 n) : mag n ≤ 9223372036854775807 := by
  unfold In64 at h; unfold mag; split <;> omega

theorem digs_snoc (neg : Bool) (m k j : Nat) {t : Nat} (h : k - 1 - j = t) : digs neg m k (j + 1) = digs neg m k j ++ [dig neg m t] := by
  subst h
  simp [digs, List.range_succ]
theorem mask0 (m t : Nat) : bits .xor .u8 ((m : Int) / 2 ^ (8 * t) % 256) 0 = ((dig false m t).toNat : Int) := by
  have e : (m : Int) / 2 ^ (8 * t) % 256 = ((m / 256 ^ t % 256 : Nat) : Int) := by
    rw [show (256 : Nat) ^ t = 2 ^ (8 * t) by rw [Nat.pow_mul]]; simp
  have e0 : (0 : Int) = ((0 : Nat) : Int) := rfl
  have hl : m / 256 ^ t % 256 < 256 := Nat.mod_lt _ (by omega)
  rw [e, e0, u8_xor_nat _ _ hl (by omega)]
  simp [dig]
theorem mask255 (m t : Nat) : bits .xor .u8 ((m : Int) / 2 ^ (8 * t) % 256) 255 = ((dig true m t).toNat : Int) := by
  have e : (m : Int) / 2 ^ (8 * t) % 256 = ((m / 256 ^ t % 256 : Nat) : Int) := by
    rw [show (256 : Nat) ^ t = 2 ^ (8 * t) by rw [Nat.pow_mul]]; simp
  have e0 : (255 : Int) = ((255 : Nat) : Int) := rfl
  have hl : m / 256 ^ t % 256 < 256 := Nat.mod_lt _ (by omega)
  rw [e, e0, u8_xor_nat _ _ hl (by omega)]
  simp only [dig, if_true]
  generalize m / 256 ^ t % 256 = x at *
  have hx : ∀ x : Fin 256, 255 ^^^ x.val = (UInt8.ofNat (255 - x.val)).toNat := by decide +kernel
  have := hx ⟨x, hl⟩
  simp only at this
  rw [← this, Nat.xor_comm]
theorem encInt_neg {n : Int} (h : n < 0) (hs : sz (mag n) ≤ 8) : Lib.byteCells (encInt n) = .int .u8 (127 - (sz (mag n) : Int)) :: Lib.byteCells (digs true (mag n) (sz (mag n)) (sz (mag n))) := by
  simp [encInt, Lib.byteCells, h]; omega
theorem encInt_pos {n : Int} (h0 : 0 ≤ n) (hs : sz (mag n) ≤ 8) : Lib.byteCells (encInt n) = .int .u8 (128 + (sz (mag n) : Int)) :: Lib.byteCells (digs false (mag n) (sz (mag n)) (sz (mag n))) := by
  have h : ¬ n < 0 := by omega
  simp [encInt, Lib.byteCells, h]; omega

theorem Int_calls (n : Int) (w : World) (h : In64 n) :
    Calls Tryd.prog 47 #[.int .i64 n] w fun e w' => e = .returned (.string ⟨(encInt n).toArray⟩) ∧ Below w.heap.size w w' := by
  go_enter Tryd.func47, Tryd.ntmps47
  have hm64 := mag_le h
  have hs := sz_le (mag n) (by omega)
  by_cases hn : n < 0
  · have e1 := not64 h hn
    go_wp2_with fail
    refine (size_calls (mag n) w (by omega)).mono ?_
    rintro e w1 ⟨rfl, rfl⟩
    go_wp2_with fail
    go_loopw [7, 8] (fun s7 s8 wr => ∃ j : Nat, j ≤ sz (mag n) ∧ s8 = .int .i64 ((sz (mag n) : Int) - 1 - j) ∧ wr.ownsRow w.heap.size 5 1 s7 (1 + j) (.int .u8 (127 - (sz (mag n) : Int)) :: Lib.byteCells (digs true (mag n) (sz (mag n)) j)) ∧ Below w.heap.size w wr) (fun _ s8 _ => (intOf s8 + 1).toNat)
    case atStart => exact ⟨0, by omega, by simp, World.ownsRow_lit w _ 1 (Nat.le_refl _) (by decide) rfl, (by ((repeat' (first | exact Below.refl _ _ | (refine Below.alloc ?_ ?_ _) | (refine Below.setCell ?_ ?_ _) | (refine Below.drew ?_) | (refine Below.trans ?_ (Below.mono (by assumption) ?_)))) <;> ((try simp only [World.size_alloc, World.size_setCell, World.size_drew] at *); omega)))⟩
    case round =>
      obtain ⟨j, hj, rfl, hown, hB⟩ := hrel
      have hsz := hB.size
      have Hhown := Lib.hid hown
      clear hown
      by_cases hjk : j < sz (mag n)
      · obtain ⟨t, ht⟩ : ∃ t : Nat, (sz (mag n) : Int) - 1 - j = t := ⟨sz (mag n) - 1 - j, by omega⟩
        have ht2 : sz (mag n) - 1 - j = t := by omega
        have hlow : -1 ≤ (t : Int) - 1 := by omega
        rw [ht]
        have Hht := Lib.hid ht
        clear ht
        have ht8 : t < 8 := by omega
        have hd := mask255 (mag n) t
        go_wp2_with (at_builtin; refine append_byte rfl _ _ rfl w.heap.size u7 (1 + j) _ rfl (Hhown.out.alloc _) wr.heap.size ((dig true (mag n) t).toNat : Int) rfl (by simp) (by omega) (by simp; omega) ?_)
        intro v5 w5 hown5 hg5 hB5
        have Hhown5 := Lib.hid hown5
        clear hown5
        go_wp2_with fail
        refine ⟨⟨j + 1, by omega, ?_, ?_, (by ((repeat' (first | exact Below.refl _ _ | (refine Below.alloc ?_ ?_ _) | (refine Below.setCell ?_ ?_ _) | (refine Below.drew ?_) | (refine Below.trans ?_ (Below.mono (by assumption) ?_)))) <;> ((try simp only [World.size_alloc, World.size_setCell, World.size_drew] at *); omega)))⟩, ?_⟩
        · have := Hht.out; rw [ret_i64 (a := (t : Int) - 1) (b := (sz (mag n) : Int) - 1 - (j + 1 : Nat)) (by omega)]
        · have := Hhown5.out
          rw [digs_snoc true (mag n) (sz (mag n)) j ht2, Lib.byteCells_append]
          exact this
        · simp [intOf]
      · have hje : j = sz (mag n) := by omega
        subst hje
        have hk := own_string (n := 1 + sz (mag n)) (l := encInt n) (v := u7) (w := wr) (base := w.heap.size) (by rw [encInt_neg hn hs]; exact Hhown.out)
        rw [show (sz (mag n) : Int) - 1 - (sz (mag n) : Int) = -1 by omega]
        go_wp2_with fail
        go_ret
        exact ⟨rfl, (by ((repeat' (first | exact Below.refl _ _ | (refine Below.alloc ?_ ?_ _) | (refine Below.setCell ?_ ?_ _) | (refine Below.drew ?_) | (refine Below.trans ?_ (Below.mono (by assumption) ?_)))) <;> ((try simp only [World.size_alloc, World.size_setCell, World.size_drew] at *); omega)))⟩
  · have e1 : IntKind.u64.wrap n = (mag n : Int) := by
      unfold mag; rw [if_neg hn]; unfold In64 at h
      simp [IntKind.wrap, IntKind.signed, IntKind.bits]; omega
    go_wp2_with fail
    refine (size_calls (mag n) w (by omega)).mono ?_
    rintro e w1 ⟨rfl, rfl⟩
    go_wp2_with fail
    go_loopw [7, 8] (fun s7 s8 wr => ∃ j : Nat, j ≤ sz (mag n) ∧ s8 = .int .i64 ((sz (mag n) : Int) - 1 - j) ∧ wr.ownsRow w.heap.size 5 1 s7 (1 + j) (.int .u8 (128 + (sz (mag n) : Int)) :: Lib.byteCells (digs false (mag n) (sz (mag n)) j)) ∧ Below w.heap.size w wr) (fun _ s8 _ => (intOf s8 + 1).toNat)
    case atStart => exact ⟨0, by omega, by simp, World.ownsRow_lit w _ 1 (Nat.le_refl _) (by decide) rfl, (by ((repeat' (first | exact Below.refl _ _ | (refine Below.alloc ?_ ?_ _) | (refine Below.setCell ?_ ?_ _) | (refine Below.drew ?_) | (refine Below.trans ?_ (Below.mono (by assumption) ?_)))) <;> ((try simp only [World.size_alloc, World.size_setCell, World.size_drew] at *); omega)))⟩
    case round =>
      obtain ⟨j, hj, rfl, hown, hB⟩ := hrel
      have hsz := hB.size
      have Hhown := Lib.hid hown
      clear hown
      by_cases hjk : j < sz (mag n)
      · obtain ⟨t, ht⟩ : ∃ t : Nat, (sz (mag n) : Int) - 1 - j = t := ⟨sz (mag n) - 1 - j, by omega⟩
        have ht2 : sz (mag n) - 1 - j = t := by omega
        have hlow : -1 ≤ (t : Int) - 1 := by omega
        rw [ht]
        have Hht := Lib.hid ht
        clear ht
        have ht8 : t < 8 := by omega
        have hd := mask0 (mag n) t
        go_wp2_with (at_builtin; refine append_byte rfl _ _ rfl w.heap.size u7 (1 + j) _ rfl (Hhown.out.alloc _) wr.heap.size ((dig false (mag n) t).toNat : Int) rfl (by simp) (by omega) (by simp; omega) ?_)
        intro v5 w5 hown5 hg5 hB5
        have Hhown5 := Lib.hid hown5
        clear hown5
        go_wp2_with fail
        refine ⟨⟨j + 1, by omega, ?_, ?_, (by ((repeat' (first | exact Below.refl _ _ | (refine Below.alloc ?_ ?_ _) | (refine Below.setCell ?_ ?_ _) | (refine Below.drew ?_) | (refine Below.trans ?_ (Below.mono (by assumption) ?_)))) <;> ((try simp only [World.size_alloc, World.size_setCell, World.size_drew] at *); omega)))⟩, ?_⟩
        · have := Hht.out; rw [ret_i64 (a := (t : Int) - 1) (b := (sz (mag n) : Int) - 1 - (j + 1 : Nat)) (by omega)]
        · have := Hhown5.out
          rw [digs_snoc false (mag n) (sz (mag n)) j ht2, Lib.byteCells_append]
          exact this
        · simp [intOf]
      · have hje : j = sz (mag n) := by omega
        subst hje
        have hk := own_string (n := 1 + sz (mag n)) (l := encInt n) (v := u7) (w := wr) (base := w.heap.size) (by rw [encInt_pos hn hs]; exact Hhown.out)
        rw [show (sz (mag n) : Int) - 1 - (sz (mag n) : Int) = -1 by omega]
        go_wp2_with fail
        go_ret
        exact ⟨rfl, (by ((repeat' (first | exact Below.refl _ _ | (refine Below.alloc ?_ ?_ _) | (refine Below.setCell ?_ ?_ _) | (refine Below.drew ?_) | (refine Below.trans ?_ (Below.mono (by assumption) ?_)))) <;> ((try simp only [World.size_alloc, World.size_setCell, World.size_drew] at *); omega)))⟩
end Go.Proofs.YtjbpjmdnmnbonaaDoor
