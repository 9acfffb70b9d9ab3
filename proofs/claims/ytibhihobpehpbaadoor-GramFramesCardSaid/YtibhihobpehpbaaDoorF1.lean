/- The walks of the two checksums. -/
import Derived.Test.YtibhihobpehpbaaDoorBase
set_option linter.unusedSimpArgs false
set_option linter.unusedVariables false
namespace Go.Proofs.YtibhihobpehpbaaDoor
open Go.RowKit

/-- one bit of the checksum -/
def crcBit (x : Nat) : Nat := if x % 2 = 1 then x / 2 ^^^ 33800 else x / 2
def bitN : Nat → Nat → Nat
  | 0, y => y
  | j + 1, y => crcBit (bitN j y)
def crcByte (x : Nat) (c : UInt8) : Nat := bitN 8 (x ^^^ c.toNat)
def crcReg (l : List UInt8) : Nat := l.foldl crcByte 65535
def crc (l : List UInt8) : Nat := 65535 ^^^ crcReg l

theorem xor16 {a b : Nat} (ha : a < 65536) (hb : b < 65536) : a ^^^ b < 65536 := Nat.xor_lt_two_pow (n := 16) ha hb
theorem crcBit_lt {x : Nat} (h : x < 65536) : crcBit x < 65536 := by
  unfold crcBit
  split
  · exact xor16 (by omega) (by omega)
  · omega
theorem bitN_lt : ∀ (j : Nat) {y : Nat}, y < 65536 → bitN j y < 65536
  | 0, _, h => h
  | j + 1, _, h => crcBit_lt (bitN_lt j h)
theorem crcByte_lt {x : Nat} (c : UInt8) (h : x < 65536) : crcByte x c < 65536 := bitN_lt 8 (xor16 h (by have := c.toNat_lt; omega))
theorem fold_lt : ∀ (l : List UInt8) {x : Nat}, x < 65536 → l.foldl crcByte x < 65536
  | [], _, h => h
  | c :: l, _, h => fold_lt l (crcByte_lt c h)
theorem crcReg_lt (l : List UInt8) : crcReg l < 65536 := fold_lt l (by omega)
theorem crc_lt (l : List UInt8) : crc l < 65536 := xor16 (by omega) (crcReg_lt l)
theorem crcReg_snoc (l : List UInt8) (k : Nat) (h : k < l.length) : crcReg (l.take (k + 1)) = crcByte (crcReg (l.take k)) l[k] := by
  unfold crcReg
  rw [List.take_succ_eq_append_getElem h, List.foldl_append]
  rfl

theorem i64_xor16 (a b : Nat) (ha : a < 65536) (hb : b < 65536) : bits .xor .i64 (a : Int) (b : Int) = ((a ^^^ b : Nat) : Int) := by
  have key : (BitVec.ofInt 64 (a : Int) ^^^ BitVec.ofInt 64 (b : Int)).toNat = a ^^^ b := by
    rw [BitVec.toNat_xor, BitVec.toNat_ofInt, BitVec.toNat_ofInt]
    congr 1 <;> omega
  show IntKind.i64.wrap ((BitVec.ofInt 64 (a : Int) ^^^ BitVec.ofInt 64 (b : Int)).toNat : Nat) = _
  rw [key, IntKind.wrap_i64]
  have := xor16 ha hb
  generalize a ^^^ b = z at *
  omega
theorem u16_bit (x : Nat) (hx : x < 65536) : bits .and .u16 (x : Int) 1 = ((x % 2 : Nat) : Int) := by
  have e : (1 : Int) = ((1 : Nat) : Int) := rfl
  rw [e, u16_and_nat _ _ hx (by omega), Nat.and_one_is_mod]
theorem u16_step (x : Nat) (hx : x < 65536) : bits .xor .u16 ((x : Int) / 2) 33800 = ((x / 2 ^^^ 33800 : Nat) : Int) := by
  have e : (33800 : Int) = ((33800 : Nat) : Int) := rfl
  have e2 : (x : Int) / 2 = ((x / 2 : Nat) : Int) := by omega
  rw [e, e2, u16_xor_nat _ _ (by omega) (by omega)]
theorem i64_step (x : Nat) (hx : x < 65536) : bits .xor .i64 ((x : Int) / 2) 33800 = ((x / 2 ^^^ 33800 : Nat) : Int) := by
  have e : (33800 : Int) = ((33800 : Nat) : Int) := rfl
  have e2 : (x : Int) / 2 = ((x / 2 : Nat) : Int) := by omega
  rw [e, e2, i64_xor16 _ _ (by omega) (by omega)]
theorem u16_not (x : Nat) (hx : x < 65536) : bits .xor .u16 IntKind.u16.max (x : Int) = ((65535 ^^^ x : Nat) : Int) := by
  have e : IntKind.u16.max = ((65535 : Nat) : Int) := rfl
  rw [e, u16_xor_nat _ _ (by omega) hx]
theorem ret_u16 {a b : Int} (h : a = b) : Value.int .u16 a = .int .u16 b := by rw [h]

set_option maxHeartbeats 1000000 in
theorem Crc_calls (l : List UInt8) (w : World) (hs : l.length ≤ 9223372036854775807) :
    Calls Tryd.prog 62 #[.string ⟨l.toArray⟩] w fun e w' => e = .returned (.int .i64 (crc l : Nat)) ∧ w = w' := by
  have hz := str_size l
  rw [← hz] at hs
  have hcl := crc_lt l
  have hcd : crc l = 65535 ^^^ crcReg l := rfl
  generalize crc l = cc at *
  have hw : wrap64 (cc : Int) = (cc : Int) := by unfold wrap64; omega
  have Hhcd := Lib.hid hcd
  clear hcd
  have Hhw := Lib.hid hw
  clear hw
  go_enter Tryd.func62, Tryd.ntmps62
  go_wp2_with fail
  go_loop [3, 4, 5, 8] (fun s3 _ _ s8 => ∃ k : Nat, k ≤ l.length ∧ s8 = .int .i64 k ∧ s3 = .int .u16 (crcReg (l.take k) : Nat)) (fun s3 _ _ s8 => l.length - (intOf s8).toNat)
  case atStart => exact ⟨0, by omega, rfl, rfl⟩
  case round =>
    obtain ⟨k, hk, rfl, rfl⟩ := hrel
    have hx := crcReg_lt (l.take k)
    by_cases hlt : k < l.length
    · have hsn := crcReg_snoc l k hlt
      have hc := l[k].toNat_lt
      have hxor := u16_xor_nat (crcReg (l.take k)) l[k].toNat hx (by omega)
      have hy := xor16 hx (show l[k].toNat < 65536 by omega)
      unfold crcByte at hsn
      generalize crcReg (l.take k) ^^^ l[k].toNat = y at *
      generalize crcReg (l.take k) = x at *
      have Hhsn := Lib.hid hsn
      clear hsn
      go_wp2_with fail
      go_loop [3, 5, 17] (fun t3 _ t17 => ∃ j : Nat, j ≤ 8 ∧ t17 = .int .i64 j ∧ t3 = .int .u16 (bitN j y : Nat)) (fun t3 _ t17 => 8 - (intOf t17).toNat)
      case atStart => exact ⟨0, by omega, rfl, rfl⟩
      case round =>
        obtain ⟨j, hj, rfl, rfl⟩ := hrel
        have hb := bitN_lt j hy
        by_cases hjl : j < 8
        · have hst : bitN (j + 1) y = crcBit (bitN j y) := rfl
          generalize bitN j y = z at *
          by_cases hodd : z % 2 = 1
          · have e1 : bits .and .u16 (z : Int) 1 = 1 := by rw [u16_bit z hb, hodd]; rfl
            have e2 := u16_step z hb
            have hst2 : bitN (j + 1) y = z / 2 ^^^ 33800 := by rw [hst]; unfold crcBit; rw [if_pos hodd]
            clear hst
            have Hhst2 := Lib.hid hst2
            clear hst2
            have Hhodd := Lib.hid hodd
            clear hodd
            go_wp2_with fail
            exact ⟨⟨j + 1, by omega, by go_num, by rw [Hhst2.out]⟩, by simp [intOf]; omega⟩
          · have e1 : bits .and .u16 (z : Int) 1 = 0 := by rw [u16_bit z hb, show z % 2 = 0 by omega]; rfl
            have hst2 : bitN (j + 1) y = z / 2 := by rw [hst]; unfold crcBit; rw [if_neg hodd]
            clear hst
            have Hhst2 := Lib.hid hst2
            clear hst2
            have Hhodd := Lib.hid hodd
            clear hodd
            go_wp2_with fail
            exact ⟨⟨j + 1, by omega, by go_num, by rw [Hhst2.out]; simp⟩, by simp [intOf]; omega⟩
        · obtain rfl : j = 8 := by omega
          go_wp2_with fail
          exact ⟨⟨k + 1, by omega, by go_num, by rw [Hhsn.out]⟩, by simp [intOf]; omega⟩
    · obtain rfl : k = l.length := by omega
      rw [List.take_length] at hx ⊢
      have hfin := u16_not (crcReg l) hx
      have hw := Hhw.out
      rw [← Hhcd.out] at hfin
      generalize crcReg l = x at *
      go_wp2_with fail
      go_ret
      exact ⟨rfl, rfl⟩

end Go.Proofs.YtibhihobpehpbaaDoor
