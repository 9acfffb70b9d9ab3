/- FrameTells, FrameFlags: walks. -/
import Derived.Test.YtfpobogmlhdigaaDoorW9
set_option linter.unusedSimpArgs false
set_option linter.unusedVariables false
namespace Go.Proofs.YtfpobogmlhdigaaDoor
open Go.RowKit

theorem str_beq (a b : List UInt8) : ((ByteArray.mk a.toArray).toList == (ByteArray.mk b.toArray).toList) = decide (a = b) := by
  rw [bytes_eq]; apply decide_eq_decide.2
  constructor
  · intro h
    have := congrArg (fun x : ByteArray => x.data.toList) h
    simpa using this
  · intro h; rw [h]

set_option maxHeartbeats 2000000 in
theorem Tells_calls (a b : List UInt8) (m : Int) (w : World) (hm : MaxAt m w) (ha : a.length ≤ 9223372036854775807) (hb : b.length ≤ 9223372036854775807) :
    Calls Tryd.prog 3 #[.string ⟨a.toArray⟩, .string ⟨b.toArray⟩] w fun e w' => e = .returned (.bool true) ∧ Below w.heap.size w w' := by
  have hm0 := hm.2
  have hza := str_size a
  have hzb := str_size b
  have Hhm := Lib.hid hm
  clear hm
  by_cases h1 : a.length ≤ 6000
  · by_cases h2 : b.length ≤ 6000
    · go_enter Tryd.func3, Tryd.ntmps3
      go_wp2_with fail
      refine (small_calls m w Hhm.out).mono ?_
      rintro e w1 ⟨rfl, hB1⟩
      have hz1 := hB1.size
      have hm1 := Hhm.out.below hB1 hm0
      have Hhm1 := Lib.hid hm1
      clear hm1
      go_wp2_with fail
      refine (decode_calls b m w1 Hhm1.out (by omega)).mono ?_
      rintro e w2 ⟨v2, rfl, hown2, hB2⟩
      have hz2 := hB2.size
      have hm2 := Hhm1.out.below hB2 (by omega)
      obtain ⟨oa2, c2, rfl⟩ := own_open hown2
      have Hhm2 := Lib.hid hm2
      clear hm2
      have Hhown2 := Lib.hid hown2
      clear hown2
      go_wp2_with fail
      refine (refDecode_calls b w2 (by omega)).mono ?_
      rintro e w3 ⟨v3, rfl, hown3, hB3⟩
      have hz3 := hB3.size
      have hown23 := ownsRow_below Hhown2.out hB3 (Nat.le_refl _)
      obtain ⟨oa3, c3, rfl⟩ := own_open hown3
      have hpl := pays_len b
      have hS2 := StrsAt.of_owned hown23 (pays_short b) (by omega)
      have hS3 := StrsAt.of_owned hown3 (pays_short b) (by omega)
      have hm3 := Hhm2.out.below hB3 (by omega)
      clear hown3 hown23
      have HhS2 := Lib.hid hS2
      clear hS2
      have HhS3 := Lib.hid hS3
      clear hS3
      have Hhm3 := Lib.hid hm3
      clear hm3
      go_wp2_with fail
      refine (Same_calls _ _ _ _ _ HhS2.out HhS3.out).mono ?_
      rintro e w4 ⟨rfl, hB4⟩
      have hz4 := hB4.size
      have hm4 := Hhm3.out.below hB4 (by omega)
      rw [decide_eq_true rfl]
      have Hhm4 := Lib.hid hm4
      clear hm4
      go_wp2_with fail
      refine (encode_calls a m w4 Hhm4.out (by omega)).mono ?_
      rintro e w5 ⟨rfl, hB5⟩
      have hz5 := hB5.size
      go_wp2_with fail
      refine (refEncode_calls a w5 (by omega)).mono ?_
      rintro e w6 ⟨rfl, hB6⟩
      have hbel : Below w.heap.size w w6 := ((((hB1.trans (hB2.mono (by omega))).trans (hB3.mono (by omega))).trans (hB4.mono (by omega))).trans (hB5.mono (by omega))).trans (hB6.mono (by omega))
      clear hB1 hB2 hB3 hB4 hB5 hB6
      go_wp2_with fail
      go_ret
      exact ⟨rfl, hbel⟩
    · go_enter Tryd.func3, Tryd.ntmps3
      go_wp2_with fail
      refine (small_calls m w Hhm.out).mono ?_
      rintro e w1 ⟨rfl, hB1⟩
      go_wp2_with fail
      go_ret
      exact ⟨rfl, hB1⟩
  · go_enter Tryd.func3, Tryd.ntmps3
    go_wp2_with fail
    refine (small_calls m w Hhm.out).mono ?_
    rintro e w1 ⟨rfl, hB1⟩
    go_wp2_with fail
    go_ret
    exact ⟨rfl, hB1⟩

theorem ba_eta (s : ByteArray) : (⟨s.data.toList.toArray⟩ : ByteArray) = s := by
  apply ByteArray.ext
  simp
theorem Tells_at (s0 s1 : ByteArray) (m : Int) (w : World) (hm : MaxAt m w) (ha : s0.size ≤ 9223372036854775807) (hb : s1.size ≤ 9223372036854775807) :
    Calls Tryd.prog 3 #[.string s0, .string s1] w fun e w' => e = .returned (.bool true) ∧ Below w.heap.size w w' := by
  have := Tells_calls s0.data.toList s1.data.toList m w hm (by rw [len_data]; exact ha) (by rw [len_data]; exact hb)
  rwa [ba_eta, ba_eta] at this
end Go.Proofs.YtfpobogmlhdigaaDoor
