/- The program's walk of payload. -/
import Derived.Test.YtibhihobpehpbaaDoorF3
set_option linter.unusedSimpArgs false
set_option linter.unusedVariables false
namespace Go.Proofs.YtibhihobpehpbaaDoor
open Go.RowKit

theorem bs_extract0 (l : List UInt8) (k : Nat) : (ByteArray.mk l.toArray).extract 0 k = ⟨(l.take k).toArray⟩ := by
  apply ByteArray.ext
  simp [ByteArray.data_extract]

set_option maxHeartbeats 1000000 in
theorem payload_calls (s : List UInt8) (m : Int) (w : World) (hm : MaxAt m w) (hf : (126 : UInt8) ∉ s) (hs : s.length ≤ 1000000) :
    Calls Tryd.prog 47 #[.string ⟨s.toArray⟩] w fun e w' => e = .returned (.tuple #[.string ⟨(payV s).1.toArray⟩, .bool (payV s).2]) ∧ Below w.heap.size w w' := by
  have hz := str_size s
  by_cases hl : s.length ≤ 2048
  · have hp := pay_un2 hf hl
    have hu1 := rep2_le 125 94 [126] (by simp) s
    have hu2 := un2_le s
    have hdef : rep2 125 93 [125] (rep2 125 94 [126] s) = un2 s := rfl
    clear hf
    have Hhp := Lib.hid hp
    clear hp
    have Hhdef := Lib.hid hdef
    clear hdef
    have Hhm := Lib.hid hm
    clear hm
    go_enter Tryd.func47, Tryd.ntmps47
    go_wp2_with fail
    refine (replaceTwo_calls s 125 94 [126] m w Hhm.out (by omega) (by simp) (by decide)).mono ?_
    rintro e w1 ⟨rfl, hB1⟩
    have hsz1 := hB1.size
    have hm1 := Hhm.out.below hB1 Hhm.out.2
    have Hhm1 := Lib.hid hm1
    clear hm1
    go_wp2_with fail
    refine (replaceTwo_calls _ 125 93 [125] m w1 Hhm1.out (by omega) (by simp) (by decide)).mono ?_
    rw [Hhdef.out]
    rintro e w2 ⟨rfl, hB2⟩
    have hsz2 := hB2.size
    have hm2 := Hhm1.out.below hB2 Hhm1.out.2
    generalize un2 s = b at *
    have hzb := str_size b
    have Hhm2 := Lib.hid hm2
    clear hm2
    by_cases h2 : 2 ≤ b.length
    · go_wp2_with fail
      refine (escaped_calls b m w2 Hhm2.out (by omega)).mono ?_
      rintro e w3 ⟨rfl, hB3⟩
      have hsz3 := hB3.size
      have hbl := body_len (b.take (b.length - 2))
      rw [List.length_take] at hbl
      have hbl2 : (b.take (b.length - 2)).length ≤ 1000000 := by rw [List.length_take]; omega
      have Hhbl := Lib.hid hbl
      clear hbl
      have Hhbl2 := Lib.hid hbl2
      clear hbl2
      by_cases he : escaped b = s
      rotate_left
      · have hpn : pay s = none := by rw [Hhp.out, if_neg he]
        have hpv := payV_none hpn
        have Hhpv := Lib.hid hpv
        clear hpv
        go_wp2_with fail
        go_ret2
        rw [Hhpv.out]
        exact ⟨rfl, (by ((repeat' (first | exact Below.refl _ _ | (refine Below.alloc ?_ ?_ _) | (refine Below.setCell ?_ ?_ _) | (refine Below.drew ?_) | (refine Below.trans ?_ (Below.mono (by assumption) ?_)))) <;> ((try simp only [World.size_alloc, World.size_setCell, World.size_drew] at *); omega)))⟩
      · have hp2 := Hhp.out
        rw [if_pos he] at hp2
        have Hhp2 := Lib.hid hp2
        clear hp2
        go_wp2_with fail
        try rw [bs_extract0]
        refine (body_calls (b.take (b.length - 2)) w3 Hhbl2.out).mono ?_
        rintro e w4 ⟨rfl, hB4⟩
        have hsz4 := hB4.size
        generalize body (b.take (b.length - 2)) = bb at *
        by_cases hbd : bb = b
        · have hpv := payV_some (Hhp2.out.trans (if_pos ⟨h2, hbd⟩))
          have Hhpv := Lib.hid hpv
          clear hpv
          go_wp2_with fail
          go_ret2
          rw [Hhpv.out]
          try rw [bs_extract0]
          exact ⟨rfl, (by ((repeat' (first | exact Below.refl _ _ | (refine Below.alloc ?_ ?_ _) | (refine Below.setCell ?_ ?_ _) | (refine Below.drew ?_) | (refine Below.trans ?_ (Below.mono (by assumption) ?_)))) <;> ((try simp only [World.size_alloc, World.size_setCell, World.size_drew] at *); omega)))⟩
        · have hpv := payV_none (Hhp2.out.trans (if_neg (fun h => hbd h.2)))
          have hbb : (bb == b) = false := by simpa using hbd
          clear hbd
          have Hhpv := Lib.hid hpv
          clear hpv
          go_wp2_with fail
          go_ret2
          rw [Hhpv.out]
          exact ⟨rfl, (by ((repeat' (first | exact Below.refl _ _ | (refine Below.alloc ?_ ?_ _) | (refine Below.setCell ?_ ?_ _) | (refine Below.drew ?_) | (refine Below.trans ?_ (Below.mono (by assumption) ?_)))) <;> ((try simp only [World.size_alloc, World.size_setCell, World.size_drew] at *); omega)))⟩
    · have hpn : pay s = none := by
        rw [Hhp.out]
        split
        · rw [if_neg (by intro h; omega)]
        · rfl
      have hpv := payV_none hpn
      have Hhpv := Lib.hid hpv
      clear hpv
      go_wp2_with fail
      go_ret2
      rw [Hhpv.out]
      exact ⟨rfl, (by ((repeat' (first | exact Below.refl _ _ | (refine Below.alloc ?_ ?_ _) | (refine Below.setCell ?_ ?_ _) | (refine Below.drew ?_) | (refine Below.trans ?_ (Below.mono (by assumption) ?_)))) <;> ((try simp only [World.size_alloc, World.size_setCell, World.size_drew] at *); omega)))⟩
  · have hpv := payV_none (pay_long (s := s) (by omega))
    have Hhpv := Lib.hid hpv
    clear hpv
    go_enter Tryd.func47, Tryd.ntmps47
    go_wp2_with fail
    go_ret2
    rw [Hhpv.out]
    exact ⟨rfl, Below.refl _ _⟩
end Go.Proofs.YtibhihobpehpbaaDoor
