/- The reference's walk of Payload. -/
import Derived.Test.YtfpobogmlhdigaaDoorW4
set_option linter.unusedSimpArgs false
set_option linter.unusedVariables false
namespace Go.Proofs.YtfpobogmlhdigaaDoor
open Go.RowKit

theorem own_prefix {w : World} {base g : Nat} {n cap : Nat} {l : List UInt8} (h : w.ownsRow base 5 1 (.slice (some ⟨g, 0, none⟩) n cap) n (Lib.byteCells l)) (k : Nat) (hk : k ≤ l.length) :
    (convert 35 9 (.slice (some ⟨g, 0, none⟩) k cap)).run Tryd.prog w = .ok (.string ⟨(l.take k).toArray⟩) w := by
  have hl := h.1
  rw [Lib.byteCells_length, Nat.mul_one] at hl
  have hlen : (l.take k).length = k := by rw [List.length_take]; omega
  have := run_convert_bytes_back (P := Tryd.prog) w 35 9 5 ⟨g, 0, none⟩ cap (l.take k) Tryd.underlying35 Tryd.underlying5 Tryd.underlying9 (by
    intro j hj
    rw [hlen] at hj
    rw [show (⟨g, 0, none⟩ : Addr).add j = ⟨g, j, none⟩ by simp [Addr.add]; intro e; exact e.symm, h.cellAt j (by omega)]
    simp [Lib.byteCells, List.getElem?_eq_getElem (show j < l.length by omega)])
  rw [hlen] at this
  exact this

def onto (acc : List UInt8) (o : Option (List UInt8)) : Option (List UInt8) := o.map (fun l => acc ++ l)
theorem onto_one {c : UInt8} {t : List UInt8} (acc : List UInt8) (h : c ≠ 125) : onto acc (unesc (c :: t)) = onto (acc ++ [c]) (unesc t) := by
  cases t with
  | nil => simp [unesc, h, onto]
  | cons d t =>
    rw [unesc, if_neg h]
    unfold onto
    rw [Option.map_map]
    congr 1
    funext l
    simp
theorem onto_two {d : UInt8} {t : List UInt8} (acc : List UInt8) (h : d = 93 ∨ d = 94) : onto acc (unesc (125 :: d :: t)) = onto (acc ++ [d + 32]) (unesc t) := by
  rw [unesc, if_pos rfl, if_pos h]
  unfold onto
  rw [Option.map_map]
  congr 1
  funext l
  simp
theorem onto_bad {d : UInt8} {t : List UInt8} (acc : List UInt8) (h : ¬ (d = 93 ∨ d = 94)) : onto acc (unesc (125 :: d :: t)) = none := by
  rw [unesc, if_pos rfl, if_neg h]; rfl
theorem onto_end (acc : List UInt8) : onto acc (unesc [125]) = none := rfl
theorem pay_none_un {s : List UInt8} (h : unesc s = none) : pay s = none := by
  unfold pay; rw [h]; split <;> rfl
theorem pay_some_un {s b : List UInt8} (h : unesc s = some b) (hl : s.length ≤ 2048) : pay s = if 2 ≤ b.length ∧ body (b.take (b.length - 2)) = b then some (b.take (b.length - 2)) else none := by
  unfold pay; rw [if_neg (by omega), h]

set_option maxHeartbeats 2000000 in
theorem refPayload_calls (s : List UInt8) (w : World) (hs : s.length ≤ 1000000) :
    Calls Tryd.prog 21 #[.string ⟨s.toArray⟩] w fun e w' => e = .returned (.tuple #[.string ⟨(payV s).1.toArray⟩, .bool (payV s).2]) ∧ Below w.heap.size w w' := by
  have hz := str_size s
  go_enter Tryd.func21, Tryd.ntmps21
  go_wp2_with fail
  go_loopw [4, 5, 6] (fun s4 s5 _ wr => ∃ (k : Nat) (acc : List UInt8), s5 = .int .i64 k ∧ k ≤ s.length ∧ acc.length ≤ k ∧ unesc s = onto acc (unesc (s.drop k)) ∧ wr.ownsRow w.heap.size 5 1 s4 acc.length (Lib.byteCells acc) ∧ Below w.heap.size w wr) (fun _ s5 _ _ => s.length - (intOf s5).toNat)
  case atStart => exact ⟨0, [], rfl, by omega, by simp, by simp [onto], World.ownsRow_nil _ _ _ _, Below.refl _ _⟩
  case round =>
    obtain ⟨k, acc, rfl, hk, hal, hun, hown, hB⟩ := hrel
    have hsz := hB.size
    have Hhun := Lib.hid hun
    clear hun
    have Hhown := Lib.hid hown
    clear hown
    by_cases hlt : k < s.length
    · have hd1 := drop1 hlt
      have hg0 : ∀ hx, (ByteArray.mk s.toArray)[k]'hx = s[k] := fun _ => rfl
      have hcl := s[k].toNat_lt
      have Hhg0 := Lib.hid hg0
      clear hg0
      by_cases hc : s[k] = 125
      · have hct : ((s[k].toNat : Int) == 125) = true := by rw [hc]; rfl
        by_cases hlt2 : k + 1 < s.length
        · have hd2 := drop2 hlt2
          have hcl2 := s[k + 1].toNat_lt
          by_cases hd : s[k + 1] = 93 ∨ s[k + 1] = 94
          · have hnx := Hhun.out
            rw [hd2, hc, onto_two acc hd] at hnx
            have hadd : ((s[k + 1] + 32).toNat : Int) = (s[k + 1].toNat : Int) + 32 := by
              rcases hd with h | h <;> rw [h] <;> rfl
            have hle : (s[k + 1].toNat : Int) ≤ 94 := by rcases hd with h | h <;> rw [h] <;> decide
            have ht : ((s[k + 1].toNat : Int) != 93) = false ∨ (((s[k + 1].toNat : Int) != 93) = true ∧ ((s[k + 1].toNat : Int) != 94) = false) := by
              rcases hd with h | h
              · exact .inl (by rw [h]; rfl)
              · exact .inr ⟨by rw [h]; rfl, by rw [h]; rfl⟩
            have hg1 : ∀ hx, (ByteArray.mk s.toArray)[k + 1]'hx = s[k + 1] := fun _ => rfl
            have hnl : ((k : Int) + 1 == (s.length : Int)) = false := by simp; omega
            clear hd1 hd2 hd hg1
            have Hhnx := Lib.hid hnx
            clear hnx
            have Hhc := Lib.hid hc
            clear hc
            have Hhadd := Lib.hid hadd
            clear hadd
            rcases ht with ht | ⟨ht, ht2⟩
            all_goals
              go_wp2_with (at_builtin; refine append_byte rfl _ _ rfl w.heap.size u4 acc.length _ rfl (Hhown.out.alloc _) wr.heap.size ((s[k + 1].toNat : Int) + 32) rfl (by simp) (by omega) (by simp; omega) ?_)
              intro v5 w5 hown5 hg5 hB5
              have hsz5 := hg5.size
              have Hhown5 := Lib.hid hown5
              clear hown5
              go_wp2_with fail
              refine ⟨⟨k + 2, acc ++ [s[k + 1] + 32], by go_num, by omega, by simp; omega, Hhnx.out, ?_, (by ((repeat' (first | exact Below.refl _ _ | (refine Below.alloc ?_ ?_ _) | (refine Below.setCell ?_ ?_ _) | (refine Below.drew ?_) | (refine Below.trans ?_ (Below.mono (by assumption) ?_)))) <;> ((try simp only [World.size_alloc, World.size_setCell, World.size_drew] at *); omega)))⟩, by simp [intOf]; omega⟩
              have h5 := Hhown5.out
              rw [← Hhadd.out] at h5
              rw [Lib.byteCells_append, List.length_append]
              exact h5
          · have hnone : unesc s = none := by have := Hhun.out; rw [hd2, hc, onto_bad acc hd] at this; exact this
            have hpv := payV_none (pay_none_un hnone)
            have hg1 : ∀ hx, (ByteArray.mk s.toArray)[k + 1]'hx = s[k + 1] := fun _ => rfl
            have hnl : ((k : Int) + 1 == (s.length : Int)) = false := by simp; omega
            have h93 : s[k + 1] ≠ 93 := fun e => hd (.inl e)
            have h94 : s[k + 1] ≠ 94 := fun e => hd (.inr e)
            obtain ⟨n1, n2⟩ := u8_ne h93
            obtain ⟨n3, n4⟩ := u8_ne h94
            have e1 : ((93 : UInt8).toNat : Int) = 93 := rfl
            have e2 : ((94 : UInt8).toNat : Int) = 94 := rfl
            rw [e1] at n1 n2
            rw [e2] at n3 n4
            clear hd1 hd2 hd e1 e2 h93 h94 hnone hg1
            have Hhpv := Lib.hid hpv
            clear hpv
            have Hhc := Lib.hid hc
            clear hc
            go_wp2_with fail
            go_ret2
            rw [Hhpv.out]
            exact ⟨rfl, hB⟩
        · have hnone : unesc s = none := by
            have := Hhun.out
            rw [hd1, List.drop_of_length_le (by omega), hc, onto_end] at this
            exact this
          have hpv := payV_none (pay_none_un hnone)
          have hnl : ((k : Int) + 1 == (s.length : Int)) = true := by simp; omega
          clear hd1 hnone
          have Hhpv := Lib.hid hpv
          clear hpv
          have Hhc := Lib.hid hc
          clear hc
          go_wp2_with fail
          go_ret2
          rw [Hhpv.out]
          exact ⟨rfl, hB⟩
      · have hct : ((s[k].toNat : Int) == 125) = false := by
          have := (u8_ne hc).1
          have e : ((125 : UInt8).toNat : Int) = 125 := rfl
          rw [e] at this
          exact this
        have hnx := Hhun.out
        rw [hd1, onto_one acc hc] at hnx
        clear hd1
        have Hhnx := Lib.hid hnx
        clear hnx
        have Hhc := Lib.hid hc
        clear hc
        go_wp2_with (at_builtin; refine append_byte rfl _ _ rfl w.heap.size u4 acc.length _ rfl (Hhown.out.alloc _) wr.heap.size (s[k].toNat : Int) rfl (by simp) (by omega) (by simp; omega) ?_)
        intro v5 w5 hown5 hg5 hB5
        have hsz5 := hg5.size
        have Hhown5 := Lib.hid hown5
        clear hown5
        go_wp2_with fail
        refine ⟨⟨k + 1, acc ++ [s[k]], by go_num, by omega, by simp; omega, Hhnx.out, ?_, (by ((repeat' (first | exact Below.refl _ _ | (refine Below.alloc ?_ ?_ _) | (refine Below.setCell ?_ ?_ _) | (refine Below.drew ?_) | (refine Below.trans ?_ (Below.mono (by assumption) ?_)))) <;> ((try simp only [World.size_alloc, World.size_setCell, World.size_drew] at *); omega)))⟩, by simp [intOf]; omega⟩
        rw [Lib.byteCells_append, List.length_append]
        exact Hhown5.out
    · obtain rfl : k = s.length := by omega
      have hun2 : unesc s = some acc := by have := Hhun.out; rw [List.drop_length] at this; simpa [unesc, onto] using this
      obtain ⟨oa, cap, rfl⟩ := own_open Hhown.out
      by_cases hl : s.length ≤ 2048
      · have hp := pay_some_un hun2 hl
        by_cases h2 : 2 ≤ acc.length
        · obtain ⟨g, rfl⟩ : ∃ g, oa = some ⟨g, 0, none⟩ := by
            rcases Hhown.out.2 with ⟨hv, hn⟩ | ⟨g, cap', cur, hv, _⟩
            · omega
            · simp only [Value.slice.injEq] at hv
              exact ⟨g, hv.1⟩
          have hk1 : ∀ wx, Below wr.heap.size wr wx → (convert 35 9 (.slice (some ⟨g, 0, none⟩) acc.length cap)).run Tryd.prog wx = .ok (.string ⟨acc.toArray⟩) wx := fun wx hx => own_string (ownsRow_below Hhown.out hx (Nat.le_refl _))
          have hk2 : ∀ wx, Below wr.heap.size wr wx → (convert 35 9 (.slice (some ⟨g, 0, none⟩) (acc.length - 2) cap)).run Tryd.prog wx = .ok (.string ⟨(acc.take (acc.length - 2)).toArray⟩) wx := fun wx hx => own_prefix (ownsRow_below Hhown.out hx (Nat.le_refl _)) _ (by omega)
          have hcap : acc.length ≤ cap := by
            rcases Hhown.out.2 with ⟨hv, hn⟩ | ⟨g', cap', cur, hv, hb, hg, hnc, r⟩
            · omega
            · simp only [Value.slice.injEq] at hv
              obtain ⟨_, _, rfl⟩ := hv
              exact hnc
          have hbl : (acc.take (acc.length - 2)).length ≤ 1000000 := by rw [List.length_take]; omega
          have g0 : ¬ (2048 < (s.length : Int)) := by omega
          have g1 : ¬ (acc.length : Int) - 2 < 0 := by omega
          have g2 : (2 : Int) ≤ acc.length := by omega
          have g3 : ((acc.length : Int) - 2).toNat = acc.length - 2 := by omega
          have g4 : (0 : Int) ≤ (acc.length : Int) - 2 := by omega
          have g5 : (acc.length : Int) - 2 ≤ cap := by omega
          have b1 : decide ((2048 : Int) < (s.length : Int)) = false := by simp; omega
          have b2 : decide (2048 < s.length) = false := by simp; omega
          have b3 : decide ((acc.length : Int) - 2 < 0) = false := by simp; omega
          have b4 : decide ((acc.length : Int) < 2) = false := by simp; omega
          have b5 : decide (acc.length < 2) = false := by simp; omega
          clear hun2 g0 g1
          have k1 := hk1 wr (Below.refl _ _)
          have k2 := hk2 wr (Below.refl _ _)
          have Hhk1 := Lib.hid hk1
          clear hk1
          have Hhk2 := Lib.hid hk2
          clear hk2
          have Hhp := Lib.hid hp
          clear hp
          have Hhbl := Lib.hid hbl
          clear hbl
          go_wp2_with fail
          go_region_held3 (fun w' => (convert 35 9 (.slice (some ⟨g, 0, none⟩) acc.length cap)).run Tryd.prog w' = .ok (.string ⟨acc.toArray⟩) w' ∧ (convert 35 9 (.slice (some ⟨g, 0, none⟩) (acc.length - 2) cap)).run Tryd.prog w' = .ok (.string ⟨(acc.take (acc.length - 2)).toArray⟩) w') (first | exact ⟨Hhk1.out _ (by ((repeat' (first | exact Below.refl _ _ | (refine Below.alloc ?_ ?_ _) | (refine Below.setCell ?_ ?_ _) | (refine Below.drew ?_) | (refine Below.trans ?_ (Below.mono (by assumption) ?_)))) <;> ((try simp only [World.size_alloc, World.size_setCell, World.size_drew] at *); omega))), Hhk2.out _ (by ((repeat' (first | exact Below.refl _ _ | (refine Below.alloc ?_ ?_ _) | (refine Below.setCell ?_ ?_ _) | (refine Below.drew ?_) | (refine Below.trans ?_ (Below.mono (by assumption) ?_)))) <;> ((try simp only [World.size_alloc, World.size_setCell, World.size_drew] at *); omega)))⟩) (first | (go_at_call 16; refine (refBody_calls (acc.take (acc.length - 2)) _ Hhbl.out).mono ?_; rintro e w4 ⟨rfl, hB4⟩))
          have hsz4 := hB4.size
          replace hB4 : Below wr.heap.size wr w4 := (Below.refl _ _).drew.trans hB4
          have k1' := Hhk1.out w4 hB4
          have k2' := Hhk2.out w4 hB4
          clear k1 k2
          generalize body (acc.take (acc.length - 2)) = bb at *
          generalize hBq : (bb == acc) = Bq
          have hBq2 : Bq = decide (bb = acc) := by rw [← hBq]; by_cases h : bb = acc <;> simp [h]
          clear hBq
          by_cases hbd : bb = acc
          · have hpv := payV_some (Hhp.out.trans (if_pos ⟨h2, hbd⟩))
            rw [decide_eq_true hbd] at hBq2
            subst hBq2
            clear hbd
            have Hhpv := Lib.hid hpv
            clear hpv
            go_wp2_with fail
            go_ret2
            rw [Hhpv.out]
            exact ⟨rfl, (by ((repeat' (first | exact Below.refl _ _ | (refine Below.alloc ?_ ?_ _) | (refine Below.setCell ?_ ?_ _) | (refine Below.drew ?_) | (refine Below.trans ?_ (Below.mono (by assumption) ?_)))) <;> ((try simp only [World.size_alloc, World.size_setCell, World.size_drew] at *); omega)))⟩
          · have hpv := payV_none (Hhp.out.trans (if_neg (fun h => hbd h.2)))
            rw [decide_eq_false hbd] at hBq2
            subst hBq2
            clear hbd
            have Hhpv := Lib.hid hpv
            clear hpv
            go_wp2_with fail
            go_ret2
            rw [Hhpv.out]
            exact ⟨rfl, (by ((repeat' (first | exact Below.refl _ _ | (refine Below.alloc ?_ ?_ _) | (refine Below.setCell ?_ ?_ _) | (refine Below.drew ?_) | (refine Below.trans ?_ (Below.mono (by assumption) ?_)))) <;> ((try simp only [World.size_alloc, World.size_setCell, World.size_drew] at *); omega)))⟩
        · have hpv := payV_none (hp.trans (if_neg (fun h => h2 h.1)))
          clear hp hun2
          have b1 : decide ((2048 : Int) < (s.length : Int)) = false := by simp; omega
          have b2 : decide (2048 < s.length) = false := by simp; omega
          have b3 : decide ((acc.length : Int) - 2 < 0) = true := by simp; omega
          have b4 : decide ((acc.length : Int) < 2) = true := by simp; omega
          have b5 : decide (acc.length < 2) = true := by simp; omega
          have Hhpv := Lib.hid hpv
          clear hpv
          go_wp2_with fail
          go_quiet (fail)
          go_wp2_with fail
          go_ret2
          rw [Hhpv.out]
          exact ⟨rfl, below_drewN hB _⟩
      · have hpv := payV_none (pay_long (s := s) (by omega))
        have b1 : decide ((2048 : Int) < (s.length : Int)) = true := by simp; omega
        have b2 : decide (2048 < s.length) = true := by simp; omega
        clear hun2
        have Hhpv := Lib.hid hpv
        clear hpv
        go_wp2_with fail
        go_quiet (fail)
        go_wp2_with fail
        go_ret2
        rw [Hhpv.out]
        exact ⟨rfl, below_drewN hB _⟩
end Go.Proofs.YtfpobogmlhdigaaDoor
