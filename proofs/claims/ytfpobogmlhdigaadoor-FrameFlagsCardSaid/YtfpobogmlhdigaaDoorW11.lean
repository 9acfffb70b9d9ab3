/- FrameFlags: walk. -/
import Derived.Test.YtfpobogmlhdigaaDoorW10
set_option linter.unusedSimpArgs false
set_option linter.unusedVariables false
namespace Go.Proofs.YtfpobogmlhdigaaDoor
open Go.RowKit

theorem escaped_inj {a b : List UInt8} (h : escaped a = escaped b) : a = b := by
  have h1 := unesc_escaped a
  rw [h, unesc_escaped] at h1
  simpa using h1.symm
theorem body_inj {a b : List UInt8} (h : body a = body b) : a = b := by
  have h1 := body_take a
  rw [h, body_take] at h1
  exact h1.symm
theorem encode_inj {a b : List UInt8} (h : encode a = encode b) (h0 : encode a ≠ []) : a = b := by
  have ha : (escaped (body a)).length ≤ 2048 := by
    by_cases h1 : 2048 < (escaped (body a)).length
    · exact absurd (encode_nil a h1) h0
    · omega
  have hb : (escaped (body b)).length ≤ 2048 := by
    by_cases h1 : 2048 < (escaped (body b)).length
    · rw [h] at h0; exact absurd (encode_nil b h1) h0
    · omega
  rw [encode_eq a ha, encode_eq b hb] at h
  simp only [List.cons.injEq, true_and] at h
  exact body_inj (escaped_inj (List.append_cancel_right h))

/-- where the flags stand -/
theorem encode_flag (p : List UInt8) (k : Nat) (hk : k < (encode p).length) : (encode p)[k] = 126 ↔ k = 0 ∨ k + 1 = (encode p).length := by
  by_cases h1 : 2048 < (escaped (body p)).length
  · rw [show (encode p).length = 0 by rw [encode_nil p h1]; rfl] at hk; omega
  · have he := encode_eq p (by omega)
    have hl : (encode p).length = (escaped (body p)).length + 2 := by rw [he]; simp
    have hf := escaped_free (body p)
    rw [hl] at hk ⊢
    have hg : (encode p)[k]? = (126 :: (escaped (body p) ++ [126]))[k]? := by rw [he]
    rw [List.getElem?_eq_getElem (by omega)] at hg
    generalize (encode p)[k] = x at *
    cases k with
    | zero => simp at hg; simp [hg]
    | succ k =>
      rw [List.getElem?_cons_succ] at hg
      by_cases hk2 : k < (escaped (body p)).length
      · rw [List.getElem?_append_left hk2, List.getElem?_eq_getElem hk2] at hg
        simp at hg
        constructor
        · intro e
          exfalso; apply hf; rw [← e, hg]; exact List.getElem_mem _
        · rintro (h | h) <;> omega
      · have : k = (escaped (body p)).length := by omega
        subst this
        rw [List.getElem?_append_right (Nat.le_refl _)] at hg
        simp at hg
        simp [hg]

set_option maxHeartbeats 2000000 in
theorem Flags_calls (a b : List UInt8) (m : Int) (w : World) (hm : MaxAt m w) (ha : a.length ≤ 9223372036854775807) (hb : b.length ≤ 9223372036854775807) :
    Calls Tryd.prog 8 #[.string ⟨a.toArray⟩, .string ⟨b.toArray⟩] w fun e w' => e = .returned (.bool true) ∧ Below w.heap.size w w' := by
  have hm0 := hm.2
  have hza := str_size a
  have hzb := str_size b
  have Hhm := Lib.hid hm
  clear hm
  by_cases h1 : a.length ≤ 3000
  · by_cases h2 : b.length ≤ 3000
    · go_enter Tryd.func8, Tryd.ntmps8
      go_wp2_with fail
      refine (small_calls m w Hhm.out).mono ?_
      rintro e w1 ⟨rfl, hB1⟩
      have hz1 := hB1.size
      have hm1 := Hhm.out.below hB1 hm0
      have Hhm1 := Lib.hid hm1
      clear hm1
      go_wp2_with fail
      refine (encode_calls a m w1 Hhm1.out (by omega)).mono ?_
      rintro e w2 ⟨rfl, hB2⟩
      have hz2 := hB2.size
      have hm2 := Hhm1.out.below hB2 (by omega)
      have hbel : Below w.heap.size w w2 := hB1.trans (hB2.mono (by omega))
      clear hB1 hB2
      have hel := encode_len a
      have hez := str_size (encode a)
      have hfl := encode_flag a
      have hinj : encode a ≠ [] → encode a = encode b → a = b := fun h0 h => encode_inj h h0
      have hlb : (encode b).length ≤ 2050 := encode_len b
      generalize encode a = ea at *
      generalize heb : encode b = eb at *
      have Hheb := Lib.hid heb
      clear heb
      have Hhm2 := Lib.hid hm2
      clear hm2
      have Hhfl := Lib.hid hfl
      clear hfl
      have Hhinj := Lib.hid hinj
      clear hinj
      go_wp2_with fail
      go_loopw [7] (fun s7 wr => ∃ k : Nat, k ≤ ea.length ∧ s7 = .int .i64 k ∧ Below w2.heap.size w2 wr) (fun s7 _ => ea.length - (intOf s7).toNat)
      case atStart => exact ⟨0, by omega, rfl, Below.refl _ _⟩
      case round =>
        obtain ⟨k, hk, rfl, hB2⟩ := hrel
        have hz3 := hB2.size
        by_cases hlt : k < ea.length
        · have hfk := Hhfl.out k hlt
          have hg0 : ∀ hx, (ByteArray.mk ea.toArray)[k]'hx = ea[k] := fun _ => rfl
          have hcl := ea[k].toNat_lt
          have e126 : ((126 : UInt8).toNat : Int) = 126 := rfl
          by_cases hx : ea[k] = 126
          · have hx1 : ((ea[k].toNat : Int) == 126) = true := by rw [hx]; rfl
            have hx2 : ea[k].toNat = 126 := by rw [hx]; rfl
            by_cases h0 : k = 0
            · subst h0
              clear hfk
              have Hhx := Lib.hid hx
              clear hx
              go_wp2_with fail
              refine ⟨⟨0 + 1, by omega, by go_num, hB2⟩, by simp [intOf]; omega⟩
            · have hl : k + 1 = ea.length := by
                rcases hfk.1 hx with h | h
                · exact absurd h h0
                · exact h
              have hk0 : ((k : Int) == 0) = false := by simp [h0]
              have hkl : ((k : Int) == (ea.length : Int) - 1) = true := by simp; omega
              clear hfk
              have Hhx := Lib.hid hx
              clear hx
              have Hhl := Lib.hid hl
              clear hl
              have Hh0 := Lib.hid h0
              clear h0
              go_wp2_with fail
              refine ⟨⟨k + 1, by omega, by go_num, hB2⟩, by simp [intOf]; omega⟩
          · have hx1 : ((ea[k].toNat : Int) == 126) = false := by have := (u8_ne hx).1; rw [e126] at this; exact this
            have h0 : ¬ k = 0 := fun h => hx (hfk.2 (.inl h))
            have hl : ¬ k + 1 = ea.length := fun h => hx (hfk.2 (.inr h))
            have hk0 : ((k : Int) == 0) = false := by simp [h0]
            have hkl : ((k : Int) == (ea.length : Int) - 1) = false := by simp; omega
            clear hfk
            have Hhx := Lib.hid hx
            clear hx
            go_wp2_with fail
            refine ⟨⟨k + 1, by omega, by go_num, hB2⟩, by simp [intOf]; omega⟩
        · have hbel2 : Below w.heap.size w wr := hbel.trans (hB2.mono (by omega))
          have hm3 := Hhm2.out.below hB2 (by omega)
          clear hbel hB2
          have Hhm3 := Lib.hid hm3
          clear hm3
          have hq := str_beq ea []
          have hq2 := str_beq a b
          have hq3 := str_beq ea eb
          by_cases he : ea = []
          · subst he
            go_wp2_with fail
            go_ret
            exact ⟨rfl, hbel2⟩
          · by_cases hab : a = b
            · subst hab
              go_wp2_with fail
              go_ret
              exact ⟨ret_bool (decide_eq_true (by omega)), hbel2⟩
            · have hne : ¬ ea = eb := fun h => hab (Hhinj.out he h)
              go_wp2_with fail
              refine (encode_calls b m wr Hhm3.out (by omega)).mono ?_
              rintro e w4 ⟨rfl, hB4⟩
              rw [Hheb.out]
              have hbel4 : Below w.heap.size w w4 := hbel2.trans (hB4.mono (by omega))
              clear hbel2 hB4
              go_wp2_with fail
              go_ret
              refine ⟨ret_bool ?_, hbel4⟩
              simp [hne]; omega
    · go_enter Tryd.func8, Tryd.ntmps8
      go_wp2_with fail
      refine (small_calls m w Hhm.out).mono ?_
      rintro e w1 ⟨rfl, hB1⟩
      go_wp2_with fail
      go_ret
      exact ⟨rfl, hB1⟩
  · go_enter Tryd.func8, Tryd.ntmps8
    go_wp2_with fail
    refine (small_calls m w Hhm.out).mono ?_
    rintro e w1 ⟨rfl, hB1⟩
    go_wp2_with fail
    go_ret
    exact ⟨rfl, hB1⟩
theorem Flags_at (s0 s1 : ByteArray) (m : Int) (w : World) (hm : MaxAt m w) (ha : s0.size ≤ 9223372036854775807) (hb : s1.size ≤ 9223372036854775807) :
    Calls Tryd.prog 8 #[.string s0, .string s1] w fun e w' => e = .returned (.bool true) ∧ Below w.heap.size w w' := by
  have := Flags_calls s0.data.toList s1.data.toList m w hm (by rw [len_data]; exact ha) (by rw [len_data]; exact hb)
  rwa [ba_eta, ba_eta] at this
end Go.Proofs.YtfpobogmlhdigaaDoor
