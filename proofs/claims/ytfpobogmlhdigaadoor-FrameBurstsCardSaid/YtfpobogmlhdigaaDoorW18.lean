/- FrameBursts: walk. -/
import Derived.Test.YtfpobogmlhdigaaDoorW17
import Derived.Lib.ConvBytes
set_option linter.unusedSimpArgs false
set_option linter.unusedVariables false
namespace Go.Proofs.YtfpobogmlhdigaaDoor
open Go.RowKit

/-- the bytes of an unfrozen row -/
def RowAt (w : World) (b : Nat) (l : List UInt8) : Prop :=
  ∃ C : Array Value, w.heap[b]? = some (.cells C 5 (C.size, C.size + 1)) ∧ l.length ≤ C.size ∧ ∀ j (hj : j < l.length), C[j]? = some (.int .u8 (l[j].toNat : Int))
theorem RowAt.cell {w : World} {b : Nat} {l : List UInt8} (h : RowAt w b l) {j : Nat} (hj : j < l.length) : w.cell? ⟨b, j, none⟩ = some (.int .u8 (l[j].toNat : Int)) := by
  obtain ⟨C, h1, h2, h3⟩ := h
  simp [World.cell?, h1, h3 j hj]
theorem RowAt.frozen {w : World} {b : Nat} {l : List UInt8} (h : RowAt w b l) {j : Nat} (hj : j < l.length) : w.frozen? ⟨b, j, none⟩ = false := by
  obtain ⟨C, h1, h2, h3⟩ := h
  simp [World.frozen?, h1]; omega
theorem RowAt.set {w : World} {b : Nat} {l : List UInt8} (h : RowAt w b l) {j : Nat} (hj : j < l.length) (x : UInt8) : RowAt (w.setCell ⟨b, j, none⟩ (.int .u8 (x.toNat : Int))) b (l.set j x) := by
  obtain ⟨C, h1, h2, h3⟩ := h
  obtain ⟨hlt, hk⟩ := Array.getElem?_eq_some_iff.1 h1
  refine ⟨C.setIfInBounds j (.int .u8 (x.toNat : Int)), ?_, by simpa using h2, ?_⟩
  · show (w.heap.modify b _)[b]? = _
    rw [Array.getElem?_eq_getElem (by rw [Array.size_modify]; exact hlt), Array.getElem_modify_self, hk]
    simp
  · intro k hk2
    rw [List.length_set] at hk2
    rw [Array.getElem?_setIfInBounds, List.getElem_set]
    by_cases e : j = k
    · subst e
      simp; omega
    · simp [e]
      exact h3 k hk2
theorem conv_row (w : World) (l : List UInt8) : ∃ (W : World) (cap : Nat), (convert 9 35 (.string ⟨l.toArray⟩)).run Tryd.prog w = .ok (.slice (some ⟨w.heap.size, 0, none⟩) l.length cap) W ∧
    RowAt W w.heap.size l ∧ Below w.heap.size w W ∧ W.heap.size = w.heap.size + 1 := by
  refine ⟨_, _, by rw [Lib.run_convert_string_bytes w 9 35 5 ⟨l.toArray⟩ Tryd.underlying9 Tryd.underlying35 Tryd.underlying5, str_size], ?_, ?_, Lib.bytesWorld_size _ _ _⟩
  · refine ⟨_, Lib.bytesWorld_at_new _ _ _, ?_, ?_⟩
    · simp [Lib.bytesCells]
    · intro j hj
      simp [Lib.bytesCells, Array.getElem?_append, hj]
  · exact ⟨rfl, rfl, rfl, by rw [Lib.bytesWorld_size]; omega, fun k hk => Lib.bytesWorld_at_old _ _ _ k hk⟩
theorem RowAt.back {w : World} {b : Nat} {l : List UInt8} (h : RowAt w b l) (cap : Nat) : (convert 35 9 (.slice (some ⟨b, 0, none⟩) l.length cap)).run Tryd.prog w = .ok (.string ⟨l.toArray⟩) w := by
  refine run_convert_bytes_back w 35 9 5 ⟨b, 0, none⟩ cap l Tryd.underlying35 Tryd.underlying5 Tryd.underlying9 ?_
  intro j hj
  rw [show (⟨b, 0, none⟩ : Addr).add j = ⟨b, j, none⟩ by simp [Addr.add]; intro e; exact e.symm]
  exact h.cell hj
theorem RowAt.below {w w' : World} {b B : Nat} {l : List UInt8} (h : RowAt w b l) (hb : Below B w w') (hB : b < B) : RowAt w' b l := by
  obtain ⟨C, h1, h2⟩ := h
  exact ⟨C, (hb.block b hB).trans h1, h2⟩

theorem u8_flip (x : UInt8) (r : Nat) (hr : r < 8) : bits .xor .u8 (x.toNat : Int) (2 ^ r % 256) = ((x ^^^ UInt8.ofNat (2 ^ r)).toNat : Int) := by
  have h2 : ∀ r : Nat, r < 8 → ((2 : Int) ^ r % 256) = ((2 ^ r : Nat) : Int) ∧ 2 ^ r < 256 ∧ (UInt8.ofNat (2 ^ r)).toNat = 2 ^ r := by decide
  obtain ⟨e1, e2, e3⟩ := h2 r hr
  rw [e1, u8_xor_nat _ _ (by have := x.toNat_lt; omega) e2, UInt8.toNat_xor, e3]

/-- the body after i bits of the mask -/
def Turned (b0 l : List UInt8) (A i : Nat) (tu : Bool) : Prop :=
  l.length = b0.length ∧ ∃ e, e < 2 ^ i ∧ num l = num b0 ^^^ 2 ^ A * e ∧ ((tu = false ∧ e = 0 ∧ l = b0) ∨ (tu = true ∧ e ≠ 0))
theorem Turned.start (b0 : List UInt8) (A : Nat) : Turned b0 b0 A 0 false := ⟨rfl, 0, by simp, by simp, .inl ⟨rfl, rfl, rfl⟩⟩
theorem Turned.skip {b0 l : List UInt8} {A i : Nat} {tu : Bool} (h : Turned b0 l A i tu) : Turned b0 l A (i + 1) tu := by
  obtain ⟨h1, e, h2, h3, h4⟩ := h
  exact ⟨h1, e, by rw [Nat.pow_succ]; omega, h3, h4⟩
theorem bit_toNat : ∀ r : Nat, r < 8 → (UInt8.ofNat (2 ^ r)).toNat = 2 ^ r := by decide
theorem Turned.flip {b0 l : List UInt8} {A i : Nat} {tu : Bool} (h : Turned b0 l A i tu) (hq : (A + i) / 8 < l.length) :
    Turned b0 (l.set ((A + i) / 8) (l[(A + i) / 8] ^^^ UInt8.ofNat (2 ^ ((A + i) % 8)))) A (i + 1) true := by
  obtain ⟨h1, e, h2, h3, h4⟩ := h
  refine ⟨by rw [List.length_set]; exact h1, e ^^^ 2 ^ i, ?_, ?_, .inr ⟨rfl, ?_⟩⟩
  · exact Nat.xor_lt_two_pow (by rw [Nat.pow_succ]; omega) (by rw [Nat.pow_succ]; have := Nat.two_pow_pos i; omega)
  · rw [num_set l _ hq, h3, bit_toNat _ (by omega), shl_xor, ← Nat.xor_assoc, ← Nat.pow_add, ← Nat.pow_add]
    congr 2
    omega
  · intro h0
    have h5 : e ^^^ 2 ^ i ^^^ 2 ^ i = 2 ^ i := by rw [h0, Nat.zero_xor]
    rw [Nat.xor_assoc, Nat.xor_self, Nat.xor_zero] at h5
    omega
theorem Turned.end' {s l : List UInt8} {A : Nat} {tu : Bool} (h : Turned (body s) l A 16 tu) (hs : s.length ≤ 900) (hA : A < 8 * (body s).length) :
    pays (126 :: (escaped l ++ [126])) = if tu then [] else [s] := by
  obtain ⟨h1, e, h2, h3, h4⟩ := h
  rcases h4 with ⟨rfl, rfl, rfl⟩ | ⟨rfl, h0⟩
  · exact still_pays s hs
  · exact turned_pays s l A e h2 (by omega) h1 h3 h0

set_option maxRecDepth 100000 in
set_option maxHeartbeats 800000 in
theorem Bursts_calls (s : List UInt8) (a : Int) (mk : Nat) (m : Int) (w : World) (hm : MaxAt m w) (ha : s.length ≤ 9223372036854775807) (ha64 : In64 a) (hmk : mk < 65536) :
    Calls Tryd.prog 7 #[.string ⟨s.toArray⟩, .int .i64 a, .int .u16 mk] w fun e w' => e = .returned (.bool true) ∧ Below w.heap.size w w' := by
  have hm0 := hm.2
  have hza := str_size s
  have Hhm := Lib.hid hm
  clear hm
  by_cases h1 : s.length ≤ 900
  · by_cases h2 : mk = 0
    · subst h2
      go_enter Tryd.func7, Tryd.ntmps7
      go_wp2_with fail
      refine (small_calls m w Hhm.out).mono ?_
      rintro e w1 ⟨rfl, hB1⟩
      go_wp2_with fail
      go_ret
      exact ⟨rfl, hB1⟩
    · have h3 : ((mk : Int) == 0) = false := by simp [h2]
      go_enter Tryd.func7, Tryd.ntmps7
      go_wp2_with fail
      refine (small_calls m w Hhm.out).mono ?_
      rintro e w1 ⟨rfl, hB1⟩
      have hz1 := hB1.size
      have hm1 := Hhm.out.below hB1 hm0
      have Hhm1 := Lib.hid hm1
      clear hm1
      go_wp2_with fail
      refine (refBody_calls s w1 (by omega)).mono ?_
      rintro e w2 ⟨rfl, hB2⟩
      have hz2 := hB2.size
      have hm2 := Hhm1.out.below hB2 (by omega)
      have hbel2 : Below w.heap.size w w2 := hB1.trans (hB2.mono (by omega))
      have hbl := body_len s
      have hzb := str_size (body s)
      clear hB1 hB2
      obtain ⟨W3, cap, hcv, hrow, hB3, hz3⟩ := conv_row w2 (body s)
      have hm3 := hm2.below hB3 (by omega)
      have hbel3 : Below w.heap.size w W3 := hbel2.trans (hB3.mono (by omega))
      obtain ⟨L, hL⟩ : ∃ L, (body s).length = L := ⟨_, rfl⟩
      rw [hL] at hcv hbl
      have hL2 : L ≤ 902 := by omega
      have hL1 : 2 ≤ L := by omega
      have hne8 : ¬ (8 * (L : Int)) = 0 := by omega
      have hTb : (a.tmod (8 * (L : Int))).natAbs < 8 * L := by
        rw [Int.natAbs_tmod]
        have := Nat.mod_lt a.natAbs (y := (8 * (L : Int)).natAbs) (by omega)
        omega
      obtain ⟨T, hT⟩ : ∃ T, a.tmod (8 * (L : Int)) = T := ⟨_, rfl⟩
      rw [hT] at hTb
      have Hhm2 := Lib.hid hm2
      clear hm2
      have Hhbel2 := Lib.hid hbel2
      clear hbel2
      have Hhm3 := Lib.hid hm3
      clear hm3
      have Hhbel3 := Lib.hid hbel3
      clear hbel3
      have Hhrow := Lib.hid hrow
      clear hrow
      have HhB3 := Lib.hid hB3
      clear hB3
      have HhL := Lib.hid hL
      clear hL
      have Hhbl := Lib.hid hbl
      clear hbl
      by_cases hneg : T < 0
      · obtain ⟨A, hA⟩ : ∃ A : Nat, T + 8 * (L : Int) = (A : Int) := ⟨(T + 8 * (L : Int)).toNat, by omega⟩
        have hAl : A < 8 * L := by omega
        go_wp2_with fail
        go_loopw [9, 10, 11] (fun s9 s10 _ wr => ∃ (i : Nat) (l : List UInt8) (tu : Bool), i ≤ 16 ∧ s10 = .int .i64 i ∧ s9 = .bool tu ∧ RowAt wr w2.heap.size l ∧ Turned (body s) l A i tu ∧ Below w2.heap.size w2 wr) (fun _ s10 _ _ => 16 - (intOf s10).toNat)
        case atStart => exact ⟨0, body s, false, by omega, rfl, rfl, Hhrow.out, Turned.start _ _, HhB3.out⟩
        case round =>
          obtain ⟨i, l, tu, hi, rfl, rfl, hrw, htu, hB4⟩ := hrel
          have hz4 := hB4.size
          have hll := htu.1
          rw [HhL.out] at hll
          by_cases hi16 : i < 16
          · have hmb : bits .and .u16 ((mk : Int) / 2 ^ i) 1 = ((mk / 2 ^ i % 2 : Nat) : Int) := by
              have := u16_bit (mk / 2 ^ i) (Nat.lt_of_le_of_lt (Nat.div_le_self _ _) hmk)
              rw [← this]; simp
            by_cases hbit : mk / 2 ^ i % 2 = 1
            · rw [hbit] at hmb
              by_cases hin : A + i < 8 * L
              · have hq : (A + i) / 8 < l.length := by omega
                have hc1 := hrw.cell hq
                have hf1 := hrw.frozen hq
                have htu2 := htu.flip hq
                have hrw2 := hrw.set hq (l[(A + i) / 8] ^^^ UInt8.ofNat (2 ^ ((A + i) % 8)))
                generalize l.set ((A + i) / 8) (l[(A + i) / 8] ^^^ UInt8.ofNat (2 ^ ((A + i) % 8))) = l2 at *
                generalize l[(A + i) / 8] = x at *
                have hxl := x.toNat_lt
                have hin2 : (A : Int) + i < 8 * (L : Int) := by omega
                clear hrw htu hq
                have Hhtu2 := Lib.hid htu2
                clear htu2
                have HhB4 := Lib.hid hB4
                clear hB4
                have Hhrw2 := Lib.hid hrw2
                clear hrw2
                go_wp2_with fail
                rw [show bits .xor .u8 (x.toNat : Int) (2 ^ ((A + i) % 8) % 256) = ((x ^^^ UInt8.ofNat (2 ^ ((A + i) % 8))).toNat : Int) from u8_flip x _ (by omega)]
                refine ⟨⟨i + 1, l2, true, by omega, by go_num, rfl, Hhrw2.out, Hhtu2.out, HhB4.out.setCell (p := ⟨w2.heap.size, (A + i) / 8, none⟩) (Nat.le_refl _) _⟩, by simp [intOf]; omega⟩
              · have hin2 : ¬ (A : Int) + i < 8 * (L : Int) := by omega
                have htu2 := htu.skip
                have Hhrw := Lib.hid hrw
                clear hrw
                have Hhtu := Lib.hid htu
                clear htu
                have Hhtu2 := Lib.hid htu2
                clear htu2
                have HhB4 := Lib.hid hB4
                clear hB4
                have Hhll := Lib.hid hll
                clear hll
                go_wp2_with fail
                refine ⟨⟨i + 1, l, tu, by omega, by go_num, rfl, Hhrw.out, Hhtu2.out, HhB4.out⟩, by simp [intOf]; omega⟩
            · have hbit0 : mk / 2 ^ i % 2 = 0 := by omega
              rw [hbit0] at hmb
              have htu2 := htu.skip
              have Hhrw := Lib.hid hrw
              clear hrw
              have Hhtu := Lib.hid htu
              clear htu
              have Hhtu2 := Lib.hid htu2
              clear htu2
              have HhB4 := Lib.hid hB4
              clear hB4
              have Hhll := Lib.hid hll
              clear hll
              go_wp2_with fail
              refine ⟨⟨i + 1, l, tu, by omega, by go_num, rfl, Hhrw.out, Hhtu2.out, HhB4.out⟩, by simp [intOf]; omega⟩
          · obtain rfl : i = 16 := by omega
            have hback := hrw.back cap
            rw [hll] at hback
            have hend := htu.end' h1 (by rw [HhL.out]; exact hAl)
            have hm4 := Hhm2.out.below hB4 (by omega)
            have hbel4 : Below w.heap.size w wr := Hhbel2.out.trans (hB4.mono (by omega))
            have hel := (escaped_le l).1
            clear hrw htu hB4
            have Hhend := Lib.hid hend
            clear hend
            have Hhm4 := Lib.hid hm4
            clear hm4
            have Hhbel4 := Lib.hid hbel4
            clear hbel4
            go_wp2_with fail
            refine (refEscaped_calls l wr (by omega)).mono ?_
            rintro e w5 ⟨rfl, hB5⟩
            have hz5 := hB5.size
            have hm5 := Hhm4.out.below hB5 (by omega)
            have hbel5 : Below w.heap.size w w5 := Hhbel4.out.trans (hB5.mono (by omega))
            have hend2 := Hhend.out
            clear hB5
            generalize escaped l = E at *
            have hc1 := cat_run [126] E (by simp; omega) w5
            have hc2 := cat_run (126 :: E) [126] (by simp; omega) w5
            have hEl : (126 :: (E ++ [126])).length ≤ 1000000 := by simp; omega
            have Hhend2 := Lib.hid hend2
            clear hend2
            have Hhm5 := Lib.hid hm5
            clear hm5
            have Hhbel5 := Lib.hid hbel5
            clear hbel5
            have HhEl := Lib.hid hEl
            clear hEl
            go_wp2_with fail
            refine (decode_calls (126 :: (E ++ [126])) m w5 Hhm5.out HhEl.out).mono ?_
            rintro e w6 ⟨v6, rfl, hown6, hB6⟩
            have hbel6 : Below w.heap.size w w6 := Hhbel5.out.trans (hB6.mono (by omega))
            rw [Hhend2.out] at hown6
            clear hB6
            obtain ⟨oa6, c6, rfl⟩ := own_open hown6
            clear hown6
            cases tu with
            | true =>
              go_wp2_with fail
              go_ret
              exact ⟨rfl, hbel6⟩
            | false =>
              go_wp2_with fail
              go_ret
              exact ⟨rfl, hbel6⟩
      · obtain ⟨A, hA⟩ : ∃ A : Nat, T = (A : Int) := ⟨T.toNat, by omega⟩
        have hAl : A < 8 * L := by omega
        subst hA
        go_wp2_with fail
        go_loopw [9, 10, 11] (fun s9 s10 _ wr => ∃ (i : Nat) (l : List UInt8) (tu : Bool), i ≤ 16 ∧ s10 = .int .i64 i ∧ s9 = .bool tu ∧ RowAt wr w2.heap.size l ∧ Turned (body s) l A i tu ∧ Below w2.heap.size w2 wr) (fun _ s10 _ _ => 16 - (intOf s10).toNat)
        case atStart => exact ⟨0, body s, false, by omega, rfl, rfl, Hhrow.out, Turned.start _ _, HhB3.out⟩
        case round =>
          obtain ⟨i, l, tu, hi, rfl, rfl, hrw, htu, hB4⟩ := hrel
          have hz4 := hB4.size
          have hll := htu.1
          rw [HhL.out] at hll
          by_cases hi16 : i < 16
          · have hmb : bits .and .u16 ((mk : Int) / 2 ^ i) 1 = ((mk / 2 ^ i % 2 : Nat) : Int) := by
              have := u16_bit (mk / 2 ^ i) (Nat.lt_of_le_of_lt (Nat.div_le_self _ _) hmk)
              rw [← this]; simp
            by_cases hbit : mk / 2 ^ i % 2 = 1
            · rw [hbit] at hmb
              by_cases hin : A + i < 8 * L
              · have hq : (A + i) / 8 < l.length := by omega
                have hc1 := hrw.cell hq
                have hf1 := hrw.frozen hq
                have htu2 := htu.flip hq
                have hrw2 := hrw.set hq (l[(A + i) / 8] ^^^ UInt8.ofNat (2 ^ ((A + i) % 8)))
                generalize l.set ((A + i) / 8) (l[(A + i) / 8] ^^^ UInt8.ofNat (2 ^ ((A + i) % 8))) = l2 at *
                generalize l[(A + i) / 8] = x at *
                have hxl := x.toNat_lt
                have hin2 : (A : Int) + i < 8 * (L : Int) := by omega
                clear hrw htu hq
                have Hhtu2 := Lib.hid htu2
                clear htu2
                have HhB4 := Lib.hid hB4
                clear hB4
                have Hhrw2 := Lib.hid hrw2
                clear hrw2
                go_wp2_with fail
                rw [show bits .xor .u8 (x.toNat : Int) (2 ^ ((A + i) % 8) % 256) = ((x ^^^ UInt8.ofNat (2 ^ ((A + i) % 8))).toNat : Int) from u8_flip x _ (by omega)]
                refine ⟨⟨i + 1, l2, true, by omega, by go_num, rfl, Hhrw2.out, Hhtu2.out, HhB4.out.setCell (p := ⟨w2.heap.size, (A + i) / 8, none⟩) (Nat.le_refl _) _⟩, by simp [intOf]; omega⟩
              · have hin2 : ¬ (A : Int) + i < 8 * (L : Int) := by omega
                have htu2 := htu.skip
                have Hhrw := Lib.hid hrw
                clear hrw
                have Hhtu := Lib.hid htu
                clear htu
                have Hhtu2 := Lib.hid htu2
                clear htu2
                have HhB4 := Lib.hid hB4
                clear hB4
                have Hhll := Lib.hid hll
                clear hll
                go_wp2_with fail
                refine ⟨⟨i + 1, l, tu, by omega, by go_num, rfl, Hhrw.out, Hhtu2.out, HhB4.out⟩, by simp [intOf]; omega⟩
            · have hbit0 : mk / 2 ^ i % 2 = 0 := by omega
              rw [hbit0] at hmb
              have htu2 := htu.skip
              have Hhrw := Lib.hid hrw
              clear hrw
              have Hhtu := Lib.hid htu
              clear htu
              have Hhtu2 := Lib.hid htu2
              clear htu2
              have HhB4 := Lib.hid hB4
              clear hB4
              have Hhll := Lib.hid hll
              clear hll
              go_wp2_with fail
              refine ⟨⟨i + 1, l, tu, by omega, by go_num, rfl, Hhrw.out, Hhtu2.out, HhB4.out⟩, by simp [intOf]; omega⟩
          · obtain rfl : i = 16 := by omega
            have hback := hrw.back cap
            rw [hll] at hback
            have hend := htu.end' h1 (by rw [HhL.out]; exact hAl)
            have hm4 := Hhm2.out.below hB4 (by omega)
            have hbel4 : Below w.heap.size w wr := Hhbel2.out.trans (hB4.mono (by omega))
            have hel := (escaped_le l).1
            clear hrw htu hB4
            have Hhend := Lib.hid hend
            clear hend
            have Hhm4 := Lib.hid hm4
            clear hm4
            have Hhbel4 := Lib.hid hbel4
            clear hbel4
            go_wp2_with fail
            refine (refEscaped_calls l wr (by omega)).mono ?_
            rintro e w5 ⟨rfl, hB5⟩
            have hz5 := hB5.size
            have hm5 := Hhm4.out.below hB5 (by omega)
            have hbel5 : Below w.heap.size w w5 := Hhbel4.out.trans (hB5.mono (by omega))
            have hend2 := Hhend.out
            clear hB5
            generalize escaped l = E at *
            have hc1 := cat_run [126] E (by simp; omega) w5
            have hc2 := cat_run (126 :: E) [126] (by simp; omega) w5
            have hEl : (126 :: (E ++ [126])).length ≤ 1000000 := by simp; omega
            have Hhend2 := Lib.hid hend2
            clear hend2
            have Hhm5 := Lib.hid hm5
            clear hm5
            have Hhbel5 := Lib.hid hbel5
            clear hbel5
            have HhEl := Lib.hid hEl
            clear hEl
            go_wp2_with fail
            refine (decode_calls (126 :: (E ++ [126])) m w5 Hhm5.out HhEl.out).mono ?_
            rintro e w6 ⟨v6, rfl, hown6, hB6⟩
            have hbel6 : Below w.heap.size w w6 := Hhbel5.out.trans (hB6.mono (by omega))
            rw [Hhend2.out] at hown6
            clear hB6
            obtain ⟨oa6, c6, rfl⟩ := own_open hown6
            clear hown6
            cases tu with
            | true =>
              go_wp2_with fail
              go_ret
              exact ⟨rfl, hbel6⟩
            | false =>
              go_wp2_with fail
              go_ret
              exact ⟨rfl, hbel6⟩
  · go_enter Tryd.func7, Tryd.ntmps7
    go_wp2_with fail
    refine (small_calls m w Hhm.out).mono ?_
    rintro e w1 ⟨rfl, hB1⟩
    go_wp2_with fail
    go_ret
    exact ⟨rfl, hB1⟩
theorem Bursts_at (s0 : ByteArray) (a z : Int) (m : Int) (w : World) (hm : MaxAt m w) (ha : s0.size ≤ 9223372036854775807) (ha64 : In64 a) (hz : 0 ≤ z ∧ z ≤ 65535) :
    Calls Tryd.prog 7 #[.string s0, .int .i64 a, .int .u16 z] w fun e w' => e = .returned (.bool true) ∧ Below w.heap.size w w' := by
  obtain ⟨k, rfl⟩ := Int.eq_ofNat_of_zero_le hz.1
  have := Bursts_calls s0.data.toList a k m w hm (by rw [len_data]; exact ha) ha64 (by omega)
  rwa [ba_eta] at this
end Go.Proofs.YtfpobogmlhdigaaDoor
