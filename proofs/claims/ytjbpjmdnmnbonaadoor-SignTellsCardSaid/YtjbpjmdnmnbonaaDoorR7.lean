/- The walk of the reference's Sum. -/
import Derived.Test.YtjbpjmdnmnbonaaDoorR5
import Derived.Test.YtjbpjmdnmnbonaaDoorR6
import Derived.Test.YtjbpjmdnmnbonaaDoorD4
set_option linter.unusedSimpArgs false
set_option linter.unusedVariables false
namespace Go.Proofs.YtjbpjmdnmnbonaaDoor
open Go.RowKit

def cR (l : List UInt8) (st : List Nat) (a : Nat) : List Nat := compS st (wordsR l a 16) (endR l a) (decide (endR l a = l.length))
/-- the state behind j blocks -/
def sR (l : List UInt8) : Nat → List Nat
  | 0 => initS
  | j + 1 => cR l (sR l j) (64 * j)
theorem sR_len (l : List UInt8) (j : Nat) : (sR l j).length = 8 := by
  induction j with
  | zero => rfl
  | succ j ih => rw [sR, cR, compS_len, ih]
theorem sR_m (l : List UInt8) (j : Nat) : M32 (sR l j) := by
  induction j with
  | zero => exact initS_m
  | succ j ih => exact compS_m _ _ _ _ ih
theorem sR_absorb (l : List UInt8) (i : Nat) (hi : i ≤ (l.length - 1) / 64) : absorb ((l.length - 1) / 64 - i) (sR l i) (l.drop (64 * i)) (64 * i) = absorb ((l.length - 1) / 64) initS l 0 := by
  induction i with
  | zero => simp [sR]
  | succ i ih =>
    have ih := ih (by omega)
    rw [show (l.length - 1) / 64 - i = ((l.length - 1) / 64 - (i + 1)) + 1 by omega, absorb] at ih
    rw [← ih, sR, cR]
    have he : endR l (64 * i) = 64 * i + 64 := by unfold endR; omega
    rw [he, show decide (64 * i + 64 = l.length) = false by simp; omega, wordsR, words_eq, List.drop_drop, show 64 * (i + 1) = 64 * i + 64 by omega]
theorem sR_end (l : List UInt8) : sR l ((l.length - 1) / 64 + 1) = absorb ((l.length - 1) / 64) initS l 0 := by
  have h := sR_absorb l ((l.length - 1) / 64) (Nat.le_refl _)
  rw [Nat.sub_self, absorb] at h
  rw [← h, sR, cR]
  have he : endR l (64 * ((l.length - 1) / 64)) = l.length := by unfold endR; omega
  rw [he, wordsR, words_eq, List.take_of_length_le (by rw [List.length_drop]; omega), List.length_drop, show 64 * ((l.length - 1) / 64) + (l.length - 64 * ((l.length - 1) / 64)) = l.length by omega]
  simp
theorem u8_mod (x d : Nat) : ((UInt8.ofNat (x / d)).toNat : Int) = (x : Int) / (d : Int) % 256 := by
  rw [← Int.natCast_ediv]; simp
theorem byteCells4 (a b c d : UInt8) : Lib.byteCells [a, b, c, d] = [.int .u8 (a.toNat : Int), .int .u8 (b.toNat : Int), .int .u8 (c.toNat : Int), .int .u8 (d.toNat : Int)] := rfl
set_option maxRecDepth 100000 in
set_option maxHeartbeats 2000000 in
theorem SumR_calls (l : List UInt8) (w : World) (hl : l.length ≤ 4611686018427387000) :
    Calls Tryd.prog 44 #[.string ⟨l.toArray⟩] w fun e w' => e = .returned (.string ⟨(digestS l).toArray⟩) ∧ Below w.heap.size w w' := by
  have hsz := str_size l
  have e0 : bits .xor .u32 1779033703 16842784 = 1795745351 := by decide
  go_enter Tryd.func44, Tryd.ntmps44
  go_wp2_with fail
  refine (constants_calls w).mono ?_
  rintro e w1 ⟨rfl, hc, hB1⟩
  have c0 : w1.cell? ⟨w.heap.size, 0, none⟩ = some (.int .u32 1779033703) := own_word_at hc rfl (k := 0) (by omega)
  have f0 := World.ownsRow.frozenAt hc 0
  have hz1 : w.heap.size < w1.heap.size := World.block_lt_of_cell? w1 _ c0
  have Hhc := Lib.hid hc
  clear hc
  go_wp2_with fail
  generalize hW2 : World.setCell _ _ _ = w2
  have hown2 : w2.ownsRow w.heap.size 60 1 (.slice (some ⟨w.heap.size, 0, none⟩) 8 8) 8 (cells32 initS) := by
    rw [← hW2]; exact (World.ownsRow.stored Hhc.out 0 (.int .u32 1795745351)).1
  have hB2 : Below w.heap.size w w2 := by rw [← hW2]; exact Below.setCell hB1 (Nat.le_refl _) _
  clear hW2 c0 f0 hB1 e0
  have hcc := compressR_calls w.heap.size w.heap.size 8 initS l 0 w2 hown2 hl (by omega) (by decide) initS_m
  have Hhown2 := Lib.hid hown2
  clear hown2
  have HhB2 := Lib.hid hB2
  clear hB2
  have Hhcc := Lib.hid hcc
  clear hcc
  refine (Hhcc.out).mono ?_
  rintro e w3 ⟨v3, rfl, hown3, hB3⟩
  have hB4 := HhB2.out.trans (hB3.mono HhB2.out.size)
  have hown4 : w3.ownsRow w.heap.size 60 1 v3 8 (cells32 (sR l 1)) := ownsRow_base hown3 HhB2.out.size
  obtain ⟨g3, cap3, rfl, hg3, hg3l, hg3c⟩ := own_words_open hown4 (by omega)
  obtain ⟨K, hK⟩ : ∃ K, K = (l.length - 1) / 64 := ⟨_, rfl⟩
  clear hown3 hB3
  have Hhown4 := Lib.hid hown4
  clear hown4
  have HhB4 := Lib.hid hB4
  clear hB4
  have HhK := Lib.hid hK
  clear hK
  go_wp2_with fail
  go_loopw [3, 4] (fun s3 s4 wr => ∃ (j g cap : Nat), 1 ≤ j ∧ j ≤ K + 1 ∧ s3 = .slice (some ⟨g, 0, none⟩) 8 cap ∧ s4 = .int .i64 ((64 * j : Nat) : Int) ∧ wr.ownsRow w.heap.size 60 1 (.slice (some ⟨g, 0, none⟩) 8 cap) 8 (cells32 (sR l j)) ∧ Below w.heap.size w wr) (fun _ s4 _ => l.length + 64 - (intOf s4).toNat)
  case atStart => exact ⟨1, g3, cap3, by omega, by omega, rfl, rfl, Hhown4.out, HhB4.out⟩
  case round =>
    obtain ⟨j, g, cap, hj1, hj2, rfl, rfl, hown, hB⟩ := hrel
    have hs := hB.size
    obtain ⟨p, hp⟩ : ∃ p, p = 64 * j := ⟨_, rfl⟩
    rw [← hp]
    by_cases hlt : p < l.length
    · have hlt' : (p : Int) < (l.length : Int) := by omega
      have hcc := compressR_calls w.heap.size g cap (sR l j) l p wr hown hl (by omega) (sR_len l j) (sR_m l j)
      have hnew : compS (sR l j) (wordsR l p 16) (endR l p) (decide (endR l p = l.length)) = sR l (j + 1) := by rw [sR, cR, hp]
      rw [hnew] at hcc
      have hb64 : (p : Int) + 64 ≤ 9223372036854775807 := by omega
      have Hhown := Lib.hid hown
      clear hown
      have HhB := Lib.hid hB
      clear hB
      have Hhcc := Lib.hid hcc
      clear hcc
      have Hhnew := Lib.hid hnew
      clear hnew
      have Hhp := Lib.hid hp
      clear hp
      go_wp2_with fail
      refine (Hhcc.out).mono ?_
      rintro e w5 ⟨v5, rfl, hown5, hB5⟩
      have hB6 := HhB.out.trans (hB5.mono hs)
      have hown6 : w5.ownsRow w.heap.size 60 1 v5 8 (cells32 (sR l (j + 1))) := ownsRow_base hown5 hs
      obtain ⟨g5, cap5, rfl, hg5, hg5l, hg5c⟩ := own_words_open hown6 (by omega)
      clear hown5 hB5
      have Hhown6 := Lib.hid hown6
      clear hown6
      have HhB6 := Lib.hid hB6
      clear hB6
      go_wp2_with fail
      exact ⟨⟨j + 1, g5, cap5, by omega, by have := Hhp.out; have := HhK.out; omega, rfl, by rw [show 64 * (j + 1) = p + 64 by rw [Hhp.out]; omega]; push_cast; rfl, Hhown6.out, HhB6.out⟩, by simp [intOf]; omega⟩
    · have hjK : j = K + 1 := by have := HhK.out; omega
      have hge : (l.length : Int) ≤ (p : Int) := by omega
      obtain ⟨v, hv⟩ : ∃ v, v = sR l (K + 1) := ⟨_, rfl⟩
      have hvl : v.length = 8 := by rw [hv]; exact sR_len l _
      have hvm : M32 v := by rw [hv]; exact sR_m l _
      have hout : digestS l = v.flatMap leS := by rw [digestS, hv, HhK.out, sR_end]
      rw [hjK, ← hv] at hown
      obtain ⟨wz, hwz⟩ : ∃ wz : World, wz = wr := ⟨_, rfl⟩
      subst hwz
      have hVt : ∀ wx, Below wz.heap.size wz wx → ∀ k, k < 8 → wx.cell? ⟨g, k, none⟩ = some (.int .u32 (nt v k : Nat)) := fun wx hx k hk => own_word_at (ownsRow_below hown hx (Nat.le_refl _)) hvl hk
      have hend : ∀ wx, Below wz.heap.size wz wx → Below w.heap.size w wx := fun wx hx => hB.trans (hx.mono hs)
      have Hhown := Lib.hid hown
      clear hown
      have HhB := Lib.hid hB
      clear hB
      have HhjK := Lib.hid hjK
      clear hjK
      have Hhv := Lib.hid hv
      clear hv
      have Hhvl := Lib.hid hvl
      clear hvl
      have Hhvm := Lib.hid hvm
      clear hvm
      have Hhout := Lib.hid hout
      clear hout
      have HhVt := Lib.hid hVt
      clear hVt
      have Hhend := Lib.hid hend
      clear hend
      have Hhp := Lib.hid hp
      clear hp
      go_wp2_with fail
      go_loopw [5, 6] (fun s5 s6 wr => ∃ i : Nat, i ≤ 8 ∧ s6 = .int .i64 i ∧ wr.ownsRow wz.heap.size 5 1 s5 (4 * i) (Lib.byteCells ((v.take i).flatMap leS)) ∧ Below wz.heap.size wz wr) (fun _ s6 _ => 8 - (intOf s6).toNat)
      case atStart => exact ⟨0, by omega, rfl, World.ownsRow_nil _ _ _ _, Below.refl _ _⟩
      case round =>
        obtain ⟨i, hi, rfl, hown, hB⟩ := hrel
        have hsz1 := hB.size
        by_cases hil : i < 8
        · have cx := HhVt.out wr hB i hil
          obtain ⟨x, hx⟩ : ∃ x, x = nt v i := ⟨_, rfl⟩
          have hx1 : x < 4294967296 := by rw [hx]; exact Hhvm.out _
          have hsucc := flat_succ v i (by rw [Hhvl.out]; exact hil)
          rw [← hx] at cx hsucc
          obtain ⟨b0, hb0⟩ : ∃ c, c = UInt8.ofNat x := ⟨_, rfl⟩
          obtain ⟨b1, hb1⟩ : ∃ c, c = UInt8.ofNat (x / 256) := ⟨_, rfl⟩
          obtain ⟨b2, hb2⟩ : ∃ c, c = UInt8.ofNat (x / 65536) := ⟨_, rfl⟩
          obtain ⟨b3, hb3⟩ : ∃ c, c = UInt8.ofNat (x / 16777216) := ⟨_, rfl⟩
          have m0 : (x : Int) % 256 = (b0.toNat : Int) := by rw [hb0]; have := u8_mod x 1; simp at this; simp
          have m1 : (x : Int) / 256 % 256 = (b1.toNat : Int) := by rw [hb1]; exact (u8_mod x 256).symm
          have m2 : (x : Int) / 65536 % 256 = (b2.toNat : Int) := by rw [hb2]; exact (u8_mod x 65536).symm
          have m3 : (x : Int) / 16777216 = (b3.toNat : Int) := by rw [hb3, u8_mod x 16777216]; omega
          have hle : leS x = [b0, b1, b2, b3] := by rw [hb0, hb1, hb2, hb3]; rfl
          have hil' : (i : Int) < 8 := by omega
          have Hhown := Lib.hid hown
          clear hown
          have HhB := Lib.hid hB
          clear hB
          have Hhx := Lib.hid hx
          clear hx
          have Hhsucc := Lib.hid hsucc
          clear hsucc
          have Hhb0 := Lib.hid hb0
          clear hb0
          have Hhb1 := Lib.hid hb1
          clear hb1
          have Hhb2 := Lib.hid hb2
          clear hb2
          have Hhb3 := Lib.hid hb3
          clear hb3
          have Hhle := Lib.hid hle
          clear hle
          go_wp2_with (at_builtin; refine append_bytes rfl _ _ rfl wz.heap.size _ (4 * i) (Lib.byteCells ((v.take i).flatMap leS)) rfl (Hhown.out.alloc _) wr.heap.size (.slice (some ⟨wr.heap.size, 0, none⟩) 4 4) 4 [b0, b1, b2, b3] rfl (World.ownsRow_lit wr _ 4 (Nat.le_refl _) (by decide) rfl) (by omega) (by simp; omega) ?_; intro v6 w6 hown6 hg6 hB6)
          have hfo : w6.ownsRow wz.heap.size 5 1 v6 (4 * (i + 1)) (Lib.byteCells ((v.take (i + 1)).flatMap leS)) := by
            rw [Hhsucc.out, Hhle.out, Lib.byteCells_append, show 4 * (i + 1) = 4 * i + 4 by omega]; exact hown6
          exact ⟨⟨i + 1, by omega, by go_num, hfo, (Below.alloc HhB.out hsz1 _).trans hB6⟩, by simp [intOf]; omega⟩
        · obtain rfl : i = 8 := by omega
          rw [List.take_of_length_le (by rw [Hhvl.out]; omega), ← Hhout.out] at hown
          have hk := own_string (n := 4 * 8) (l := digestS l) (w := wr) hown
          have hfin := Hhend.out _ hB
          have Hhown := Lib.hid hown
          clear hown
          have HhB := Lib.hid hB
          clear hB
          have Hhfin := Lib.hid hfin
          clear hfin
          go_wp2_with fail
          go_ret
          exact ⟨rfl, Hhfin.out⟩
end Go.Proofs.YtjbpjmdnmnbonaaDoor
