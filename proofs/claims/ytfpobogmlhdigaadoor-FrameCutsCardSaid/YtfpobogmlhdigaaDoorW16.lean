/- FrameCuts: walk. -/
import Derived.Test.YtfpobogmlhdigaaDoorW15
set_option linter.unusedSimpArgs false
set_option linter.unusedVariables false
namespace Go.Proofs.YtfpobogmlhdigaaDoor
open Go.RowKit

/-- append of an owned row of strings to another one -/
theorem append_strs {ops : Array Oper} {rest : List Oper} {o : Oper} {a : Act} {Q : Exit → Act → World → Prop} {w : World} (hgd : o.guard = none) (s x : Operand)
    (ho : o.op = .call { callee := .builtin .append, args := #[s, x], argTypes := #[23, 23] }) (base : Nat) (v : Value) (n : Nat) (xs : List Value) (hs : a.eval s = v) (hown : w.ownsRow base 9 1 v n xs)
    (base2 : Nat) (u : Value) (k : Nat) (l : List (List UInt8)) (hx : a.eval x = u) (hu : w.ownsRow base2 9 1 u k (l.map strV)) (hn : n + k ≤ 1000000000) (hbase : base ≤ w.heap.size)
    (h : ∀ v' w', w'.ownsRow base 9 1 v' (n + k) (xs ++ l.map strV) → w.grownBy w' v.ownBlock → Below base w w' → wpList Tryd.prog ops Q rest (a.put o.dst v') w') : wpList Tryd.prog ops Q (o :: rest) a w := by
  obtain ⟨i0, hi, hz0, hz1, hz2⟩ := info_parts info9
  rcases hu.2 with ⟨rfl, hk⟩ | ⟨g, cap, cur, rfl, hb, hg, hnc, hcm, hcs, htake⟩
  · have hl : l = [] := by
      have := hu.1
      rw [List.length_map] at this
      exact List.eq_nil_of_length_eq_zero (by omega)
    subst hl hk
    refine wpList_append_own_none hgd s x 23 ho base 9 i0 1 Tryd.underlying23 hi v n xs hs hown hx (h v w (by simpa using hown) ?_ (Below.refl _ _))
    exact ⟨rfl, rfl, rfl, Nat.le_refl _, fun _ _ _ => rfl⟩
  · refine wpList_append_own w hgd s x 23 ho base 9 i0 (.string ⟨#[]⟩) 1 16 Tryd.underlying23 hi hz0 hz1 hz2 rfl (by decide) v n xs hs hown ⟨g, 0, none⟩ k cap (l.map strV) hx hu.1 ?_ ?_ ?_ ?_ hbase ?_
    · intro j u hj
      have hlt := (List.getElem?_eq_some_iff.1 hj).1
      have h2 := hu.1
      rw [show (⟨g, 0, none⟩ : Addr).add j = ⟨g, j, none⟩ by simp [Addr.add]; intro e; exact e.symm, hu.cellAt j (by omega)]
      exact hj
    · intro u hu; simp at hu; obtain ⟨y, _, rfl⟩ := hu; rfl
    · unfold maxLen; omega
    · omega
    · intro v' w' h1 h2 _
      refine h v' w' h1 h2 ⟨h2.os, h2.tape, h2.output, h2.size, fun k hk => h2.block k (by omega) (fun e => ?_)⟩
      have := (hown.lt k e.symm).1
      omega

/-- a slice of n uint16s -/
def U16sAt (w : World) (v : Value) (n : Nat) : Prop :=
  ∃ oa cap, v = .slice oa n cap ∧ n ≤ 9223372036854775807 ∧
   (0 < n → ∃ b off, oa = some ⟨b, off, none⟩ ∧ b < w.heap.size ∧ ∀ k, k < n → ∃ z : Int, 0 ≤ z ∧ z ≤ 65535 ∧ w.cell? ⟨b, off + k, none⟩ = some (.int .u16 z))
theorem U16sAt.at' {w : World} {oa : Option Addr} {n cap n' : Nat} (h : U16sAt w (.slice oa n cap) n') {k : Nat} (hk : k < n') :
    ∃ b off, oa = some ⟨b, off, none⟩ ∧ b < w.heap.size ∧ ∃ z : Int, 0 ≤ z ∧ z ≤ 65535 ∧ w.cell? ⟨b, off + k, none⟩ = some (.int .u16 z) := by
  obtain ⟨oa', cap', hv, _, hc⟩ := h
  obtain ⟨rfl, rfl, rfl⟩ := Value.slice.inj hv
  obtain ⟨b, off, rfl, hb, hc⟩ := hc (by omega)
  exact ⟨b, off, rfl, hb, hc k hk⟩

theorem take_mid (s : List UInt8) (a b : Nat) (h : a ≤ b) : s.take b = s.take a ++ (s.take b).drop a := by
  conv => lhs; rw [← List.take_append_drop a (s.take b)]
  rw [List.take_take, Nat.min_eq_left h]

set_option maxRecDepth 100000 in
set_option maxHeartbeats 800000 in
theorem Cuts_calls (s : List UInt8) (v : Value) (n : Nat) (m : Int) (w : World) (hm : MaxAt m w) (hl : U16sAt w v n) (ha : s.length ≤ 9223372036854775807) :
    Calls Tryd.prog 5 #[.string ⟨s.toArray⟩, v] w fun e w' => e = .returned (.bool true) ∧ Below w.heap.size w w' := by
  have hm0 := hm.2
  have hza := str_size s
  have hl0 := hl
  obtain ⟨oa, cap, rfl, hmx, hc⟩ := hl
  clear hc
  have Hhm := Lib.hid hm
  clear hm
  have Hhl0 := Lib.hid hl0
  clear hl0
  by_cases h1 : s.length ≤ 8000
  · by_cases h2 : n ≤ 30
    · go_enter Tryd.func5, Tryd.ntmps5
      go_wp2_with fail
      refine (small_calls m w Hhm.out).mono ?_
      rintro e w1 ⟨rfl, hB1⟩
      have hz1 := hB1.size
      have hm1 := Hhm.out.below hB1 hm0
      have Hhm1 := Lib.hid hm1
      clear hm1
      go_wp2_with fail
      refine (decode_calls s m w1 Hhm1.out (by omega)).mono ?_
      rintro e w2 ⟨v2, rfl, hown2, hB2⟩
      have hz2 := hB2.size
      have hm2 := Hhm1.out.below hB2 (by omega)
      obtain ⟨oa2, c2, rfl⟩ := own_open hown2
      have hpl := pays_len s
      have hbel2 : Below w.heap.size w w2 := hB1.trans (hB2.mono (by omega))
      clear hB1 hB2
      have Hhm2 := Lib.hid hm2
      clear hm2
      have Hhown2 := Lib.hid hown2
      clear hown2
      have Hhbel2 := Lib.hid hbel2
      clear hbel2
      go_wp2_with fail
      go_loopw [8, 9, 10, 11, 12, 13, 14] (fun s8 s9 s10 s11 _ _ _ wr => ∃ k f : Nat, k ≤ n + 1 ∧ f ≤ s.length ∧ s11 = .int .i64 k ∧ s10 = .int .i64 f ∧ (k = n + 1 → f = s.length) ∧ s9 = .string ⟨(restV (cur (s.take f))).toArray⟩ ∧ wr.ownsRow w2.heap.size 9 1 s8 (pays (s.take f)).length ((pays (s.take f)).map strV) ∧ Below w2.heap.size w2 wr) (fun _ _ _ s11 _ _ _ _ => n + 1 - (intOf s11).toNat)
      case atStart => exact ⟨0, 0, by omega, by omega, rfl, rfl, by omega, by simp [rest_nil], World.ownsRow_nil _ _ _ _, Below.refl _ _⟩
      case round =>
        obtain ⟨k, f, hk, hf, rfl, rfl, hend, rfl, hown, hB3⟩ := hrel
        have hz3 := hB3.size
        have hrl := rest_len (s.take f)
        have hpf := pays_len (s.take f)
        rw [List.length_take] at hpf
        have hm3 := Hhm2.out.below hB3 (by omega)
        by_cases hlt : k ≤ n
        · -- the end of the piece
          by_cases hkn : k < n
          · obtain ⟨b1, off1, rfl, hb1, z, hz0, hz9, hc0⟩ := Hhl0.out.at' hkn
            have hc1 := ((Hhbel2.out.trans (hB3.mono (by omega))).cell (p := ⟨b1, off1 + k, none⟩) hb1).trans hc0
            clear hc0
            have hmod : 0 ≤ z % 3000 ∧ z % 3000 ≤ 2999 := by omega
            obtain ⟨g, hg⟩ : ∃ g : Nat, min (s.length : Int) ((f : Int) + z % 3000) = (g : Int) := ⟨(min (s.length : Int) ((f : Int) + z % 3000)).toNat, by omega⟩
            have hfg : f ≤ g := by omega
            have hgl : g ≤ s.length := by omega
            have hendg : k + 1 = n + 1 → g = s.length := fun h => by omega
            have htm := take_mid s f g hfg
            obtain ⟨hpp, hrr⟩ := pays_piece (s.take f) ((s.take g).drop f)
            rw [← htm] at hpp hrr
            have hex := ex_mid s f g
            have hPl : ((s.take g).drop f).length ≤ 8000 := by rw [List.length_drop, List.length_take]; omega
            have hpl3 := pays_len (restV (cur (s.take f)) ++ (s.take g).drop f)
            rw [List.length_append] at hpl3
            have hb3 : (f : Int) ≤ (g : Int) := by omega
            have hb4 : (g : Int) ≤ (s.length : Int) := by omega
            clear htm
            generalize restV (cur (s.take f)) = R at *
            generalize (s.take g).drop f = P at *
            generalize pays (s.take f) = PF at *
            have hcat := cat_run R P (by omega) wr
            have hRP : (R ++ P).length ≤ 1000000 := by rw [List.length_append]; omega
            generalize R ++ P = RP at *
            have Hhend := Lib.hid hend
            clear hend
            have Hhown := Lib.hid hown
            clear hown
            have HhB3 := Lib.hid hB3
            clear hB3
            have Hhm3 := Lib.hid hm3
            clear hm3
            have Hhpp := Lib.hid hpp
            clear hpp
            have Hhrr := Lib.hid hrr
            clear hrr
            have Hhendg := Lib.hid hendg
            clear hendg
            go_wp2_with fail
            refine (decode_calls RP m wr Hhm3.out hRP).mono ?_
            rintro e w4 ⟨v4, rfl, hown4, hB4⟩
            have hz4 := hB4.size
            have hownP := ownsRow_below Hhown.out hB4 (Nat.le_refl _)
            have hbel4 : Below w2.heap.size w2 w4 := HhB3.out.trans (hB4.mono (by omega))
            clear hB4
            have Hhbel4 := Lib.hid hbel4
            clear hbel4
            have HhRP := Lib.hid hRP
            clear hRP
            go_wp2_with (at_builtin; refine append_strs rfl _ _ rfl w2.heap.size u8 PF.length _ rfl hownP wr.heap.size v4 (pays RP).length (pays RP) rfl hown4 (by omega) (by omega) ?_)
            intro v5 w5 hown5 _ hB5
            have hz5 := hB5.size
            have hbel5 : Below w2.heap.size w2 w5 := Hhbel4.out.trans hB5
            clear hB5 hownP hown4
            rw [← List.map_append, ← Hhpp.out, show PF.length + (pays RP).length = (pays (s.take g)).length by rw [Hhpp.out, List.length_append]] at hown5
            have Hhown5 := Lib.hid hown5
            clear hown5
            have Hhbel5 := Lib.hid hbel5
            clear hbel5
            go_wp2_with fail
            refine ⟨⟨k + 1, g, by omega, hgl, by go_num, rfl, Hhendg.out, by rw [Hhrr.out], Hhown5.out, Hhbel5.out⟩, by simp [intOf]; omega⟩
          · obtain ⟨g, hg⟩ : ∃ g : Nat, g = s.length := ⟨_, rfl⟩
            have hfg : f ≤ g := by omega
            have hgl : g ≤ s.length := by omega
            have hendg : k + 1 = n + 1 → g = s.length := fun h => hg
            have htm := take_mid s f g hfg
            obtain ⟨hpp, hrr⟩ := pays_piece (s.take f) ((s.take g).drop f)
            rw [← htm] at hpp hrr
            have hex := ex_mid s f g
            have hPl : ((s.take g).drop f).length ≤ 8000 := by rw [List.length_drop, List.length_take]; omega
            have hpl3 := pays_len (restV (cur (s.take f)) ++ (s.take g).drop f)
            rw [List.length_append] at hpl3
            have hb3 : (f : Int) ≤ (g : Int) := by omega
            have hb4 : (g : Int) ≤ (s.length : Int) := by omega
            clear htm
            generalize restV (cur (s.take f)) = R at *
            generalize (s.take g).drop f = P at *
            generalize pays (s.take f) = PF at *
            have hcat := cat_run R P (by omega) wr
            have hRP : (R ++ P).length ≤ 1000000 := by rw [List.length_append]; omega
            generalize R ++ P = RP at *
            rw [hg] at hex
            have Hhend := Lib.hid hend
            clear hend
            have Hhown := Lib.hid hown
            clear hown
            have HhB3 := Lib.hid hB3
            clear hB3
            have Hhm3 := Lib.hid hm3
            clear hm3
            have Hhpp := Lib.hid hpp
            clear hpp
            have Hhrr := Lib.hid hrr
            clear hrr
            have Hhendg := Lib.hid hendg
            clear hendg
            have Hhg := Lib.hid hg
            clear hg
            go_wp2_with fail
            refine (decode_calls RP m wr Hhm3.out hRP).mono ?_
            rintro e w4 ⟨v4, rfl, hown4, hB4⟩
            have hz4 := hB4.size
            have hownP := ownsRow_below Hhown.out hB4 (Nat.le_refl _)
            have hbel4 : Below w2.heap.size w2 w4 := HhB3.out.trans (hB4.mono (by omega))
            clear hB4
            have Hhbel4 := Lib.hid hbel4
            clear hbel4
            have HhRP := Lib.hid hRP
            clear hRP
            go_wp2_with (at_builtin; refine append_strs rfl _ _ rfl w2.heap.size u8 PF.length _ rfl hownP wr.heap.size v4 (pays RP).length (pays RP) rfl hown4 (by omega) (by omega) ?_)
            intro v5 w5 hown5 _ hB5
            have hz5 := hB5.size
            have hbel5 : Below w2.heap.size w2 w5 := Hhbel4.out.trans hB5
            clear hB5 hownP hown4
            rw [← List.map_append, ← Hhpp.out, show PF.length + (pays RP).length = (pays (s.take g)).length by rw [Hhpp.out, List.length_append]] at hown5
            have Hhown5 := Lib.hid hown5
            clear hown5
            have Hhbel5 := Lib.hid hbel5
            clear hbel5
            go_wp2_with fail
            refine ⟨⟨k + 1, g, by omega, hgl, by go_num, by rw [Hhg.out], Hhendg.out, by rw [Hhrr.out], Hhown5.out, Hhbel5.out⟩, by simp [intOf]; omega⟩
        · obtain rfl : f = s.length := hend (by omega)
          rw [List.take_length] at hown hrl hpf ⊢
          have hS2 := StrsAt.of_owned (ownsRow_below Hhown2.out hB3 (Nat.le_refl _)) (pays_short s) (by omega)
          have hS1 := StrsAt.of_owned hown (pays_short s) (by omega)
          have hbelF : ∀ w8, Below wr.heap.size wr w8 → Below w.heap.size w w8 := fun w8 h => (Hhbel2.out.trans (hB3.mono (by omega))).trans (h.mono (by omega))
          obtain ⟨oa1, c1, rfl⟩ := own_open hown
          clear hown hB3 hend
          have hq := str_beq (restV (cur s)) (restV (cur s))
          have HhS1 := Lib.hid hS1
          clear hS1
          have HhS2 := Lib.hid hS2
          clear hS2
          have HhbelF := Lib.hid hbelF
          clear hbelF
          go_wp2_with fail
          refine (Same_calls _ _ _ _ _ HhS1.out HhS2.out).mono ?_
          rintro e w8 ⟨rfl, hB8⟩
          rw [decide_eq_true rfl]
          have HhB8 := Lib.hid hB8
          clear hB8
          go_wp2_with fail
          go_ret
          exact ⟨rfl, HhbelF.out _ HhB8.out⟩
    · go_enter Tryd.func5, Tryd.ntmps5
      go_wp2_with fail
      refine (small_calls m w Hhm.out).mono ?_
      rintro e w1 ⟨rfl, hB1⟩
      go_wp2_with fail
      go_ret
      exact ⟨rfl, hB1⟩
  · go_enter Tryd.func5, Tryd.ntmps5
    go_wp2_with fail
    refine (small_calls m w Hhm.out).mono ?_
    rintro e w1 ⟨rfl, hB1⟩
    go_wp2_with fail
    go_ret
    exact ⟨rfl, hB1⟩
theorem Cuts_at (s0 : ByteArray) (v : Value) (n : Nat) (m : Int) (w : World) (hm : MaxAt m w) (hl : U16sAt w v n) (ha : s0.size ≤ 9223372036854775807) :
    Calls Tryd.prog 5 #[.string s0, v] w fun e w' => e = .returned (.bool true) ∧ Below w.heap.size w w' := by
  have := Cuts_calls s0.data.toList v n m w hm hl (by rw [len_data]; exact ha)
  rwa [ba_eta] at this
end Go.Proofs.YtfpobogmlhdigaaDoor
