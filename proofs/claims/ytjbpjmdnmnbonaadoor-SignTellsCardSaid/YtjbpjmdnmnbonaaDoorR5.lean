/- Appends of words. -/
import Derived.Test.YtjbpjmdnmnbonaaDoorR3
set_option linter.unusedSimpArgs false
set_option linter.unusedVariables false
namespace Go.Proofs.YtjbpjmdnmnbonaaDoor
open Go.RowKit

theorem info60 : (Tryd.prog.info? 60).map (fun i => (i.zero, i.size, i.bytes)) = some (some (.int .u32 0), 1, 4) := by kernel_rfl
/-- append of one word to an owned row of words -/
theorem append_word {ops : Array Oper} {rest : List Oper} {o : Oper} {a : Act} {Q : Exit → Act → World → Prop} {w : World} (hgd : o.guard = none) (s x : Operand)
    (ho : o.op = .call { callee := .builtin .append, args := #[s, x], argTypes := #[58, 58] }) (base : Nat) (v : Value) (n : Nat) (l : List Nat) (hs : a.eval s = v) (hown : w.ownsRow base 60 1 v n (cells32 l))
    (b : Nat) (y : Nat) (hx : a.eval x = .slice (some ⟨b, 0, none⟩) 1 1) (hc : w.cell? ⟨b, 0, none⟩ = some (.int .u32 (y : Int))) (hn : n + 1 ≤ 1000000000) (hbase : base ≤ w.heap.size)
    (h : ∀ v' w', w'.ownsRow base 60 1 v' (n + 1) (cells32 (l ++ [y])) → w.grownBy w' v.ownBlock → Below base w w' → wpList Tryd.prog ops Q rest (a.put o.dst v') w') : wpList Tryd.prog ops Q (o :: rest) a w := by
  obtain ⟨i0, hi, hz0, hz1, hz2⟩ := info_parts info60
  refine wpList_append_own w hgd s x 58 ho base 60 i0 (.int .u32 0) 1 4 und93 hi hz0 hz1 hz2 rfl (by decide) v n _ hs hown ⟨b, 0, none⟩ 1 1 [.int .u32 y] hx rfl ?_ ?_ ?_ ?_ hbase ?_
  · intro j u hu
    cases j with
    | zero => simp at hu; subst hu; simpa [Addr.add] using hc
    | succ j => simp at hu
  · intro u hu; simp at hu; subst hu; rfl
  · unfold maxLen; omega
  · omega
  · intro v' w' h1 h2 _
    refine h v' w' (by rw [cells32, List.map_append]; exact h1) h2 ⟨h2.os, h2.tape, h2.output, h2.size, fun k hk => h2.block k (by omega) (fun e => ?_)⟩
    have := (hown.lt k e.symm).1
    omega
theorem wp_append_word {o : Oper} {a : Act} {K : Act → World → Prop} {Q : Exit → Act → World → Prop} {w : World} (s x : Operand)
    (ho : o.op = .call { callee := .builtin .append, args := #[s, x], argTypes := #[58, 58] }) (base : Nat) (v : Value) (n : Nat) (l : List Nat) (hs : a.eval s = v) (hown : w.ownsRow base 60 1 v n (cells32 l))
    (b : Nat) (y : Nat) (hx : a.eval x = .slice (some ⟨b, 0, none⟩) 1 1) (hc : w.cell? ⟨b, 0, none⟩ = some (.int .u32 (y : Int))) (hn : n + 1 ≤ 1000000000) (hbase : base ≤ w.heap.size)
    (h : ∀ v' w', w'.ownsRow base 60 1 v' (n + 1) (cells32 (l ++ [y])) → Below base w w' → K (a.put o.dst v') w') : o.wp Tryd.prog a w K Q := by
  obtain ⟨i0, hi, hz0, hz1, hz2⟩ := info_parts info60
  refine wp_append_own w s x 58 ho base 60 i0 (.int .u32 0) 1 4 und93 hi hz0 hz1 hz2 rfl (by decide) v n _ hs hown ⟨b, 0, none⟩ 1 1 [.int .u32 y] hx rfl ?_ ?_ ?_ ?_ hbase ?_
  · intro j u hu
    cases j with
    | zero => simp at hu; subst hu; simpa [Addr.add] using hc
    | succ j => simp at hu
  · intro u hu; simp at hu; subst hu; rfl
  · unfold maxLen; omega
  · omega
  · intro v' w' h1 h2 _
    refine h v' w' (by rw [cells32, List.map_append]; exact h1) ⟨h2.os, h2.tape, h2.output, h2.size, fun k hk => h2.block k (by omega) (fun e => ?_)⟩
    have := (hown.lt k e.symm).1
    omega
/-- append of a row of words to an owned row of words -/
theorem append_words {ops : Array Oper} {rest : List Oper} {o : Oper} {a : Act} {Q : Exit → Act → World → Prop} {w : World} (hgd : o.guard = none) (s x : Operand)
    (ho : o.op = .call { callee := .builtin .append, args := #[s, x], argTypes := #[58, 58] }) (base : Nat) (v : Value) (n : Nat) (l : List Nat) (hs : a.eval s = v) (hown : w.ownsRow base 60 1 v n (cells32 l))
    (g k cap : Nat) (l2 : List Nat) (hx : a.eval x = .slice (some ⟨g, 0, none⟩) k cap) (hlen : l2.length = k) (hu : ∀ j, j < k → w.cell? ⟨g, j, none⟩ = some (.int .u32 (nt l2 j : Nat))) (hn : n + k ≤ 1000000000) (hbase : base ≤ w.heap.size)
    (h : ∀ v' w', w'.ownsRow base 60 1 v' (n + k) (cells32 (l ++ l2)) → w.grownBy w' v.ownBlock → Below base w w' → wpList Tryd.prog ops Q rest (a.put o.dst v') w') : wpList Tryd.prog ops Q (o :: rest) a w := by
  obtain ⟨i0, hi, hz0, hz1, hz2⟩ := info_parts info60
  refine wpList_append_own w hgd s x 58 ho base 60 i0 (.int .u32 0) 1 4 und93 hi hz0 hz1 hz2 rfl (by decide) v n _ hs hown ⟨g, 0, none⟩ k cap (cells32 l2) hx (by rw [cells32_len, hlen]; simp) ?_ ?_ ?_ ?_ hbase ?_
  · intro j u hj
    obtain ⟨h1, rfl⟩ := u32_at hj
    rw [addr_add]; exact hu j (by omega)
  · exact u32_one l2
  · unfold maxLen; omega
  · omega
  · intro v' w' h1 h2 _
    refine h v' w' (by rw [cells32, List.map_append]; exact h1) h2 ⟨h2.os, h2.tape, h2.output, h2.size, fun k hk => h2.block k (by omega) (fun e => ?_)⟩
    have := (hown.lt k e.symm).1
    omega
theorem own_words_open {w : World} {base : Nat} {v : Value} {n : Nat} {l : List Nat} (h : w.ownsRow base 60 1 v n (cells32 l)) (hn : 0 < n) : ∃ g cap, v = .slice (some ⟨g, 0, none⟩) n cap ∧ base ≤ g ∧ g < w.heap.size ∧ n ≤ cap := by
  rcases h.2 with ⟨_, h0⟩ | ⟨g, cap, cur, hv, hb, hg, hnc, _⟩
  · omega
  · exact ⟨g, cap, hv, hb, (Array.getElem?_eq_some_iff.1 hg).1, hnc⟩
theorem own_word_at {w : World} {base g n cap : Nat} {l : List Nat} (h : w.ownsRow base 60 1 (.slice (some ⟨g, 0, none⟩) n cap) n (cells32 l)) (hl : l.length = n) {k : Nat} (hk : k < n) : w.cell? ⟨g, k, none⟩ = some (.int .u32 (nt l k : Nat)) := by
  rw [World.ownsRow.cellAt h k (by omega), cells32_at l k (by omega)]

def endR (l : List UInt8) (a : Nat) : Nat := min (a + 64) l.length
/-- the words of the block at a -/
def wordsR (l : List UInt8) (a j : Nat) : List Nat := (List.range j).map fun i => wordR l (a + 4 * i)
def outL (h v : List Nat) (i : Nat) : List Nat := (List.range i).map fun k => (nt h k ^^^ nt v k) ^^^ nt v (k + 8)
theorem outK_nt (h v : List Nat) (n k : Nat) (hk : k < h.length) : nt (outK h v n) k = if k < n then nt h k ^^^ (nt v k ^^^ nt v (k + 8)) else nt h k := by
  induction n with
  | zero => simp [outK]
  | succ n ih =>
    rw [outK, nt_set, outK_len]
    by_cases e : n = k
    · subst e
      rw [if_pos ⟨rfl, hk⟩, ih, if_neg (by omega), if_pos (by omega)]
    · rw [if_neg (fun h => e h.1), ih]
      by_cases h1 : k < n
      · rw [if_pos h1, if_pos (by omega)]
      · rw [if_neg h1, if_neg (by omega)]
theorem outL_eq (h v : List Nat) (hh : h.length = 8) : outK h v 8 = outL h v 8 := by
  refine List.ext_getElem (by rw [outK_len, hh]; simp [outL]) fun k h1 h2 => ?_
  have hk : k < 8 := by rw [outK_len, hh] at h1; exact h1
  have := outK_nt h v 8 k (by omega)
  rw [if_pos hk] at this
  have e : (outK h v 8)[k] = nt (outK h v 8) k := by simp [nt, h1]
  rw [e, this]
  simp [outL, Nat.xor_assoc]
theorem wordsR_m (l : List UInt8) (a n : Nat) : M32 (wordsR l a n) := by
  intro k
  unfold wordsR nt
  rw [List.getElem?_map]
  cases (List.range n)[k]? with
  | none => simp
  | some i =>
    have := wr_lt l (a + 4 * i) 4
    simpa [wordR] using this
set_option maxRecDepth 100000 in
set_option maxHeartbeats 4000000 in
theorem compressR_calls (base0 g0 cap0 : Nat) (st : List Nat) (l : List UInt8) (a : Nat) (w : World) (hst : w.ownsRow base0 60 1 (.slice (some ⟨g0, 0, none⟩) 8 cap0) 8 (cells32 st)) (hl : l.length ≤ 4611686018427387000) (ha : a ≤ l.length) (hh : st.length = 8) (hm : M32 st) :
    Calls Tryd.prog 56 #[.slice (some ⟨g0, 0, none⟩) 8 cap0, .string ⟨l.toArray⟩, .int .i64 a] w fun e w' => ∃ v, e = .returned v ∧ w'.ownsRow w.heap.size 60 1 v 8 (cells32 (compS st (wordsR l a 16) (endR l a) (decide (endR l a = l.length)))) ∧ Below w.heap.size w w' := by
  have hsz := str_size l
  have Hhst := Lib.hid hst
  clear hst
  have Hhh := Lib.hid hh
  clear hh
  go_enter Tryd.func56, Tryd.ntmps56
  go_wp2_with fail
  go_loopw [7, 8] (fun s7 s8 wr => ∃ i : Nat, i ≤ 16 ∧ s8 = .int .i64 i ∧ wr.ownsRow w.heap.size 60 1 s7 i (cells32 (wordsR l a i)) ∧ Below w.heap.size w wr) (fun _ s8 _ => 16 - (intOf s8).toNat)
  case atStart => exact ⟨0, by omega, rfl, World.ownsRow_nil _ _ _ _, Below.refl _ _⟩
  case round =>
    obtain ⟨i, hi, rfl, hown, hB⟩ := hrel
    have hs := hB.size
    by_cases hil : i < 16
    · have hwc := word_calls l (a + 4 * i)
      have hnew : wordsR l a (i + 1) = wordsR l a i ++ [wordR l (a + 4 * i)] := by simp [wordsR, List.range_succ]
      have e4 : (a : Int) + 4 * (i : Int) = ((a + 4 * i : Nat) : Int) := by omega
      obtain ⟨p, hp⟩ : ∃ p, p = a + 4 * i := ⟨_, rfl⟩
      obtain ⟨y, hy⟩ : ∃ y, y = wordR l (a + 4 * i) := ⟨_, rfl⟩
      rw [← hp] at hwc e4
      rw [← hy] at hnew
      have hwc2 : ∀ wx, Calls Tryd.prog 67 #[.string ⟨l.toArray⟩, .int .i64 p] wx fun e w' => e = .returned (.int .u32 (y : Nat)) ∧ wx = w' := fun wx => by
        have := hwc wx (by omega) (by omega)
        rw [hp] at this ⊢; rw [hy]; exact this
      have hb4 : (a : Int) + 4 * (i : Int) ≤ 9223372036854775807 := by omega
      clear hwc
      have Hhown := Lib.hid hown
      clear hown
      have HhB := Lib.hid hB
      clear hB
      have Hhnew := Lib.hid hnew
      clear hnew
      have Hhp := Lib.hid hp
      clear hp
      have Hhy := Lib.hid hy
      clear hy
      have Hhwc2 := Lib.hid hwc2
      clear hwc2
      have He4 := Lib.hid e4
      clear e4
      go_wp2_with fail
      rw [He4.out]
      refine (Hhwc2.out wr).mono ?_
      rintro e w1 ⟨rfl, rfl⟩
      go_wp2_with (at_builtin; refine append_word rfl _ _ rfl w.heap.size u7 i (wordsR l a i) rfl (Hhown.out.alloc _) wr.heap.size y rfl (by simp) (by omega) (by simp; omega) ?_; intro v5 w5 hown5 hg5 hB5)
      exact ⟨⟨i + 1, by omega, by go_num, by rw [Hhnew.out]; exact hown5, (Below.alloc HhB.out hs _).trans hB5⟩, by simp [intOf]; omega⟩
    · obtain rfl : i = 16 := by omega
      rw [show ((16 : Nat) : Int) = 16 from rfl]
      obtain ⟨gm, capm, rfl, hgm1, hgm2, hgm3⟩ := own_words_open hown (by omega)
      obtain ⟨M, hM⟩ : ∃ M, M = wordsR l a 16 := ⟨_, rfl⟩
      rw [← hM] at hown
      have hMl : M.length = 16 := by rw [hM]; simp [wordsR]
      have hMm : M32 M := by
        rw [hM]; exact wordsR_m l a 16
      obtain ⟨wo, hwo⟩ : ∃ wo : World, wo = wr := ⟨_, rfl⟩
      subst hwo
      have hu0 : ∀ wx, Below wo.heap.size wo wx → ∀ j, j < 8 → wx.cell? ⟨g0, j, none⟩ = some (.int .u32 (nt st j : Nat)) := fun wx hx j hj => own_word_at (ownsRow_below (ownsRow_below Hhst.out hB (Nat.le_refl _)) hx (Nat.le_refl _)) Hhh.out hj
      have Hhown := Lib.hid hown
      clear hown
      have HhB := Lib.hid hB
      clear hB
      have HhM := Lib.hid hM
      clear hM
      have HhMl := Lib.hid hMl
      clear hMl
      have HhMm := Lib.hid hMm
      clear hMm
      have Hhu0 := Lib.hid hu0
      clear hu0
      go_wp2_with (first | (at_builtin; refine append_words rfl _ _ rfl wo.heap.size (.slice (some ⟨wo.heap.size, 0, none⟩) 0 0) 0 [] rfl (World.ownsRow_lit wo #[] 0 (Nat.le_refl _) (by decide) rfl) g0 8 cap0 st rfl Hhh.out (Hhu0.out _ (Below.alloc (Below.refl _ _) (Nat.le_refl _) _)) (by omega) (by simp) ?_; intro v5 w5 hown5 hg5 hB5))
      have hz5 : wo.heap.size ≤ w5.heap.size := by have := hB5.size; rw [World.size_alloc] at this; omega
      have hbel5 : Below wo.heap.size wo w5 := (Below.alloc (Below.refl _ _) (Nat.le_refl _) _).trans hB5
      rw [Nat.zero_add, List.nil_append] at hown5
      clear hg5 hB5
      have Hhown5 := Lib.hid hown5
      clear hown5
      have Hhbel5 := Lib.hid hbel5
      clear hbel5
      refine (constants_calls w5).mono ?_
      rintro e w6 ⟨rfl, hcon, hB6⟩
      have hown6 := ownsRow_below Hhown5.out hB6 (Nat.le_refl _)
      have hcc : ∀ j, j < 8 → w6.cell? ⟨w5.heap.size, j, none⟩ = some (.int .u32 (nt firstS j : Nat)) := fun j hj => own_word_at hcon rfl hj
      have hz6 := hB6.size
      have hbel6 := Hhbel5.out.trans (hB6.mono hz5)
      clear hB6 hcon
      obtain ⟨v0, hv0⟩ : ∃ v0, v0 = st ++ firstS := ⟨_, rfl⟩
      have hl0 : v0.length = 16 := by rw [hv0]; simp [Hhh.out, firstS]
      have hM0 : M32 v0 := by rw [hv0]; exact app_m hm firstS_m
      obtain ⟨n, hn⟩ : ∃ n, n = endR l a := ⟨_, rfl⟩
      have hnb : n ≤ 4611686018427387904 := by rw [hn]; unfold endR; omega
      have hmin : min ((a : Int) + 64) (l.length : Int) = (n : Int) := by rw [hn]; unfold endR; omega
      obtain ⟨a12, ha12⟩ : ∃ a, a = nt v0 12 := ⟨_, rfl⟩
      obtain ⟨a13, ha13⟩ : ∃ a, a = nt v0 13 := ⟨_, rfl⟩
      obtain ⟨a14, ha14⟩ : ∃ a, a = nt v0 14 := ⟨_, rfl⟩
      have l14 : (a14 : Int) ≤ 4294967295 := by have := hM0 14; omega
      obtain ⟨n2, hn2e⟩ : ∃ n2, n2 = n / 4294967296 := ⟨_, rfl⟩
      have hn2 : (n : Int) / 4294967296 = (n2 : Int) := by omega
      obtain ⟨z12, hz12⟩ : ∃ z, z = a12 ^^^ n % 4294967296 := ⟨_, rfl⟩
      obtain ⟨z13, hz13⟩ : ∃ z, z = a13 ^^^ n2 := ⟨_, rfl⟩
      obtain ⟨z14, hz14⟩ : ∃ z, z = 4294967295 - a14 := ⟨_, rfl⟩
      have e12 : bits .xor .u32 (a12 : Int) ((n : Int) % 4294967296) = (z12 : Int) := by
        rw [show (n : Int) % 4294967296 = ((n % 4294967296 : Nat) : Int) by rw [Int.natCast_emod]; rfl, u32_xor_nat _ _ (by rw [ha12]; exact hM0 12) (Nat.mod_lt _ (by omega)), hz12]
      have e13 : bits .xor .u32 (a13 : Int) (n2 : Int) = (z13 : Int) := by
        rw [u32_xor_nat _ _ (by rw [ha13]; exact hM0 13) (by omega), hz13]
      have e14 : (4294967295 : Int) - (a14 : Int) = (z14 : Int) := by omega
      have Hhown6 := Lib.hid hown6
      clear hown6
      have Hhbel6 := Lib.hid hbel6
      clear hbel6
      have Hhcc := Lib.hid hcc
      clear hcc
      have Hhv0 := Lib.hid hv0
      clear hv0
      have Hhl0 := Lib.hid hl0
      clear hl0
      have HhM0 := Lib.hid hM0
      clear hM0
      have Hhn := Lib.hid hn
      clear hn
      have Hha12 := Lib.hid ha12
      clear ha12
      have Hha13 := Lib.hid ha13
      clear ha13
      have Hha14 := Lib.hid ha14
      clear ha14
      have Hhn2e := Lib.hid hn2e
      clear hn2e
      have Hhz12 := Lib.hid hz12
      clear hz12
      have Hhz13 := Lib.hid hz13
      clear hz13
      have Hhz14 := Lib.hid hz14
      clear hz14
      by_cases hlast : n = l.length
      · have hl2 : ((n : Int) == (l.length : Int)) = true := by simp [hlast]
        have hdec : decide (endR l a = l.length) = true := by rw [← Hhn.out]; simp [hlast]
        have Hhdec := Lib.hid hdec
        clear hdec
        have Hhlast := Lib.hid hlast
        clear hlast
        go_wp2_with (first | (at_builtin; refine append_words rfl _ _ rfl wo.heap.size v5 8 st rfl Hhown6.out w5.heap.size 8 8 firstS rfl rfl Hhcc.out (by omega) (by omega) ?_; intro v7 w7 hown7 hg7 hB7; rw [show 8 + 8 = 16 from rfl, ← Hhv0.out] at hown7; obtain ⟨g, cap, rfl, hgb, hgs, hgc⟩ := own_words_open hown7 (by omega); have c12 := own_word_at hown7 Hhl0.out (k := 12) (by omega); have c13 := own_word_at hown7 Hhl0.out (k := 13) (by omega); have c14 := own_word_at hown7 Hhl0.out (k := 14) (by omega); rw [← Hha12.out] at c12; rw [← Hha13.out] at c13; rw [← Hha14.out] at c14; have f12 := World.ownsRow.frozenAt hown7 12; have f13 := World.ownsRow.frozenAt hown7 13; have f14 := World.ownsRow.frozenAt hown7 14; have Hhown7 := Lib.hid hown7; clear hown7))
        generalize hW8 : World.setCell (World.setCell (World.setCell _ _ _) _ _) _ _ = w8
        obtain ⟨v3, hv3e⟩ : ∃ v3, v3 = startS st n true := ⟨_, rfl⟩
        have hx13 : nt v0 13 = nt (v0.set 12 z12) 13 := by rw [nt_set]; simp
        have hx14 : nt v0 14 = nt ((v0.set 12 z12).set 13 z13) 14 := by rw [nt_set, nt_set]; simp
        have e13S : v13S st n = (v0.set 12 z12).set 13 z13 := by
          rw [v13S, v12S, ← Hhv0.out, ← Hha12.out, ← Hhz12.out, ← hx13, ← Hha13.out, ← Hhn2e.out, Nat.mod_eq_of_lt (show n2 < 4294967296 by have := Hhn2e.out; omega), ← Hhz13.out]
        have ev3 : v3 = ((v0.set 12 z12).set 13 z13).set 14 z14 := by
          rw [hv3e, startS, if_pos rfl, e13S, ← hx14, ← Hha14.out, ← Hhz14.out]
        have hv8 : OwnW w8 wo.heap.size g cap v3 := by
          rw [ev3, ← hW8]; exact ((OwnW.store Hhown7.out 12 z12).store 13 z13).store 14 z14
        have hbel7 : Below wo.heap.size wo w7 := Hhbel6.out.trans hB7
        have hbel8 : Below wo.heap.size wo w8 := by rw [← hW8]; exact (by ((repeat' (first | exact Below.refl _ _ | (refine Below.alloc ?_ ?_ _) | (refine Below.setCell ?_ ?_ _) | (refine Below.drew ?_) | (refine Below.trans ?_ (Below.mono (by assumption) ?_)))) <;> ((try simp only [World.size_alloc, World.size_setCell, World.size_drew] at *); omega)))
        have hl3 : v3.length = 16 := by rw [hv3e]; exact startS_len _ _ _ Hhh.out
        have hM3 : M32 v3 := by rw [hv3e]; exact startS_m _ _ _ hm
        have hMat : ∀ wx, Below wo.heap.size wo wx → ∀ j, j < 16 → wx.cell? ⟨gm, j, none⟩ = some (.int .u32 (nt M j : Nat)) := fun wx hx j hj => own_word_at (ownsRow_below Hhown.out hx (Nat.le_refl _)) HhMl.out hj
        clear hW8 hx13 hx14 e13S ev3 c12 c13 c14 f12 f13 f14 e12 e13 e14 hn2 hB7 hbel7 hg7 hmin
        have hgmi : ∀ wx : World, True := fun _ => trivial
        have Hhv8 := Lib.hid hv8
        clear hv8
        have Hhbel8 := Lib.hid hbel8
        clear hbel8
        have Hhl3 := Lib.hid hl3
        clear hl3
        have HhM3 := Lib.hid hM3
        clear hM3
        have HhMat := Lib.hid hMat
        clear hMat
        have Hhv3e := Lib.hid hv3e
        clear hv3e
        clear hgmi
        go_loopw [11] (fun s11 wr => ∃ r : Nat, r ≤ 10 ∧ s11 = .int .i64 r ∧ OwnW wr wo.heap.size g cap (roundsK M v3 r) ∧ Below wo.heap.size wo wr ∧ g < wr.heap.size) (fun s11 _ => 10 - (intOf s11).toNat)
        case atStart => exact ⟨0, by omega, rfl, Hhv8.out, Hhbel8.out, (own_words_open Hhv8.out (by omega)).elim fun g' h => by obtain ⟨c', h1, h2, h3, h4⟩ := h; simp only [Value.slice.injEq, Option.some.injEq, Addr.mk.injEq, and_true, true_and] at h1; omega⟩
        case round =>
          obtain ⟨r, hr, rfl, hvr, hbr, hgr⟩ := hrel
          obtain ⟨u0, hue0⟩ : ∃ vr, vr = roundsK M v3 r := ⟨_, rfl⟩
          rw [← hue0] at hvr
          have hlu0 : u0.length = 16 := by rw [hue0, roundsK_len]; exact Hhl3.out
          have hmu0 : M32 u0 := by rw [hue0]; exact roundsK_m _ _ _ HhM3.out
          by_cases hrl : r < 10
          · have hoc := order_calls r wr hrl
            obtain ⟨z, hze⟩ : ∃ z, z = orderS r := ⟨_, rfl⟩
            rw [← hze] at hoc
            have hzl : z.length = 16 := by rw [hze]; exact orderS_len r
            have hzlt : ∀ k, nt z k < 16 := by rw [hze]; exact orderS_lt r
            have Hhvr := Lib.hid hvr
            clear hvr
            have Hhbr := Lib.hid hbr
            clear hbr
            have Hhue0 := Lib.hid hue0
            clear hue0
            have Hhlu0 := Lib.hid hlu0
            clear hlu0
            have Hhmu0 := Lib.hid hmu0
            clear hmu0
            have Hhoc := Lib.hid hoc
            clear hoc
            have Hhze := Lib.hid hze
            clear hze
            have Hhzl := Lib.hid hzl
            clear hzl
            have Hhzlt := Lib.hid hzlt
            clear hzlt
            go_wp2_with fail
            refine (Hhoc.out).mono ?_
            rintro e w9 ⟨rfl, hz9, hB9⟩
            obtain ⟨bz, hbz⟩ : ∃ b, b = wr.heap.size := ⟨_, rfl⟩
            rw [← hbz] at hz9 hgr ⊢
            have hB9' : Below wr.heap.size wr w9 := hB9
            have hV0 : OwnW w9 wo.heap.size g cap u0 := ownsRow_below Hhvr.out hB9' (Nat.le_refl _)
            have hb0 : Below wo.heap.size wo w9 := Hhbr.out.trans (hB9'.mono Hhbr.out.size)
            have hs0 : bz < w9.heap.size := (Array.getElem?_eq_some_iff.1 hz9).1
            clear hB9 hB9' hbz
            obtain ⟨W0, hW0⟩ : ∃ W0 : World, W0 = w9 := ⟨_, rfl⟩
            subst hW0
            have hZ0 := hz9
            clear hz9
            obtain ⟨p0, hp0⟩ : ∃ z0, z0 = nt z 0 := ⟨_, rfl⟩
            obtain ⟨q0, hq0⟩ : ∃ z1, z1 = nt z 1 := ⟨_, rfl⟩
            obtain ⟨x0, hx0⟩ : ∃ x, x = nt M p0 := ⟨_, rfl⟩
            obtain ⟨y0, hy0⟩ : ∃ x, x = nt M q0 := ⟨_, rfl⟩
            have cp0 : W0.cell? ⟨bz, 0, none⟩ = some (.int .i64 (p0 : Int)) := by rw [cell_of_row _ _ _ _ _ _ hZ0, ordC_at z 0 (by rw [Hhzl.out]; omega), hp0]
            have cq0 : W0.cell? ⟨bz, 1, none⟩ = some (.int .i64 (q0 : Int)) := by rw [cell_of_row _ _ _ _ _ _ hZ0, ordC_at z 1 (by rw [Hhzl.out]; omega), hq0]
            have lp0 : (p0 : Int) < 16 := by have := Hhzlt.out 0; omega
            have lq0 : (q0 : Int) < 16 := by have := Hhzlt.out 1; omega
            have cx0 := HhMat.out _ hb0 p0 (by omega)
            have cy0 := HhMat.out _ hb0 q0 (by omega)
            rw [← hx0] at cx0
            rw [← hy0] at cy0
            have hc0 : Calls Tryd.prog 69 #[.slice (some ⟨g, 0, none⟩) 16 cap, .int .i64 0, .int .i64 4, .int .i64 8, .int .i64 12, .int .u32 x0, .int .u32 y0] W0.drew fun e w' => e = .returned (.tuple #[]) ∧ OwnW w' wo.heap.size g cap (mixS u0 0 4 8 12 x0 y0) ∧ W0.drew.grownBy w' (some g) :=
              g_calls wo.heap.size g cap u0 0 4 8 12 x0 y0 W0.drew hV0.drew Hhlu0.out Hhmu0.out (by omega) (by omega) (by omega) (by omega) (by rw [hx0]; exact HhMm.out _) (by rw [hy0]; exact HhMm.out _)
            have Hhc0 := Lib.hid hc0
            clear hc0
            have HhV0 := Lib.hid hV0
            clear hV0
            have Hhb0 := Lib.hid hb0
            clear hb0
            have HhZ0 := Lib.hid hZ0
            clear hZ0
            have Hhp0 := Lib.hid hp0
            clear hp0
            have Hhq0 := Lib.hid hq0
            clear hq0
            have Hhx0 := Lib.hid hx0
            clear hx0
            have Hhy0 := Lib.hid hy0
            clear hy0
            go_wp2_with fail
            go_still_tail 13, (by kernel_rfl)
            go_wp2_with fail
            refine (Hhc0.out).mono ?_
            rintro e W1 ⟨rfl, hV1, hG1⟩
            replace hG1 : W0.grownBy W1 (some g) := grownBy_trans (grownBy_drew (grownBy_refl _ _)) hG1
            have hb1 : Below wo.heap.size wo W1 := Hhb0.out.trans (grownBy_below hG1 hgb Hhb0.out.size)
            have hs1 : bz < W1.heap.size := Nat.lt_of_lt_of_le hs0 hG1.size
            have hZ1 : W1.heap[bz]? = some (.cells (ordC z) 3 (0, 0)) := by rw [hG1.block bz hs0 (by intro e; have := Option.some.inj e; omega)]; exact HhZ0.out
            obtain ⟨u1, hue1⟩ : ∃ u, u = mixS u0 0 4 8 12 x0 y0 := ⟨_, rfl⟩
            rw [← hue1] at hV1
            have hlu1 : u1.length = 16 := by rw [hue1, mixS_len]; exact Hhlu0.out
            have hmu1 : M32 u1 := by rw [hue1]; exact mixS_m _ _ _ _ _ _ _ Hhmu0.out
            clear hG1 cp0 cq0 cx0 cy0
            have Hhue1 := Lib.hid hue1
            clear hue1
            have Hhlu1 := Lib.hid hlu1
            clear hlu1
            have Hhmu1 := Lib.hid hmu1
            clear hmu1
            obtain ⟨p1, hp1⟩ : ∃ z0, z0 = nt z 2 := ⟨_, rfl⟩
            obtain ⟨q1, hq1⟩ : ∃ z1, z1 = nt z 3 := ⟨_, rfl⟩
            obtain ⟨x1, hx1⟩ : ∃ x, x = nt M p1 := ⟨_, rfl⟩
            obtain ⟨y1, hy1⟩ : ∃ x, x = nt M q1 := ⟨_, rfl⟩
            have cp1 : W1.cell? ⟨bz, 2, none⟩ = some (.int .i64 (p1 : Int)) := by rw [cell_of_row _ _ _ _ _ _ hZ1, ordC_at z 2 (by rw [Hhzl.out]; omega), hp1]
            have cq1 : W1.cell? ⟨bz, 3, none⟩ = some (.int .i64 (q1 : Int)) := by rw [cell_of_row _ _ _ _ _ _ hZ1, ordC_at z 3 (by rw [Hhzl.out]; omega), hq1]
            have lp1 : (p1 : Int) < 16 := by have := Hhzlt.out 2; omega
            have lq1 : (q1 : Int) < 16 := by have := Hhzlt.out 3; omega
            have cx1 := HhMat.out _ hb1 p1 (by omega)
            have cy1 := HhMat.out _ hb1 q1 (by omega)
            rw [← hx1] at cx1
            rw [← hy1] at cy1
            have hc1 : Calls Tryd.prog 69 #[.slice (some ⟨g, 0, none⟩) 16 cap, .int .i64 1, .int .i64 5, .int .i64 9, .int .i64 13, .int .u32 x1, .int .u32 y1] W1.drew fun e w' => e = .returned (.tuple #[]) ∧ OwnW w' wo.heap.size g cap (mixS u1 1 5 9 13 x1 y1) ∧ W1.drew.grownBy w' (some g) :=
              g_calls wo.heap.size g cap u1 1 5 9 13 x1 y1 W1.drew hV1.drew Hhlu1.out Hhmu1.out (by omega) (by omega) (by omega) (by omega) (by rw [hx1]; exact HhMm.out _) (by rw [hy1]; exact HhMm.out _)
            have Hhc1 := Lib.hid hc1
            clear hc1
            have HhV1 := Lib.hid hV1
            clear hV1
            have Hhb1 := Lib.hid hb1
            clear hb1
            have HhZ1 := Lib.hid hZ1
            clear hZ1
            have Hhp1 := Lib.hid hp1
            clear hp1
            have Hhq1 := Lib.hid hq1
            clear hq1
            have Hhx1 := Lib.hid hx1
            clear hx1
            have Hhy1 := Lib.hid hy1
            clear hy1
            go_wp2_with fail
            go_still_tail 13, (by kernel_rfl)
            go_wp2_with fail
            refine (Hhc1.out).mono ?_
            rintro e W2 ⟨rfl, hV2, hG2⟩
            replace hG2 : W1.grownBy W2 (some g) := grownBy_trans (grownBy_drew (grownBy_refl _ _)) hG2
            have hb2 : Below wo.heap.size wo W2 := Hhb1.out.trans (grownBy_below hG2 hgb Hhb1.out.size)
            have hs2 : bz < W2.heap.size := Nat.lt_of_lt_of_le hs1 hG2.size
            have hZ2 : W2.heap[bz]? = some (.cells (ordC z) 3 (0, 0)) := by rw [hG2.block bz hs1 (by intro e; have := Option.some.inj e; omega)]; exact HhZ1.out
            obtain ⟨u2, hue2⟩ : ∃ u, u = mixS u1 1 5 9 13 x1 y1 := ⟨_, rfl⟩
            rw [← hue2] at hV2
            have hlu2 : u2.length = 16 := by rw [hue2, mixS_len]; exact Hhlu1.out
            have hmu2 : M32 u2 := by rw [hue2]; exact mixS_m _ _ _ _ _ _ _ Hhmu1.out
            clear hG2 cp1 cq1 cx1 cy1
            have Hhue2 := Lib.hid hue2
            clear hue2
            have Hhlu2 := Lib.hid hlu2
            clear hlu2
            have Hhmu2 := Lib.hid hmu2
            clear hmu2
            obtain ⟨p2, hp2⟩ : ∃ z0, z0 = nt z 4 := ⟨_, rfl⟩
            obtain ⟨q2, hq2⟩ : ∃ z1, z1 = nt z 5 := ⟨_, rfl⟩
            obtain ⟨x2, hx2⟩ : ∃ x, x = nt M p2 := ⟨_, rfl⟩
            obtain ⟨y2, hy2⟩ : ∃ x, x = nt M q2 := ⟨_, rfl⟩
            have cp2 : W2.cell? ⟨bz, 4, none⟩ = some (.int .i64 (p2 : Int)) := by rw [cell_of_row _ _ _ _ _ _ hZ2, ordC_at z 4 (by rw [Hhzl.out]; omega), hp2]
            have cq2 : W2.cell? ⟨bz, 5, none⟩ = some (.int .i64 (q2 : Int)) := by rw [cell_of_row _ _ _ _ _ _ hZ2, ordC_at z 5 (by rw [Hhzl.out]; omega), hq2]
            have lp2 : (p2 : Int) < 16 := by have := Hhzlt.out 4; omega
            have lq2 : (q2 : Int) < 16 := by have := Hhzlt.out 5; omega
            have cx2 := HhMat.out _ hb2 p2 (by omega)
            have cy2 := HhMat.out _ hb2 q2 (by omega)
            rw [← hx2] at cx2
            rw [← hy2] at cy2
            have hc2 : Calls Tryd.prog 69 #[.slice (some ⟨g, 0, none⟩) 16 cap, .int .i64 2, .int .i64 6, .int .i64 10, .int .i64 14, .int .u32 x2, .int .u32 y2] W2.drew fun e w' => e = .returned (.tuple #[]) ∧ OwnW w' wo.heap.size g cap (mixS u2 2 6 10 14 x2 y2) ∧ W2.drew.grownBy w' (some g) :=
              g_calls wo.heap.size g cap u2 2 6 10 14 x2 y2 W2.drew hV2.drew Hhlu2.out Hhmu2.out (by omega) (by omega) (by omega) (by omega) (by rw [hx2]; exact HhMm.out _) (by rw [hy2]; exact HhMm.out _)
            have Hhc2 := Lib.hid hc2
            clear hc2
            have HhV2 := Lib.hid hV2
            clear hV2
            have Hhb2 := Lib.hid hb2
            clear hb2
            have HhZ2 := Lib.hid hZ2
            clear hZ2
            have Hhp2 := Lib.hid hp2
            clear hp2
            have Hhq2 := Lib.hid hq2
            clear hq2
            have Hhx2 := Lib.hid hx2
            clear hx2
            have Hhy2 := Lib.hid hy2
            clear hy2
            go_wp2_with fail
            go_still_tail 13, (by kernel_rfl)
            go_wp2_with fail
            refine (Hhc2.out).mono ?_
            rintro e W3 ⟨rfl, hV3, hG3⟩
            replace hG3 : W2.grownBy W3 (some g) := grownBy_trans (grownBy_drew (grownBy_refl _ _)) hG3
            have hb3 : Below wo.heap.size wo W3 := Hhb2.out.trans (grownBy_below hG3 hgb Hhb2.out.size)
            have hs3 : bz < W3.heap.size := Nat.lt_of_lt_of_le hs2 hG3.size
            have hZ3 : W3.heap[bz]? = some (.cells (ordC z) 3 (0, 0)) := by rw [hG3.block bz hs2 (by intro e; have := Option.some.inj e; omega)]; exact HhZ2.out
            obtain ⟨u3, hue3⟩ : ∃ u, u = mixS u2 2 6 10 14 x2 y2 := ⟨_, rfl⟩
            rw [← hue3] at hV3
            have hlu3 : u3.length = 16 := by rw [hue3, mixS_len]; exact Hhlu2.out
            have hmu3 : M32 u3 := by rw [hue3]; exact mixS_m _ _ _ _ _ _ _ Hhmu2.out
            clear hG3 cp2 cq2 cx2 cy2
            have Hhue3 := Lib.hid hue3
            clear hue3
            have Hhlu3 := Lib.hid hlu3
            clear hlu3
            have Hhmu3 := Lib.hid hmu3
            clear hmu3
            obtain ⟨p3, hp3⟩ : ∃ z0, z0 = nt z 6 := ⟨_, rfl⟩
            obtain ⟨q3, hq3⟩ : ∃ z1, z1 = nt z 7 := ⟨_, rfl⟩
            obtain ⟨x3, hx3⟩ : ∃ x, x = nt M p3 := ⟨_, rfl⟩
            obtain ⟨y3, hy3⟩ : ∃ x, x = nt M q3 := ⟨_, rfl⟩
            have cp3 : W3.cell? ⟨bz, 6, none⟩ = some (.int .i64 (p3 : Int)) := by rw [cell_of_row _ _ _ _ _ _ hZ3, ordC_at z 6 (by rw [Hhzl.out]; omega), hp3]
            have cq3 : W3.cell? ⟨bz, 7, none⟩ = some (.int .i64 (q3 : Int)) := by rw [cell_of_row _ _ _ _ _ _ hZ3, ordC_at z 7 (by rw [Hhzl.out]; omega), hq3]
            have lp3 : (p3 : Int) < 16 := by have := Hhzlt.out 6; omega
            have lq3 : (q3 : Int) < 16 := by have := Hhzlt.out 7; omega
            have cx3 := HhMat.out _ hb3 p3 (by omega)
            have cy3 := HhMat.out _ hb3 q3 (by omega)
            rw [← hx3] at cx3
            rw [← hy3] at cy3
            have hc3 : Calls Tryd.prog 69 #[.slice (some ⟨g, 0, none⟩) 16 cap, .int .i64 3, .int .i64 7, .int .i64 11, .int .i64 15, .int .u32 x3, .int .u32 y3] W3.drew fun e w' => e = .returned (.tuple #[]) ∧ OwnW w' wo.heap.size g cap (mixS u3 3 7 11 15 x3 y3) ∧ W3.drew.grownBy w' (some g) :=
              g_calls wo.heap.size g cap u3 3 7 11 15 x3 y3 W3.drew hV3.drew Hhlu3.out Hhmu3.out (by omega) (by omega) (by omega) (by omega) (by rw [hx3]; exact HhMm.out _) (by rw [hy3]; exact HhMm.out _)
            have Hhc3 := Lib.hid hc3
            clear hc3
            have HhV3 := Lib.hid hV3
            clear hV3
            have Hhb3 := Lib.hid hb3
            clear hb3
            have HhZ3 := Lib.hid hZ3
            clear hZ3
            have Hhp3 := Lib.hid hp3
            clear hp3
            have Hhq3 := Lib.hid hq3
            clear hq3
            have Hhx3 := Lib.hid hx3
            clear hx3
            have Hhy3 := Lib.hid hy3
            clear hy3
            go_wp2_with fail
            go_still_tail 13, (by kernel_rfl)
            go_wp2_with fail
            refine (Hhc3.out).mono ?_
            rintro e W4 ⟨rfl, hV4, hG4⟩
            replace hG4 : W3.grownBy W4 (some g) := grownBy_trans (grownBy_drew (grownBy_refl _ _)) hG4
            have hb4 : Below wo.heap.size wo W4 := Hhb3.out.trans (grownBy_below hG4 hgb Hhb3.out.size)
            have hs4 : bz < W4.heap.size := Nat.lt_of_lt_of_le hs3 hG4.size
            have hZ4 : W4.heap[bz]? = some (.cells (ordC z) 3 (0, 0)) := by rw [hG4.block bz hs3 (by intro e; have := Option.some.inj e; omega)]; exact HhZ3.out
            obtain ⟨u4, hue4⟩ : ∃ u, u = mixS u3 3 7 11 15 x3 y3 := ⟨_, rfl⟩
            rw [← hue4] at hV4
            have hlu4 : u4.length = 16 := by rw [hue4, mixS_len]; exact Hhlu3.out
            have hmu4 : M32 u4 := by rw [hue4]; exact mixS_m _ _ _ _ _ _ _ Hhmu3.out
            clear hG4 cp3 cq3 cx3 cy3
            have Hhue4 := Lib.hid hue4
            clear hue4
            have Hhlu4 := Lib.hid hlu4
            clear hlu4
            have Hhmu4 := Lib.hid hmu4
            clear hmu4
            obtain ⟨p4, hp4⟩ : ∃ z0, z0 = nt z 8 := ⟨_, rfl⟩
            obtain ⟨q4, hq4⟩ : ∃ z1, z1 = nt z 9 := ⟨_, rfl⟩
            obtain ⟨x4, hx4⟩ : ∃ x, x = nt M p4 := ⟨_, rfl⟩
            obtain ⟨y4, hy4⟩ : ∃ x, x = nt M q4 := ⟨_, rfl⟩
            have cp4 : W4.cell? ⟨bz, 8, none⟩ = some (.int .i64 (p4 : Int)) := by rw [cell_of_row _ _ _ _ _ _ hZ4, ordC_at z 8 (by rw [Hhzl.out]; omega), hp4]
            have cq4 : W4.cell? ⟨bz, 9, none⟩ = some (.int .i64 (q4 : Int)) := by rw [cell_of_row _ _ _ _ _ _ hZ4, ordC_at z 9 (by rw [Hhzl.out]; omega), hq4]
            have lp4 : (p4 : Int) < 16 := by have := Hhzlt.out 8; omega
            have lq4 : (q4 : Int) < 16 := by have := Hhzlt.out 9; omega
            have cx4 := HhMat.out _ hb4 p4 (by omega)
            have cy4 := HhMat.out _ hb4 q4 (by omega)
            rw [← hx4] at cx4
            rw [← hy4] at cy4
            have hc4 : Calls Tryd.prog 69 #[.slice (some ⟨g, 0, none⟩) 16 cap, .int .i64 0, .int .i64 5, .int .i64 10, .int .i64 15, .int .u32 x4, .int .u32 y4] W4.drew fun e w' => e = .returned (.tuple #[]) ∧ OwnW w' wo.heap.size g cap (mixS u4 0 5 10 15 x4 y4) ∧ W4.drew.grownBy w' (some g) :=
              g_calls wo.heap.size g cap u4 0 5 10 15 x4 y4 W4.drew hV4.drew Hhlu4.out Hhmu4.out (by omega) (by omega) (by omega) (by omega) (by rw [hx4]; exact HhMm.out _) (by rw [hy4]; exact HhMm.out _)
            have Hhc4 := Lib.hid hc4
            clear hc4
            have HhV4 := Lib.hid hV4
            clear hV4
            have Hhb4 := Lib.hid hb4
            clear hb4
            have HhZ4 := Lib.hid hZ4
            clear hZ4
            have Hhp4 := Lib.hid hp4
            clear hp4
            have Hhq4 := Lib.hid hq4
            clear hq4
            have Hhx4 := Lib.hid hx4
            clear hx4
            have Hhy4 := Lib.hid hy4
            clear hy4
            go_wp2_with fail
            go_still_tail 13, (by kernel_rfl)
            go_wp2_with fail
            refine (Hhc4.out).mono ?_
            rintro e W5 ⟨rfl, hV5, hG5⟩
            replace hG5 : W4.grownBy W5 (some g) := grownBy_trans (grownBy_drew (grownBy_refl _ _)) hG5
            have hb5 : Below wo.heap.size wo W5 := Hhb4.out.trans (grownBy_below hG5 hgb Hhb4.out.size)
            have hs5 : bz < W5.heap.size := Nat.lt_of_lt_of_le hs4 hG5.size
            have hZ5 : W5.heap[bz]? = some (.cells (ordC z) 3 (0, 0)) := by rw [hG5.block bz hs4 (by intro e; have := Option.some.inj e; omega)]; exact HhZ4.out
            obtain ⟨u5, hue5⟩ : ∃ u, u = mixS u4 0 5 10 15 x4 y4 := ⟨_, rfl⟩
            rw [← hue5] at hV5
            have hlu5 : u5.length = 16 := by rw [hue5, mixS_len]; exact Hhlu4.out
            have hmu5 : M32 u5 := by rw [hue5]; exact mixS_m _ _ _ _ _ _ _ Hhmu4.out
            clear hG5 cp4 cq4 cx4 cy4
            have Hhue5 := Lib.hid hue5
            clear hue5
            have Hhlu5 := Lib.hid hlu5
            clear hlu5
            have Hhmu5 := Lib.hid hmu5
            clear hmu5
            obtain ⟨p5, hp5⟩ : ∃ z0, z0 = nt z 10 := ⟨_, rfl⟩
            obtain ⟨q5, hq5⟩ : ∃ z1, z1 = nt z 11 := ⟨_, rfl⟩
            obtain ⟨x5, hx5⟩ : ∃ x, x = nt M p5 := ⟨_, rfl⟩
            obtain ⟨y5, hy5⟩ : ∃ x, x = nt M q5 := ⟨_, rfl⟩
            have cp5 : W5.cell? ⟨bz, 10, none⟩ = some (.int .i64 (p5 : Int)) := by rw [cell_of_row _ _ _ _ _ _ hZ5, ordC_at z 10 (by rw [Hhzl.out]; omega), hp5]
            have cq5 : W5.cell? ⟨bz, 11, none⟩ = some (.int .i64 (q5 : Int)) := by rw [cell_of_row _ _ _ _ _ _ hZ5, ordC_at z 11 (by rw [Hhzl.out]; omega), hq5]
            have lp5 : (p5 : Int) < 16 := by have := Hhzlt.out 10; omega
            have lq5 : (q5 : Int) < 16 := by have := Hhzlt.out 11; omega
            have cx5 := HhMat.out _ hb5 p5 (by omega)
            have cy5 := HhMat.out _ hb5 q5 (by omega)
            rw [← hx5] at cx5
            rw [← hy5] at cy5
            have hc5 : Calls Tryd.prog 69 #[.slice (some ⟨g, 0, none⟩) 16 cap, .int .i64 1, .int .i64 6, .int .i64 11, .int .i64 12, .int .u32 x5, .int .u32 y5] W5.drew fun e w' => e = .returned (.tuple #[]) ∧ OwnW w' wo.heap.size g cap (mixS u5 1 6 11 12 x5 y5) ∧ W5.drew.grownBy w' (some g) :=
              g_calls wo.heap.size g cap u5 1 6 11 12 x5 y5 W5.drew hV5.drew Hhlu5.out Hhmu5.out (by omega) (by omega) (by omega) (by omega) (by rw [hx5]; exact HhMm.out _) (by rw [hy5]; exact HhMm.out _)
            have Hhc5 := Lib.hid hc5
            clear hc5
            have HhV5 := Lib.hid hV5
            clear hV5
            have Hhb5 := Lib.hid hb5
            clear hb5
            have HhZ5 := Lib.hid hZ5
            clear hZ5
            have Hhp5 := Lib.hid hp5
            clear hp5
            have Hhq5 := Lib.hid hq5
            clear hq5
            have Hhx5 := Lib.hid hx5
            clear hx5
            have Hhy5 := Lib.hid hy5
            clear hy5
            go_wp2_with fail
            go_still_tail 13, (by kernel_rfl)
            go_wp2_with fail
            refine (Hhc5.out).mono ?_
            rintro e W6 ⟨rfl, hV6, hG6⟩
            replace hG6 : W5.grownBy W6 (some g) := grownBy_trans (grownBy_drew (grownBy_refl _ _)) hG6
            have hb6 : Below wo.heap.size wo W6 := Hhb5.out.trans (grownBy_below hG6 hgb Hhb5.out.size)
            have hs6 : bz < W6.heap.size := Nat.lt_of_lt_of_le hs5 hG6.size
            have hZ6 : W6.heap[bz]? = some (.cells (ordC z) 3 (0, 0)) := by rw [hG6.block bz hs5 (by intro e; have := Option.some.inj e; omega)]; exact HhZ5.out
            obtain ⟨u6, hue6⟩ : ∃ u, u = mixS u5 1 6 11 12 x5 y5 := ⟨_, rfl⟩
            rw [← hue6] at hV6
            have hlu6 : u6.length = 16 := by rw [hue6, mixS_len]; exact Hhlu5.out
            have hmu6 : M32 u6 := by rw [hue6]; exact mixS_m _ _ _ _ _ _ _ Hhmu5.out
            clear hG6 cp5 cq5 cx5 cy5
            have Hhue6 := Lib.hid hue6
            clear hue6
            have Hhlu6 := Lib.hid hlu6
            clear hlu6
            have Hhmu6 := Lib.hid hmu6
            clear hmu6
            obtain ⟨p6, hp6⟩ : ∃ z0, z0 = nt z 12 := ⟨_, rfl⟩
            obtain ⟨q6, hq6⟩ : ∃ z1, z1 = nt z 13 := ⟨_, rfl⟩
            obtain ⟨x6, hx6⟩ : ∃ x, x = nt M p6 := ⟨_, rfl⟩
            obtain ⟨y6, hy6⟩ : ∃ x, x = nt M q6 := ⟨_, rfl⟩
            have cp6 : W6.cell? ⟨bz, 12, none⟩ = some (.int .i64 (p6 : Int)) := by rw [cell_of_row _ _ _ _ _ _ hZ6, ordC_at z 12 (by rw [Hhzl.out]; omega), hp6]
            have cq6 : W6.cell? ⟨bz, 13, none⟩ = some (.int .i64 (q6 : Int)) := by rw [cell_of_row _ _ _ _ _ _ hZ6, ordC_at z 13 (by rw [Hhzl.out]; omega), hq6]
            have lp6 : (p6 : Int) < 16 := by have := Hhzlt.out 12; omega
            have lq6 : (q6 : Int) < 16 := by have := Hhzlt.out 13; omega
            have cx6 := HhMat.out _ hb6 p6 (by omega)
            have cy6 := HhMat.out _ hb6 q6 (by omega)
            rw [← hx6] at cx6
            rw [← hy6] at cy6
            have hc6 : Calls Tryd.prog 69 #[.slice (some ⟨g, 0, none⟩) 16 cap, .int .i64 2, .int .i64 7, .int .i64 8, .int .i64 13, .int .u32 x6, .int .u32 y6] W6.drew fun e w' => e = .returned (.tuple #[]) ∧ OwnW w' wo.heap.size g cap (mixS u6 2 7 8 13 x6 y6) ∧ W6.drew.grownBy w' (some g) :=
              g_calls wo.heap.size g cap u6 2 7 8 13 x6 y6 W6.drew hV6.drew Hhlu6.out Hhmu6.out (by omega) (by omega) (by omega) (by omega) (by rw [hx6]; exact HhMm.out _) (by rw [hy6]; exact HhMm.out _)
            have Hhc6 := Lib.hid hc6
            clear hc6
            have HhV6 := Lib.hid hV6
            clear hV6
            have Hhb6 := Lib.hid hb6
            clear hb6
            have HhZ6 := Lib.hid hZ6
            clear hZ6
            have Hhp6 := Lib.hid hp6
            clear hp6
            have Hhq6 := Lib.hid hq6
            clear hq6
            have Hhx6 := Lib.hid hx6
            clear hx6
            have Hhy6 := Lib.hid hy6
            clear hy6
            go_wp2_with fail
            go_still_tail 13, (by kernel_rfl)
            go_wp2_with fail
            refine (Hhc6.out).mono ?_
            rintro e W7 ⟨rfl, hV7, hG7⟩
            replace hG7 : W6.grownBy W7 (some g) := grownBy_trans (grownBy_drew (grownBy_refl _ _)) hG7
            have hb7 : Below wo.heap.size wo W7 := Hhb6.out.trans (grownBy_below hG7 hgb Hhb6.out.size)
            have hs7 : bz < W7.heap.size := Nat.lt_of_lt_of_le hs6 hG7.size
            have hZ7 : W7.heap[bz]? = some (.cells (ordC z) 3 (0, 0)) := by rw [hG7.block bz hs6 (by intro e; have := Option.some.inj e; omega)]; exact HhZ6.out
            obtain ⟨u7, hue7⟩ : ∃ u, u = mixS u6 2 7 8 13 x6 y6 := ⟨_, rfl⟩
            rw [← hue7] at hV7
            have hlu7 : u7.length = 16 := by rw [hue7, mixS_len]; exact Hhlu6.out
            have hmu7 : M32 u7 := by rw [hue7]; exact mixS_m _ _ _ _ _ _ _ Hhmu6.out
            clear hG7 cp6 cq6 cx6 cy6
            have Hhue7 := Lib.hid hue7
            clear hue7
            have Hhlu7 := Lib.hid hlu7
            clear hlu7
            have Hhmu7 := Lib.hid hmu7
            clear hmu7
            obtain ⟨p7, hp7⟩ : ∃ z0, z0 = nt z 14 := ⟨_, rfl⟩
            obtain ⟨q7, hq7⟩ : ∃ z1, z1 = nt z 15 := ⟨_, rfl⟩
            obtain ⟨x7, hx7⟩ : ∃ x, x = nt M p7 := ⟨_, rfl⟩
            obtain ⟨y7, hy7⟩ : ∃ x, x = nt M q7 := ⟨_, rfl⟩
            have cp7 : W7.cell? ⟨bz, 14, none⟩ = some (.int .i64 (p7 : Int)) := by rw [cell_of_row _ _ _ _ _ _ hZ7, ordC_at z 14 (by rw [Hhzl.out]; omega), hp7]
            have cq7 : W7.cell? ⟨bz, 15, none⟩ = some (.int .i64 (q7 : Int)) := by rw [cell_of_row _ _ _ _ _ _ hZ7, ordC_at z 15 (by rw [Hhzl.out]; omega), hq7]
            have lp7 : (p7 : Int) < 16 := by have := Hhzlt.out 14; omega
            have lq7 : (q7 : Int) < 16 := by have := Hhzlt.out 15; omega
            have cx7 := HhMat.out _ hb7 p7 (by omega)
            have cy7 := HhMat.out _ hb7 q7 (by omega)
            rw [← hx7] at cx7
            rw [← hy7] at cy7
            have hc7 : Calls Tryd.prog 69 #[.slice (some ⟨g, 0, none⟩) 16 cap, .int .i64 3, .int .i64 4, .int .i64 9, .int .i64 14, .int .u32 x7, .int .u32 y7] W7.drew fun e w' => e = .returned (.tuple #[]) ∧ OwnW w' wo.heap.size g cap (mixS u7 3 4 9 14 x7 y7) ∧ W7.drew.grownBy w' (some g) :=
              g_calls wo.heap.size g cap u7 3 4 9 14 x7 y7 W7.drew hV7.drew Hhlu7.out Hhmu7.out (by omega) (by omega) (by omega) (by omega) (by rw [hx7]; exact HhMm.out _) (by rw [hy7]; exact HhMm.out _)
            have Hhc7 := Lib.hid hc7
            clear hc7
            have HhV7 := Lib.hid hV7
            clear hV7
            have Hhb7 := Lib.hid hb7
            clear hb7
            have HhZ7 := Lib.hid hZ7
            clear hZ7
            have Hhp7 := Lib.hid hp7
            clear hp7
            have Hhq7 := Lib.hid hq7
            clear hq7
            have Hhx7 := Lib.hid hx7
            clear hx7
            have Hhy7 := Lib.hid hy7
            clear hy7
            go_wp2_with fail
            go_still_tail 13, (by kernel_rfl)
            go_wp2_with fail
            refine (Hhc7.out).mono ?_
            rintro e W8 ⟨rfl, hV8, hG8⟩
            replace hG8 : W7.grownBy W8 (some g) := grownBy_trans (grownBy_drew (grownBy_refl _ _)) hG8
            have hb8 : Below wo.heap.size wo W8 := Hhb7.out.trans (grownBy_below hG8 hgb Hhb7.out.size)
            have hs8 : bz < W8.heap.size := Nat.lt_of_lt_of_le hs7 hG8.size
            have hZ8 : W8.heap[bz]? = some (.cells (ordC z) 3 (0, 0)) := by rw [hG8.block bz hs7 (by intro e; have := Option.some.inj e; omega)]; exact HhZ7.out
            obtain ⟨u8, hue8⟩ : ∃ u, u = mixS u7 3 4 9 14 x7 y7 := ⟨_, rfl⟩
            rw [← hue8] at hV8
            have hlu8 : u8.length = 16 := by rw [hue8, mixS_len]; exact Hhlu7.out
            have hmu8 : M32 u8 := by rw [hue8]; exact mixS_m _ _ _ _ _ _ _ Hhmu7.out
            clear hG8 cp7 cq7 cx7 cy7
            have Hhue8 := Lib.hid hue8
            clear hue8
            have Hhlu8 := Lib.hid hlu8
            clear hlu8
            have Hhmu8 := Lib.hid hmu8
            clear hmu8
            have hue : u8 = roundsK M v3 (r + 1) := by
              rw [Hhue8.out, Hhue7.out, Hhue6.out, Hhue5.out, Hhue4.out, Hhue3.out, Hhue2.out, Hhue1.out, Hhx0.out, Hhx1.out, Hhx2.out, Hhx3.out, Hhx4.out, Hhx5.out, Hhx6.out, Hhx7.out, Hhy0.out, Hhy1.out, Hhy2.out, Hhy3.out, Hhy4.out, Hhy5.out, Hhy6.out, Hhy7.out, Hhp0.out, Hhp1.out, Hhp2.out, Hhp3.out, Hhp4.out, Hhp5.out, Hhp6.out, Hhp7.out, Hhq0.out, Hhq1.out, Hhq2.out, Hhq3.out, Hhq4.out, Hhq5.out, Hhq6.out, Hhq7.out, roundsK, ← Hhze.out, ← Hhue0.out]
              rfl
            have Hhue := Lib.hid hue
            clear hue
            have HhV8 := Lib.hid hV8
            clear hV8
            have Hhb8 := Lib.hid hb8
            clear hb8
            have HhZ8 := Lib.hid hZ8
            clear hZ8
            go_wp2_with fail
            exact ⟨⟨r + 1, by omega, by go_num, by rw [← Hhue.out]; exact HhV8.out, Hhb8.out, by omega⟩, by simp [intOf]; omega⟩
          · obtain rfl : r = 10 := by omega
            rw [show ((10 : Nat) : Int) = 10 from rfl]
            obtain ⟨wz, hwz⟩ : ∃ wz : World, wz = wr := ⟨_, rfl⟩
            subst hwz
            have hSt : ∀ wx, Below wz.heap.size wz wx → ∀ j, j < 8 → wx.cell? ⟨g0, j, none⟩ = some (.int .u32 (nt st j : Nat)) := fun wx hx => Hhu0.out _ (hbr.trans (hx.mono hbr.size))
            have hVt : ∀ wx, Below wz.heap.size wz wx → ∀ j, j < 16 → wx.cell? ⟨g, j, none⟩ = some (.int .u32 (nt u0 j : Nat)) := fun wx hx j hj => own_word_at (ownsRow_below hvr hx (Nat.le_refl _)) hlu0 hj
            have hfin : ∀ (wx : World) (v : Value), wx.ownsRow wz.heap.size 60 1 v 8 (cells32 (outL st u0 8)) → Below wz.heap.size wz wx → wx.ownsRow w.heap.size 60 1 v 8 (cells32 (compS st (wordsR l a 16) (endR l a) (decide (endR l a = l.length)))) ∧ Below w.heap.size w wx := fun wx v h1 h2 => by
              have e : compS st (wordsR l a 16) (endR l a) (decide (endR l a = l.length)) = outL st u0 8 := by
                rw [Hhdec.out, ← Hhn.out, ← HhM.out, compS, ← Hhv3e.out, ← hue0, outL_eq _ _ Hhh.out]
              rw [e]
              exact ⟨ownsRow_base h1 (by have := hbr.size; omega), (HhB.out.trans (hbr.mono hs)).trans (h2.mono (by have := hbr.size; omega))⟩
            have Hhvr := Lib.hid hvr
            clear hvr
            have Hhbr := Lib.hid hbr
            clear hbr
            have Hhue0 := Lib.hid hue0
            clear hue0
            have Hhlu0 := Lib.hid hlu0
            clear hlu0
            have Hhmu0 := Lib.hid hmu0
            clear hmu0
            have HhSt := Lib.hid hSt
            clear hSt
            have HhVt := Lib.hid hVt
            clear hVt
            have Hhfin := Lib.hid hfin
            clear hfin
            go_wp2_with fail
            go_loopw [13, 14] (fun s13 s14 wr => ∃ i : Nat, i ≤ 8 ∧ s14 = .int .i64 i ∧ wr.ownsRow wz.heap.size 60 1 s13 i (cells32 (outL st u0 i)) ∧ Below wz.heap.size wz wr) (fun _ s14 _ => 8 - (intOf s14).toNat)
            case atStart => exact ⟨0, by omega, rfl, World.ownsRow_nil _ _ _ _, Below.refl _ _⟩
            case round =>
              obtain ⟨i, hi, rfl, hown, hB⟩ := hrel
              have hsz1 := hB.size
              by_cases hil : i < 8
              · obtain ⟨j, hj⟩ : ∃ j, j = i + 8 := ⟨_, rfl⟩
                have cs := HhSt.out wr hB i hil
                have ca := HhVt.out wr hB i (by omega)
                have cb := HhVt.out wr hB j (by omega)
                obtain ⟨x, hx⟩ : ∃ x, x = nt st i := ⟨_, rfl⟩
                obtain ⟨y, hy⟩ : ∃ x, x = nt u0 i := ⟨_, rfl⟩
                obtain ⟨z, hz⟩ : ∃ x, x = nt u0 j := ⟨_, rfl⟩
                have hx1 : x < 4294967296 := by rw [hx]; exact hm _
                have hy1 : y < 4294967296 := by rw [hy]; exact Hhmu0.out _
                have hz1 : z < 4294967296 := by rw [hz]; exact Hhmu0.out _
                rw [← hx] at cs
                rw [← hy] at ca
                rw [← hz] at cb
                obtain ⟨xy, hxy⟩ : ∃ t, t = x ^^^ y := ⟨_, rfl⟩
                obtain ⟨t, ht⟩ : ∃ t, t = xy ^^^ z := ⟨_, rfl⟩
                have hxy1 : xy < 4294967296 := by rw [hxy]; exact xor_lt32 hx1 hy1
                have e1 : bits .xor .u32 (x : Int) (y : Int) = (xy : Int) := by rw [u32_xor_nat _ _ hx1 hy1, hxy]
                have e2 : bits .xor .u32 (xy : Int) (z : Int) = (t : Int) := by rw [u32_xor_nat _ _ hxy1 hz1, ht]
                have hnew : outL st u0 (i + 1) = outL st u0 i ++ [t] := by rw [ht, hxy, hx, hy, hz, hj]; simp [outL, List.range_succ]
                have b8 : IntKind.i64.wrap ((i : Int) + 8) = (j : Int) := (IntWalk.i64_in _ (by omega)).trans (by omega)
                have hil' : (i : Int) < 8 := by omega
                have hil2 : (i : Int) < 16 := by omega
                have hjl : (j : Int) < 16 := by omega
                have hL : ∀ wy, Below wz.heap.size wz wy → wy.cell? ⟨g0, i, none⟩ = some (.int .u32 (x : Nat)) ∧ wy.cell? ⟨g, i, none⟩ = some (.int .u32 (y : Nat)) ∧ wy.cell? ⟨g, j, none⟩ = some (.int .u32 (z : Nat)) := fun wy hy' => ⟨by rw [hx]; exact HhSt.out wy hy' i hil, by rw [hy]; exact HhVt.out wy hy' i (by omega), by rw [hz]; exact HhVt.out wy hy' j (by omega)⟩
                clear cs ca cb
                have Hhown := Lib.hid hown
                clear hown
                have HhB := Lib.hid hB
                clear hB
                have Hhx := Lib.hid hx
                clear hx
                have Hhy := Lib.hid hy
                clear hy
                have Hhz := Lib.hid hz
                clear hz
                have Hhxy := Lib.hid hxy
                clear hxy
                have Hht := Lib.hid ht
                clear ht
                have Hhnew := Lib.hid hnew
                clear hnew
                have Hhj := Lib.hid hj
                clear hj
                have HhL := Lib.hid hL
                clear hL
                go_wp2_with fail
                refine wp_region_held_drew (S := (fun w' => Below wz.heap.size wz w')) (by kernel_rfl) ?hs0 (fun hHeld => ?rest0)
                case hs0 => exact HhB.out.drew
                case rest0 =>
                  refine wpAnyH_take (i := 0) (v := ?_) rfl (by kernel_rfl) (by kernel_rfl) (by kernel_rfl) (fun _ _ _ h => h) (Or.inl ⟨by rfl, fun wy hSw => ?_⟩) (by assumption) ?_
                  rotate_left 1
                  · obtain ⟨cs, ca, cb⟩ := HhL.out wy hSw
                    clear hSw
                    go_simp
                    try with_reducible rfl
                  try simp only [List.getElem_toArray, List.getElem_cons_zero, List.getElem_cons_succ, Act.put, List.setIfInBounds_toArray, List.set_cons_zero, List.set_cons_succ]
                  refine wpAnyH_take (i := 1) (v := ?_) rfl (by kernel_rfl) (by kernel_rfl) (by kernel_rfl) (fun _ _ _ h => h) (Or.inl ⟨by rfl, fun wy hSw => ?_⟩) (by assumption) ?_
                  rotate_left 1
                  · obtain ⟨cs, ca, cb⟩ := HhL.out wy hSw
                    clear hSw
                    go_simp
                    try with_reducible rfl
                  try simp only [List.getElem_toArray, List.getElem_cons_zero, List.getElem_cons_succ, Act.put, List.setIfInBounds_toArray, List.set_cons_zero, List.set_cons_succ]
                  refine wpAnyH_take (i := 2) (v := ?_) rfl (by kernel_rfl) (by kernel_rfl) (by kernel_rfl) (fun _ _ _ h => h) (Or.inl ⟨by rfl, fun wy hSw => ?_⟩) (by assumption) ?_
                  rotate_left 1
                  · obtain ⟨cs, ca, cb⟩ := HhL.out wy hSw
                    clear hSw
                    go_simp
                    try with_reducible rfl
                  try simp only [List.getElem_toArray, List.getElem_cons_zero, List.getElem_cons_succ, Act.put, List.setIfInBounds_toArray, List.set_cons_zero, List.set_cons_succ]
                  refine wpAnyH_take (i := 3) (v := ?_) rfl (by kernel_rfl) (by kernel_rfl) (by kernel_rfl) (fun _ _ _ h => h) (Or.inl ⟨by rfl, fun wy hSw => ?_⟩) (by assumption) ?_
                  rotate_left 1
                  · obtain ⟨cs, ca, cb⟩ := HhL.out wy hSw
                    clear hSw
                    go_simp
                    try with_reducible rfl
                  try simp only [List.getElem_toArray, List.getElem_cons_zero, List.getElem_cons_succ, Act.put, List.setIfInBounds_toArray, List.set_cons_zero, List.set_cons_succ]
                  refine wpAnyH_take (i := 4) (v := ?_) rfl (by kernel_rfl) (by kernel_rfl) (by kernel_rfl) (fun _ _ _ h => h) (Or.inl ⟨by rfl, fun wy hSw => ?_⟩) (by assumption) ?_
                  rotate_left 1
                  · obtain ⟨cs, ca, cb⟩ := HhL.out wy hSw
                    clear hSw
                    go_simp
                    try with_reducible rfl
                  try simp only [List.getElem_toArray, List.getElem_cons_zero, List.getElem_cons_succ, Act.put, List.setIfInBounds_toArray, List.set_cons_zero, List.set_cons_succ]
                  refine wpAnyH_take (i := 5) (v := ?_) rfl (by kernel_rfl) (by kernel_rfl) (by kernel_rfl) (fun _ _ _ h => h) (Or.inl ⟨by rfl, fun wy hSw => ?_⟩) (by assumption) ?_
                  rotate_left 1
                  · obtain ⟨cs, ca, cb⟩ := HhL.out wy hSw
                    clear hSw
                    go_simp
                    try with_reducible rfl
                  try simp only [List.getElem_toArray, List.getElem_cons_zero, List.getElem_cons_succ, Act.put, List.setIfInBounds_toArray, List.set_cons_zero, List.set_cons_succ]
                  refine wpAnyH_take (i := 6) (v := ?_) rfl (by kernel_rfl) (by kernel_rfl) (by kernel_rfl) (fun _ _ _ h => h) (Or.inl ⟨by rfl, fun wy hSw => ?_⟩) (by assumption) ?_
                  rotate_left 1
                  · obtain ⟨cs, ca, cb⟩ := HhL.out wy hSw
                    clear hSw
                    go_simp
                    try with_reducible rfl
                  try simp only [List.getElem_toArray, List.getElem_cons_zero, List.getElem_cons_succ, Act.put, List.setIfInBounds_toArray, List.set_cons_zero, List.set_cons_succ]
                  refine wpAnyH_take (i := 7) (v := ?_) rfl (by kernel_rfl) (by kernel_rfl) (by kernel_rfl) (fun _ _ _ h => h) (Or.inl ⟨by rfl, fun wy hSw => ?_⟩) (by assumption) ?_
                  rotate_left 1
                  · obtain ⟨cs, ca, cb⟩ := HhL.out wy hSw
                    clear hSw
                    go_simp
                    try with_reducible rfl
                  try simp only [List.getElem_toArray, List.getElem_cons_zero, List.getElem_cons_succ, Act.put, List.setIfInBounds_toArray, List.set_cons_zero, List.set_cons_succ]
                  refine wpAnyH_take (i := 8) (v := ?_) rfl (by kernel_rfl) (by kernel_rfl) (by kernel_rfl) (fun _ _ _ h => h) (Or.inl ⟨by rfl, fun wy hSw => ?_⟩) (by assumption) ?_
                  rotate_left 1
                  · obtain ⟨cs, ca, cb⟩ := HhL.out wy hSw
                    clear hSw
                    go_simp
                    try with_reducible rfl
                  try simp only [List.getElem_toArray, List.getElem_cons_zero, List.getElem_cons_succ, Act.put, List.setIfInBounds_toArray, List.set_cons_zero, List.set_cons_succ]
                  refine wpAnyH_take (i := 9) (v := ?_) rfl (by kernel_rfl) (by kernel_rfl) (by kernel_rfl) (fun _ _ _ h => h) (Or.inl ⟨by rfl, fun wy hSw => ?_⟩) (by assumption) ?_
                  rotate_left 1
                  · obtain ⟨cs, ca, cb⟩ := HhL.out wy hSw
                    clear hSw
                    go_simp
                    try with_reducible rfl
                  try simp only [List.getElem_toArray, List.getElem_cons_zero, List.getElem_cons_succ, Act.put, List.setIfInBounds_toArray, List.set_cons_zero, List.set_cons_succ]
                  refine wpAnyH_take (i := 10) (v := ?_) rfl (by kernel_rfl) (by kernel_rfl) (by kernel_rfl) (fun _ _ _ h => h) (Or.inl ⟨by rfl, fun wy hSw => ?_⟩) (by assumption) ?_
                  rotate_left 1
                  · obtain ⟨cs, ca, cb⟩ := HhL.out wy hSw
                    clear hSw
                    go_simp
                    try with_reducible rfl
                  try simp only [List.getElem_toArray, List.getElem_cons_zero, List.getElem_cons_succ, Act.put, List.setIfInBounds_toArray, List.set_cons_zero, List.set_cons_succ]
                  refine wpAnyH_take (i := 11) (v := ?_) rfl (by kernel_rfl) (by kernel_rfl) (by kernel_rfl) (fun _ _ _ h => h) (Or.inl ⟨by rfl, fun wy hSw => ?_⟩) (by assumption) ?_
                  rotate_left 1
                  · obtain ⟨cs, ca, cb⟩ := HhL.out wy hSw
                    clear hSw
                    go_simp
                    try with_reducible rfl
                  try simp only [List.getElem_toArray, List.getElem_cons_zero, List.getElem_cons_succ, Act.put, List.setIfInBounds_toArray, List.set_cons_zero, List.set_cons_succ]
                  refine wpAnyH_take (i := 12) (v := ?_) rfl (by kernel_rfl) (by kernel_rfl) (by kernel_rfl) (fun _ _ _ h => h) (Or.inl ⟨by rfl, fun wy hSw => ?_⟩) (by assumption) ?_
                  rotate_left 1
                  · obtain ⟨cs, ca, cb⟩ := HhL.out wy hSw
                    clear hSw
                    go_simp
                    try with_reducible rfl
                  try simp only [List.getElem_toArray, List.getElem_cons_zero, List.getElem_cons_succ, Act.put, List.setIfInBounds_toArray, List.set_cons_zero, List.set_cons_succ]
                  refine wpAnyH_take (i := 13) (v := ?_) rfl (by kernel_rfl) (by kernel_rfl) (by kernel_rfl) (fun _ _ _ h => h) (Or.inl ⟨by rfl, fun wy hSw => ?_⟩) (by assumption) ?_
                  rotate_left 1
                  · obtain ⟨cs, ca, cb⟩ := HhL.out wy hSw
                    clear hSw
                    go_simp
                    try with_reducible rfl
                  try simp only [List.getElem_toArray, List.getElem_cons_zero, List.getElem_cons_succ, Act.put, List.setIfInBounds_toArray, List.set_cons_zero, List.set_cons_succ]
                  refine wpAnyH_take (i := 14) (v := ?_) rfl (by kernel_rfl) (by kernel_rfl) (by kernel_rfl) (fun _ _ _ h => h) (Or.inl ⟨by rfl, fun wy hSw => ?_⟩) (by assumption) ?_
                  rotate_left 1
                  · obtain ⟨cs, ca, cb⟩ := HhL.out wy hSw
                    clear hSw
                    go_simp
                    try with_reducible rfl
                  try simp only [List.getElem_toArray, List.getElem_cons_zero, List.getElem_cons_succ, Act.put, List.setIfInBounds_toArray, List.set_cons_zero, List.set_cons_succ]
                  refine wpAnyH_take (i := 15) (v := ?_) rfl (by kernel_rfl) (by kernel_rfl) (by kernel_rfl) (fun _ _ _ h => h) (Or.inl ⟨by rfl, fun wy hSw => ?_⟩) (by assumption) ?_
                  rotate_left 1
                  · obtain ⟨cs, ca, cb⟩ := HhL.out wy hSw
                    clear hSw
                    go_simp
                    try with_reducible rfl
                  try simp only [List.getElem_toArray, List.getElem_cons_zero, List.getElem_cons_succ, Act.put, List.setIfInBounds_toArray, List.set_cons_zero, List.set_cons_succ]
                  clear b8
                  refine wpAnyH_ready (rs := [16]) (by kernel_rfl) (by simp) ?_
                  refine AllReadyH.cons rfl (fun K hK => ?_) AllReadyH.nil
                  go_simp
                  refine hK.out _ _ ?hS (fun hHeld => ?_)
                  case hS => exact Below.alloc HhB.out.drew hsz1 _
                  clear hK K
                  try simp only [List.getElem_toArray, List.getElem_cons_zero, List.getElem_cons_succ, Act.put, List.setIfInBounds_toArray, List.set_cons_zero, List.set_cons_succ]
                  refine wpAnyH_ready (rs := [17]) (by kernel_rfl) (by simp) ?_
                  refine AllReadyH.cons rfl (fun K hK => ?_) AllReadyH.nil
                  rw [if_pos (by rfl)]
                  refine wp_append_word _ _ rfl wz.heap.size _ i (outL st u0 i) rfl ((World.ownsRow.drew Hhown.out).alloc _) wr.heap.size t rfl (by simp) (by omega) (by simp; omega) ?_
                  intro v6 w6 hown6 hB6
                  have hB7 : Below wz.heap.size wz w6 := (Below.alloc HhB.out.drew hsz1 _).trans hB6
                  have Hhown6 := Lib.hid hown6
                  clear hown6
                  refine hK.out _ _ hB7 (fun hHeld => ?_)
                  clear hK K
                  try simp only [List.getElem_toArray, List.getElem_cons_zero, List.getElem_cons_succ, Act.put, List.setIfInBounds_toArray, List.set_cons_zero, List.set_cons_succ]
                  refine wpAnyH_take (i := 18) (v := ?_) rfl (by kernel_rfl) (by kernel_rfl) (by kernel_rfl) (fun _ _ _ h => h) (Or.inl ⟨by rfl, fun wy hSw => ?_⟩) (by assumption) ?_
                  rotate_left 1
                  · clear hSw
                    go_simp
                    try with_reducible rfl
                  try simp only [List.getElem_toArray, List.getElem_cons_zero, List.getElem_cons_succ, Act.put, List.setIfInBounds_toArray, List.set_cons_zero, List.set_cons_succ]
                  refine wpAnyH_done (by kernel_rfl) ?_ _
                  go_wp2_with fail
                  exact ⟨⟨i + 1, by omega, by go_num, by rw [Hhnew.out]; exact Hhown6.out, hB7⟩, by simp [intOf]; omega⟩
              · obtain rfl : i = 8 := by omega
                obtain ⟨h1, h2⟩ := Hhfin.out _ _ hown hB
                have Hh1 := Lib.hid h1
                clear h1
                have Hh2 := Lib.hid h2
                clear h2
                have Hhown := Lib.hid hown
                clear hown
                have HhB := Lib.hid hB
                clear hB
                go_wp2_with fail
                go_ret
                exact ⟨_, rfl, Hh1.out, Hh2.out⟩
      · have hl2 : ((n : Int) == (l.length : Int)) = false := by simp; omega
        have hdec : decide (endR l a = l.length) = false := by rw [← Hhn.out]; simp [hlast]
        have Hhdec := Lib.hid hdec
        clear hdec
        have Hhlast := Lib.hid hlast
        clear hlast
        go_wp2_with (first | (at_builtin; refine append_words rfl _ _ rfl wo.heap.size v5 8 st rfl Hhown6.out w5.heap.size 8 8 firstS rfl rfl Hhcc.out (by omega) (by omega) ?_; intro v7 w7 hown7 hg7 hB7; rw [show 8 + 8 = 16 from rfl, ← Hhv0.out] at hown7; obtain ⟨g, cap, rfl, hgb, hgs, hgc⟩ := own_words_open hown7 (by omega); have c12 := own_word_at hown7 Hhl0.out (k := 12) (by omega); have c13 := own_word_at hown7 Hhl0.out (k := 13) (by omega); have c14 := own_word_at hown7 Hhl0.out (k := 14) (by omega); rw [← Hha12.out] at c12; rw [← Hha13.out] at c13; rw [← Hha14.out] at c14; have f12 := World.ownsRow.frozenAt hown7 12; have f13 := World.ownsRow.frozenAt hown7 13; have f14 := World.ownsRow.frozenAt hown7 14; have Hhown7 := Lib.hid hown7; clear hown7))
        generalize hW8 : World.setCell (World.setCell _ _ _) _ _ = w8
        obtain ⟨v3, hv3e⟩ : ∃ v3, v3 = startS st n false := ⟨_, rfl⟩
        have hx13 : nt v0 13 = nt (v0.set 12 z12) 13 := by rw [nt_set]; simp
        have hx14 : nt v0 14 = nt ((v0.set 12 z12).set 13 z13) 14 := by rw [nt_set, nt_set]; simp
        have e13S : v13S st n = (v0.set 12 z12).set 13 z13 := by
          rw [v13S, v12S, ← Hhv0.out, ← Hha12.out, ← Hhz12.out, ← hx13, ← Hha13.out, ← Hhn2e.out, Nat.mod_eq_of_lt (show n2 < 4294967296 by have := Hhn2e.out; omega), ← Hhz13.out]
        have ev3 : v3 = (v0.set 12 z12).set 13 z13 := by
          rw [hv3e, startS, if_neg (by simp), e13S]
        have hv8 : OwnW w8 wo.heap.size g cap v3 := by
          rw [ev3, ← hW8]; exact (OwnW.store Hhown7.out 12 z12).store 13 z13
        have hbel7 : Below wo.heap.size wo w7 := Hhbel6.out.trans hB7
        have hbel8 : Below wo.heap.size wo w8 := by rw [← hW8]; exact (by ((repeat' (first | exact Below.refl _ _ | (refine Below.alloc ?_ ?_ _) | (refine Below.setCell ?_ ?_ _) | (refine Below.drew ?_) | (refine Below.trans ?_ (Below.mono (by assumption) ?_)))) <;> ((try simp only [World.size_alloc, World.size_setCell, World.size_drew] at *); omega)))
        have hl3 : v3.length = 16 := by rw [hv3e]; exact startS_len _ _ _ Hhh.out
        have hM3 : M32 v3 := by rw [hv3e]; exact startS_m _ _ _ hm
        have hMat : ∀ wx, Below wo.heap.size wo wx → ∀ j, j < 16 → wx.cell? ⟨gm, j, none⟩ = some (.int .u32 (nt M j : Nat)) := fun wx hx j hj => own_word_at (ownsRow_below Hhown.out hx (Nat.le_refl _)) HhMl.out hj
        clear hW8 hx13 hx14 e13S ev3 c12 c13 c14 f12 f13 f14 e12 e13 e14 hn2 hB7 hbel7 hg7 hmin
        have hgmi : ∀ wx : World, True := fun _ => trivial
        have Hhv8 := Lib.hid hv8
        clear hv8
        have Hhbel8 := Lib.hid hbel8
        clear hbel8
        have Hhl3 := Lib.hid hl3
        clear hl3
        have HhM3 := Lib.hid hM3
        clear hM3
        have HhMat := Lib.hid hMat
        clear hMat
        have Hhv3e := Lib.hid hv3e
        clear hv3e
        clear hgmi
        go_loopw [11] (fun s11 wr => ∃ r : Nat, r ≤ 10 ∧ s11 = .int .i64 r ∧ OwnW wr wo.heap.size g cap (roundsK M v3 r) ∧ Below wo.heap.size wo wr ∧ g < wr.heap.size) (fun s11 _ => 10 - (intOf s11).toNat)
        case atStart => exact ⟨0, by omega, rfl, Hhv8.out, Hhbel8.out, (own_words_open Hhv8.out (by omega)).elim fun g' h => by obtain ⟨c', h1, h2, h3, h4⟩ := h; simp only [Value.slice.injEq, Option.some.injEq, Addr.mk.injEq, and_true, true_and] at h1; omega⟩
        case round =>
          obtain ⟨r, hr, rfl, hvr, hbr, hgr⟩ := hrel
          obtain ⟨u0, hue0⟩ : ∃ vr, vr = roundsK M v3 r := ⟨_, rfl⟩
          rw [← hue0] at hvr
          have hlu0 : u0.length = 16 := by rw [hue0, roundsK_len]; exact Hhl3.out
          have hmu0 : M32 u0 := by rw [hue0]; exact roundsK_m _ _ _ HhM3.out
          by_cases hrl : r < 10
          · have hoc := order_calls r wr hrl
            obtain ⟨z, hze⟩ : ∃ z, z = orderS r := ⟨_, rfl⟩
            rw [← hze] at hoc
            have hzl : z.length = 16 := by rw [hze]; exact orderS_len r
            have hzlt : ∀ k, nt z k < 16 := by rw [hze]; exact orderS_lt r
            have Hhvr := Lib.hid hvr
            clear hvr
            have Hhbr := Lib.hid hbr
            clear hbr
            have Hhue0 := Lib.hid hue0
            clear hue0
            have Hhlu0 := Lib.hid hlu0
            clear hlu0
            have Hhmu0 := Lib.hid hmu0
            clear hmu0
            have Hhoc := Lib.hid hoc
            clear hoc
            have Hhze := Lib.hid hze
            clear hze
            have Hhzl := Lib.hid hzl
            clear hzl
            have Hhzlt := Lib.hid hzlt
            clear hzlt
            go_wp2_with fail
            refine (Hhoc.out).mono ?_
            rintro e w9 ⟨rfl, hz9, hB9⟩
            obtain ⟨bz, hbz⟩ : ∃ b, b = wr.heap.size := ⟨_, rfl⟩
            rw [← hbz] at hz9 hgr ⊢
            have hB9' : Below wr.heap.size wr w9 := hB9
            have hV0 : OwnW w9 wo.heap.size g cap u0 := ownsRow_below Hhvr.out hB9' (Nat.le_refl _)
            have hb0 : Below wo.heap.size wo w9 := Hhbr.out.trans (hB9'.mono Hhbr.out.size)
            have hs0 : bz < w9.heap.size := (Array.getElem?_eq_some_iff.1 hz9).1
            clear hB9 hB9' hbz
            obtain ⟨W0, hW0⟩ : ∃ W0 : World, W0 = w9 := ⟨_, rfl⟩
            subst hW0
            have hZ0 := hz9
            clear hz9
            obtain ⟨p0, hp0⟩ : ∃ z0, z0 = nt z 0 := ⟨_, rfl⟩
            obtain ⟨q0, hq0⟩ : ∃ z1, z1 = nt z 1 := ⟨_, rfl⟩
            obtain ⟨x0, hx0⟩ : ∃ x, x = nt M p0 := ⟨_, rfl⟩
            obtain ⟨y0, hy0⟩ : ∃ x, x = nt M q0 := ⟨_, rfl⟩
            have cp0 : W0.cell? ⟨bz, 0, none⟩ = some (.int .i64 (p0 : Int)) := by rw [cell_of_row _ _ _ _ _ _ hZ0, ordC_at z 0 (by rw [Hhzl.out]; omega), hp0]
            have cq0 : W0.cell? ⟨bz, 1, none⟩ = some (.int .i64 (q0 : Int)) := by rw [cell_of_row _ _ _ _ _ _ hZ0, ordC_at z 1 (by rw [Hhzl.out]; omega), hq0]
            have lp0 : (p0 : Int) < 16 := by have := Hhzlt.out 0; omega
            have lq0 : (q0 : Int) < 16 := by have := Hhzlt.out 1; omega
            have cx0 := HhMat.out _ hb0 p0 (by omega)
            have cy0 := HhMat.out _ hb0 q0 (by omega)
            rw [← hx0] at cx0
            rw [← hy0] at cy0
            have hc0 : Calls Tryd.prog 69 #[.slice (some ⟨g, 0, none⟩) 16 cap, .int .i64 0, .int .i64 4, .int .i64 8, .int .i64 12, .int .u32 x0, .int .u32 y0] W0.drew fun e w' => e = .returned (.tuple #[]) ∧ OwnW w' wo.heap.size g cap (mixS u0 0 4 8 12 x0 y0) ∧ W0.drew.grownBy w' (some g) :=
              g_calls wo.heap.size g cap u0 0 4 8 12 x0 y0 W0.drew hV0.drew Hhlu0.out Hhmu0.out (by omega) (by omega) (by omega) (by omega) (by rw [hx0]; exact HhMm.out _) (by rw [hy0]; exact HhMm.out _)
            have Hhc0 := Lib.hid hc0
            clear hc0
            have HhV0 := Lib.hid hV0
            clear hV0
            have Hhb0 := Lib.hid hb0
            clear hb0
            have HhZ0 := Lib.hid hZ0
            clear hZ0
            have Hhp0 := Lib.hid hp0
            clear hp0
            have Hhq0 := Lib.hid hq0
            clear hq0
            have Hhx0 := Lib.hid hx0
            clear hx0
            have Hhy0 := Lib.hid hy0
            clear hy0
            go_wp2_with fail
            go_still_tail 13, (by kernel_rfl)
            go_wp2_with fail
            refine (Hhc0.out).mono ?_
            rintro e W1 ⟨rfl, hV1, hG1⟩
            replace hG1 : W0.grownBy W1 (some g) := grownBy_trans (grownBy_drew (grownBy_refl _ _)) hG1
            have hb1 : Below wo.heap.size wo W1 := Hhb0.out.trans (grownBy_below hG1 hgb Hhb0.out.size)
            have hs1 : bz < W1.heap.size := Nat.lt_of_lt_of_le hs0 hG1.size
            have hZ1 : W1.heap[bz]? = some (.cells (ordC z) 3 (0, 0)) := by rw [hG1.block bz hs0 (by intro e; have := Option.some.inj e; omega)]; exact HhZ0.out
            obtain ⟨u1, hue1⟩ : ∃ u, u = mixS u0 0 4 8 12 x0 y0 := ⟨_, rfl⟩
            rw [← hue1] at hV1
            have hlu1 : u1.length = 16 := by rw [hue1, mixS_len]; exact Hhlu0.out
            have hmu1 : M32 u1 := by rw [hue1]; exact mixS_m _ _ _ _ _ _ _ Hhmu0.out
            clear hG1 cp0 cq0 cx0 cy0
            have Hhue1 := Lib.hid hue1
            clear hue1
            have Hhlu1 := Lib.hid hlu1
            clear hlu1
            have Hhmu1 := Lib.hid hmu1
            clear hmu1
            obtain ⟨p1, hp1⟩ : ∃ z0, z0 = nt z 2 := ⟨_, rfl⟩
            obtain ⟨q1, hq1⟩ : ∃ z1, z1 = nt z 3 := ⟨_, rfl⟩
            obtain ⟨x1, hx1⟩ : ∃ x, x = nt M p1 := ⟨_, rfl⟩
            obtain ⟨y1, hy1⟩ : ∃ x, x = nt M q1 := ⟨_, rfl⟩
            have cp1 : W1.cell? ⟨bz, 2, none⟩ = some (.int .i64 (p1 : Int)) := by rw [cell_of_row _ _ _ _ _ _ hZ1, ordC_at z 2 (by rw [Hhzl.out]; omega), hp1]
            have cq1 : W1.cell? ⟨bz, 3, none⟩ = some (.int .i64 (q1 : Int)) := by rw [cell_of_row _ _ _ _ _ _ hZ1, ordC_at z 3 (by rw [Hhzl.out]; omega), hq1]
            have lp1 : (p1 : Int) < 16 := by have := Hhzlt.out 2; omega
            have lq1 : (q1 : Int) < 16 := by have := Hhzlt.out 3; omega
            have cx1 := HhMat.out _ hb1 p1 (by omega)
            have cy1 := HhMat.out _ hb1 q1 (by omega)
            rw [← hx1] at cx1
            rw [← hy1] at cy1
            have hc1 : Calls Tryd.prog 69 #[.slice (some ⟨g, 0, none⟩) 16 cap, .int .i64 1, .int .i64 5, .int .i64 9, .int .i64 13, .int .u32 x1, .int .u32 y1] W1.drew fun e w' => e = .returned (.tuple #[]) ∧ OwnW w' wo.heap.size g cap (mixS u1 1 5 9 13 x1 y1) ∧ W1.drew.grownBy w' (some g) :=
              g_calls wo.heap.size g cap u1 1 5 9 13 x1 y1 W1.drew hV1.drew Hhlu1.out Hhmu1.out (by omega) (by omega) (by omega) (by omega) (by rw [hx1]; exact HhMm.out _) (by rw [hy1]; exact HhMm.out _)
            have Hhc1 := Lib.hid hc1
            clear hc1
            have HhV1 := Lib.hid hV1
            clear hV1
            have Hhb1 := Lib.hid hb1
            clear hb1
            have HhZ1 := Lib.hid hZ1
            clear hZ1
            have Hhp1 := Lib.hid hp1
            clear hp1
            have Hhq1 := Lib.hid hq1
            clear hq1
            have Hhx1 := Lib.hid hx1
            clear hx1
            have Hhy1 := Lib.hid hy1
            clear hy1
            go_wp2_with fail
            go_still_tail 13, (by kernel_rfl)
            go_wp2_with fail
            refine (Hhc1.out).mono ?_
            rintro e W2 ⟨rfl, hV2, hG2⟩
            replace hG2 : W1.grownBy W2 (some g) := grownBy_trans (grownBy_drew (grownBy_refl _ _)) hG2
            have hb2 : Below wo.heap.size wo W2 := Hhb1.out.trans (grownBy_below hG2 hgb Hhb1.out.size)
            have hs2 : bz < W2.heap.size := Nat.lt_of_lt_of_le hs1 hG2.size
            have hZ2 : W2.heap[bz]? = some (.cells (ordC z) 3 (0, 0)) := by rw [hG2.block bz hs1 (by intro e; have := Option.some.inj e; omega)]; exact HhZ1.out
            obtain ⟨u2, hue2⟩ : ∃ u, u = mixS u1 1 5 9 13 x1 y1 := ⟨_, rfl⟩
            rw [← hue2] at hV2
            have hlu2 : u2.length = 16 := by rw [hue2, mixS_len]; exact Hhlu1.out
            have hmu2 : M32 u2 := by rw [hue2]; exact mixS_m _ _ _ _ _ _ _ Hhmu1.out
            clear hG2 cp1 cq1 cx1 cy1
            have Hhue2 := Lib.hid hue2
            clear hue2
            have Hhlu2 := Lib.hid hlu2
            clear hlu2
            have Hhmu2 := Lib.hid hmu2
            clear hmu2
            obtain ⟨p2, hp2⟩ : ∃ z0, z0 = nt z 4 := ⟨_, rfl⟩
            obtain ⟨q2, hq2⟩ : ∃ z1, z1 = nt z 5 := ⟨_, rfl⟩
            obtain ⟨x2, hx2⟩ : ∃ x, x = nt M p2 := ⟨_, rfl⟩
            obtain ⟨y2, hy2⟩ : ∃ x, x = nt M q2 := ⟨_, rfl⟩
            have cp2 : W2.cell? ⟨bz, 4, none⟩ = some (.int .i64 (p2 : Int)) := by rw [cell_of_row _ _ _ _ _ _ hZ2, ordC_at z 4 (by rw [Hhzl.out]; omega), hp2]
            have cq2 : W2.cell? ⟨bz, 5, none⟩ = some (.int .i64 (q2 : Int)) := by rw [cell_of_row _ _ _ _ _ _ hZ2, ordC_at z 5 (by rw [Hhzl.out]; omega), hq2]
            have lp2 : (p2 : Int) < 16 := by have := Hhzlt.out 4; omega
            have lq2 : (q2 : Int) < 16 := by have := Hhzlt.out 5; omega
            have cx2 := HhMat.out _ hb2 p2 (by omega)
            have cy2 := HhMat.out _ hb2 q2 (by omega)
            rw [← hx2] at cx2
            rw [← hy2] at cy2
            have hc2 : Calls Tryd.prog 69 #[.slice (some ⟨g, 0, none⟩) 16 cap, .int .i64 2, .int .i64 6, .int .i64 10, .int .i64 14, .int .u32 x2, .int .u32 y2] W2.drew fun e w' => e = .returned (.tuple #[]) ∧ OwnW w' wo.heap.size g cap (mixS u2 2 6 10 14 x2 y2) ∧ W2.drew.grownBy w' (some g) :=
              g_calls wo.heap.size g cap u2 2 6 10 14 x2 y2 W2.drew hV2.drew Hhlu2.out Hhmu2.out (by omega) (by omega) (by omega) (by omega) (by rw [hx2]; exact HhMm.out _) (by rw [hy2]; exact HhMm.out _)
            have Hhc2 := Lib.hid hc2
            clear hc2
            have HhV2 := Lib.hid hV2
            clear hV2
            have Hhb2 := Lib.hid hb2
            clear hb2
            have HhZ2 := Lib.hid hZ2
            clear hZ2
            have Hhp2 := Lib.hid hp2
            clear hp2
            have Hhq2 := Lib.hid hq2
            clear hq2
            have Hhx2 := Lib.hid hx2
            clear hx2
            have Hhy2 := Lib.hid hy2
            clear hy2
            go_wp2_with fail
            go_still_tail 13, (by kernel_rfl)
            go_wp2_with fail
            refine (Hhc2.out).mono ?_
            rintro e W3 ⟨rfl, hV3, hG3⟩
            replace hG3 : W2.grownBy W3 (some g) := grownBy_trans (grownBy_drew (grownBy_refl _ _)) hG3
            have hb3 : Below wo.heap.size wo W3 := Hhb2.out.trans (grownBy_below hG3 hgb Hhb2.out.size)
            have hs3 : bz < W3.heap.size := Nat.lt_of_lt_of_le hs2 hG3.size
            have hZ3 : W3.heap[bz]? = some (.cells (ordC z) 3 (0, 0)) := by rw [hG3.block bz hs2 (by intro e; have := Option.some.inj e; omega)]; exact HhZ2.out
            obtain ⟨u3, hue3⟩ : ∃ u, u = mixS u2 2 6 10 14 x2 y2 := ⟨_, rfl⟩
            rw [← hue3] at hV3
            have hlu3 : u3.length = 16 := by rw [hue3, mixS_len]; exact Hhlu2.out
            have hmu3 : M32 u3 := by rw [hue3]; exact mixS_m _ _ _ _ _ _ _ Hhmu2.out
            clear hG3 cp2 cq2 cx2 cy2
            have Hhue3 := Lib.hid hue3
            clear hue3
            have Hhlu3 := Lib.hid hlu3
            clear hlu3
            have Hhmu3 := Lib.hid hmu3
            clear hmu3
            obtain ⟨p3, hp3⟩ : ∃ z0, z0 = nt z 6 := ⟨_, rfl⟩
            obtain ⟨q3, hq3⟩ : ∃ z1, z1 = nt z 7 := ⟨_, rfl⟩
            obtain ⟨x3, hx3⟩ : ∃ x, x = nt M p3 := ⟨_, rfl⟩
            obtain ⟨y3, hy3⟩ : ∃ x, x = nt M q3 := ⟨_, rfl⟩
            have cp3 : W3.cell? ⟨bz, 6, none⟩ = some (.int .i64 (p3 : Int)) := by rw [cell_of_row _ _ _ _ _ _ hZ3, ordC_at z 6 (by rw [Hhzl.out]; omega), hp3]
            have cq3 : W3.cell? ⟨bz, 7, none⟩ = some (.int .i64 (q3 : Int)) := by rw [cell_of_row _ _ _ _ _ _ hZ3, ordC_at z 7 (by rw [Hhzl.out]; omega), hq3]
            have lp3 : (p3 : Int) < 16 := by have := Hhzlt.out 6; omega
            have lq3 : (q3 : Int) < 16 := by have := Hhzlt.out 7; omega
            have cx3 := HhMat.out _ hb3 p3 (by omega)
            have cy3 := HhMat.out _ hb3 q3 (by omega)
            rw [← hx3] at cx3
            rw [← hy3] at cy3
            have hc3 : Calls Tryd.prog 69 #[.slice (some ⟨g, 0, none⟩) 16 cap, .int .i64 3, .int .i64 7, .int .i64 11, .int .i64 15, .int .u32 x3, .int .u32 y3] W3.drew fun e w' => e = .returned (.tuple #[]) ∧ OwnW w' wo.heap.size g cap (mixS u3 3 7 11 15 x3 y3) ∧ W3.drew.grownBy w' (some g) :=
              g_calls wo.heap.size g cap u3 3 7 11 15 x3 y3 W3.drew hV3.drew Hhlu3.out Hhmu3.out (by omega) (by omega) (by omega) (by omega) (by rw [hx3]; exact HhMm.out _) (by rw [hy3]; exact HhMm.out _)
            have Hhc3 := Lib.hid hc3
            clear hc3
            have HhV3 := Lib.hid hV3
            clear hV3
            have Hhb3 := Lib.hid hb3
            clear hb3
            have HhZ3 := Lib.hid hZ3
            clear hZ3
            have Hhp3 := Lib.hid hp3
            clear hp3
            have Hhq3 := Lib.hid hq3
            clear hq3
            have Hhx3 := Lib.hid hx3
            clear hx3
            have Hhy3 := Lib.hid hy3
            clear hy3
            go_wp2_with fail
            go_still_tail 13, (by kernel_rfl)
            go_wp2_with fail
            refine (Hhc3.out).mono ?_
            rintro e W4 ⟨rfl, hV4, hG4⟩
            replace hG4 : W3.grownBy W4 (some g) := grownBy_trans (grownBy_drew (grownBy_refl _ _)) hG4
            have hb4 : Below wo.heap.size wo W4 := Hhb3.out.trans (grownBy_below hG4 hgb Hhb3.out.size)
            have hs4 : bz < W4.heap.size := Nat.lt_of_lt_of_le hs3 hG4.size
            have hZ4 : W4.heap[bz]? = some (.cells (ordC z) 3 (0, 0)) := by rw [hG4.block bz hs3 (by intro e; have := Option.some.inj e; omega)]; exact HhZ3.out
            obtain ⟨u4, hue4⟩ : ∃ u, u = mixS u3 3 7 11 15 x3 y3 := ⟨_, rfl⟩
            rw [← hue4] at hV4
            have hlu4 : u4.length = 16 := by rw [hue4, mixS_len]; exact Hhlu3.out
            have hmu4 : M32 u4 := by rw [hue4]; exact mixS_m _ _ _ _ _ _ _ Hhmu3.out
            clear hG4 cp3 cq3 cx3 cy3
            have Hhue4 := Lib.hid hue4
            clear hue4
            have Hhlu4 := Lib.hid hlu4
            clear hlu4
            have Hhmu4 := Lib.hid hmu4
            clear hmu4
            obtain ⟨p4, hp4⟩ : ∃ z0, z0 = nt z 8 := ⟨_, rfl⟩
            obtain ⟨q4, hq4⟩ : ∃ z1, z1 = nt z 9 := ⟨_, rfl⟩
            obtain ⟨x4, hx4⟩ : ∃ x, x = nt M p4 := ⟨_, rfl⟩
            obtain ⟨y4, hy4⟩ : ∃ x, x = nt M q4 := ⟨_, rfl⟩
            have cp4 : W4.cell? ⟨bz, 8, none⟩ = some (.int .i64 (p4 : Int)) := by rw [cell_of_row _ _ _ _ _ _ hZ4, ordC_at z 8 (by rw [Hhzl.out]; omega), hp4]
            have cq4 : W4.cell? ⟨bz, 9, none⟩ = some (.int .i64 (q4 : Int)) := by rw [cell_of_row _ _ _ _ _ _ hZ4, ordC_at z 9 (by rw [Hhzl.out]; omega), hq4]
            have lp4 : (p4 : Int) < 16 := by have := Hhzlt.out 8; omega
            have lq4 : (q4 : Int) < 16 := by have := Hhzlt.out 9; omega
            have cx4 := HhMat.out _ hb4 p4 (by omega)
            have cy4 := HhMat.out _ hb4 q4 (by omega)
            rw [← hx4] at cx4
            rw [← hy4] at cy4
            have hc4 : Calls Tryd.prog 69 #[.slice (some ⟨g, 0, none⟩) 16 cap, .int .i64 0, .int .i64 5, .int .i64 10, .int .i64 15, .int .u32 x4, .int .u32 y4] W4.drew fun e w' => e = .returned (.tuple #[]) ∧ OwnW w' wo.heap.size g cap (mixS u4 0 5 10 15 x4 y4) ∧ W4.drew.grownBy w' (some g) :=
              g_calls wo.heap.size g cap u4 0 5 10 15 x4 y4 W4.drew hV4.drew Hhlu4.out Hhmu4.out (by omega) (by omega) (by omega) (by omega) (by rw [hx4]; exact HhMm.out _) (by rw [hy4]; exact HhMm.out _)
            have Hhc4 := Lib.hid hc4
            clear hc4
            have HhV4 := Lib.hid hV4
            clear hV4
            have Hhb4 := Lib.hid hb4
            clear hb4
            have HhZ4 := Lib.hid hZ4
            clear hZ4
            have Hhp4 := Lib.hid hp4
            clear hp4
            have Hhq4 := Lib.hid hq4
            clear hq4
            have Hhx4 := Lib.hid hx4
            clear hx4
            have Hhy4 := Lib.hid hy4
            clear hy4
            go_wp2_with fail
            go_still_tail 13, (by kernel_rfl)
            go_wp2_with fail
            refine (Hhc4.out).mono ?_
            rintro e W5 ⟨rfl, hV5, hG5⟩
            replace hG5 : W4.grownBy W5 (some g) := grownBy_trans (grownBy_drew (grownBy_refl _ _)) hG5
            have hb5 : Below wo.heap.size wo W5 := Hhb4.out.trans (grownBy_below hG5 hgb Hhb4.out.size)
            have hs5 : bz < W5.heap.size := Nat.lt_of_lt_of_le hs4 hG5.size
            have hZ5 : W5.heap[bz]? = some (.cells (ordC z) 3 (0, 0)) := by rw [hG5.block bz hs4 (by intro e; have := Option.some.inj e; omega)]; exact HhZ4.out
            obtain ⟨u5, hue5⟩ : ∃ u, u = mixS u4 0 5 10 15 x4 y4 := ⟨_, rfl⟩
            rw [← hue5] at hV5
            have hlu5 : u5.length = 16 := by rw [hue5, mixS_len]; exact Hhlu4.out
            have hmu5 : M32 u5 := by rw [hue5]; exact mixS_m _ _ _ _ _ _ _ Hhmu4.out
            clear hG5 cp4 cq4 cx4 cy4
            have Hhue5 := Lib.hid hue5
            clear hue5
            have Hhlu5 := Lib.hid hlu5
            clear hlu5
            have Hhmu5 := Lib.hid hmu5
            clear hmu5
            obtain ⟨p5, hp5⟩ : ∃ z0, z0 = nt z 10 := ⟨_, rfl⟩
            obtain ⟨q5, hq5⟩ : ∃ z1, z1 = nt z 11 := ⟨_, rfl⟩
            obtain ⟨x5, hx5⟩ : ∃ x, x = nt M p5 := ⟨_, rfl⟩
            obtain ⟨y5, hy5⟩ : ∃ x, x = nt M q5 := ⟨_, rfl⟩
            have cp5 : W5.cell? ⟨bz, 10, none⟩ = some (.int .i64 (p5 : Int)) := by rw [cell_of_row _ _ _ _ _ _ hZ5, ordC_at z 10 (by rw [Hhzl.out]; omega), hp5]
            have cq5 : W5.cell? ⟨bz, 11, none⟩ = some (.int .i64 (q5 : Int)) := by rw [cell_of_row _ _ _ _ _ _ hZ5, ordC_at z 11 (by rw [Hhzl.out]; omega), hq5]
            have lp5 : (p5 : Int) < 16 := by have := Hhzlt.out 10; omega
            have lq5 : (q5 : Int) < 16 := by have := Hhzlt.out 11; omega
            have cx5 := HhMat.out _ hb5 p5 (by omega)
            have cy5 := HhMat.out _ hb5 q5 (by omega)
            rw [← hx5] at cx5
            rw [← hy5] at cy5
            have hc5 : Calls Tryd.prog 69 #[.slice (some ⟨g, 0, none⟩) 16 cap, .int .i64 1, .int .i64 6, .int .i64 11, .int .i64 12, .int .u32 x5, .int .u32 y5] W5.drew fun e w' => e = .returned (.tuple #[]) ∧ OwnW w' wo.heap.size g cap (mixS u5 1 6 11 12 x5 y5) ∧ W5.drew.grownBy w' (some g) :=
              g_calls wo.heap.size g cap u5 1 6 11 12 x5 y5 W5.drew hV5.drew Hhlu5.out Hhmu5.out (by omega) (by omega) (by omega) (by omega) (by rw [hx5]; exact HhMm.out _) (by rw [hy5]; exact HhMm.out _)
            have Hhc5 := Lib.hid hc5
            clear hc5
            have HhV5 := Lib.hid hV5
            clear hV5
            have Hhb5 := Lib.hid hb5
            clear hb5
            have HhZ5 := Lib.hid hZ5
            clear hZ5
            have Hhp5 := Lib.hid hp5
            clear hp5
            have Hhq5 := Lib.hid hq5
            clear hq5
            have Hhx5 := Lib.hid hx5
            clear hx5
            have Hhy5 := Lib.hid hy5
            clear hy5
            go_wp2_with fail
            go_still_tail 13, (by kernel_rfl)
            go_wp2_with fail
            refine (Hhc5.out).mono ?_
            rintro e W6 ⟨rfl, hV6, hG6⟩
            replace hG6 : W5.grownBy W6 (some g) := grownBy_trans (grownBy_drew (grownBy_refl _ _)) hG6
            have hb6 : Below wo.heap.size wo W6 := Hhb5.out.trans (grownBy_below hG6 hgb Hhb5.out.size)
            have hs6 : bz < W6.heap.size := Nat.lt_of_lt_of_le hs5 hG6.size
            have hZ6 : W6.heap[bz]? = some (.cells (ordC z) 3 (0, 0)) := by rw [hG6.block bz hs5 (by intro e; have := Option.some.inj e; omega)]; exact HhZ5.out
            obtain ⟨u6, hue6⟩ : ∃ u, u = mixS u5 1 6 11 12 x5 y5 := ⟨_, rfl⟩
            rw [← hue6] at hV6
            have hlu6 : u6.length = 16 := by rw [hue6, mixS_len]; exact Hhlu5.out
            have hmu6 : M32 u6 := by rw [hue6]; exact mixS_m _ _ _ _ _ _ _ Hhmu5.out
            clear hG6 cp5 cq5 cx5 cy5
            have Hhue6 := Lib.hid hue6
            clear hue6
            have Hhlu6 := Lib.hid hlu6
            clear hlu6
            have Hhmu6 := Lib.hid hmu6
            clear hmu6
            obtain ⟨p6, hp6⟩ : ∃ z0, z0 = nt z 12 := ⟨_, rfl⟩
            obtain ⟨q6, hq6⟩ : ∃ z1, z1 = nt z 13 := ⟨_, rfl⟩
            obtain ⟨x6, hx6⟩ : ∃ x, x = nt M p6 := ⟨_, rfl⟩
            obtain ⟨y6, hy6⟩ : ∃ x, x = nt M q6 := ⟨_, rfl⟩
            have cp6 : W6.cell? ⟨bz, 12, none⟩ = some (.int .i64 (p6 : Int)) := by rw [cell_of_row _ _ _ _ _ _ hZ6, ordC_at z 12 (by rw [Hhzl.out]; omega), hp6]
            have cq6 : W6.cell? ⟨bz, 13, none⟩ = some (.int .i64 (q6 : Int)) := by rw [cell_of_row _ _ _ _ _ _ hZ6, ordC_at z 13 (by rw [Hhzl.out]; omega), hq6]
            have lp6 : (p6 : Int) < 16 := by have := Hhzlt.out 12; omega
            have lq6 : (q6 : Int) < 16 := by have := Hhzlt.out 13; omega
            have cx6 := HhMat.out _ hb6 p6 (by omega)
            have cy6 := HhMat.out _ hb6 q6 (by omega)
            rw [← hx6] at cx6
            rw [← hy6] at cy6
            have hc6 : Calls Tryd.prog 69 #[.slice (some ⟨g, 0, none⟩) 16 cap, .int .i64 2, .int .i64 7, .int .i64 8, .int .i64 13, .int .u32 x6, .int .u32 y6] W6.drew fun e w' => e = .returned (.tuple #[]) ∧ OwnW w' wo.heap.size g cap (mixS u6 2 7 8 13 x6 y6) ∧ W6.drew.grownBy w' (some g) :=
              g_calls wo.heap.size g cap u6 2 7 8 13 x6 y6 W6.drew hV6.drew Hhlu6.out Hhmu6.out (by omega) (by omega) (by omega) (by omega) (by rw [hx6]; exact HhMm.out _) (by rw [hy6]; exact HhMm.out _)
            have Hhc6 := Lib.hid hc6
            clear hc6
            have HhV6 := Lib.hid hV6
            clear hV6
            have Hhb6 := Lib.hid hb6
            clear hb6
            have HhZ6 := Lib.hid hZ6
            clear hZ6
            have Hhp6 := Lib.hid hp6
            clear hp6
            have Hhq6 := Lib.hid hq6
            clear hq6
            have Hhx6 := Lib.hid hx6
            clear hx6
            have Hhy6 := Lib.hid hy6
            clear hy6
            go_wp2_with fail
            go_still_tail 13, (by kernel_rfl)
            go_wp2_with fail
            refine (Hhc6.out).mono ?_
            rintro e W7 ⟨rfl, hV7, hG7⟩
            replace hG7 : W6.grownBy W7 (some g) := grownBy_trans (grownBy_drew (grownBy_refl _ _)) hG7
            have hb7 : Below wo.heap.size wo W7 := Hhb6.out.trans (grownBy_below hG7 hgb Hhb6.out.size)
            have hs7 : bz < W7.heap.size := Nat.lt_of_lt_of_le hs6 hG7.size
            have hZ7 : W7.heap[bz]? = some (.cells (ordC z) 3 (0, 0)) := by rw [hG7.block bz hs6 (by intro e; have := Option.some.inj e; omega)]; exact HhZ6.out
            obtain ⟨u7, hue7⟩ : ∃ u, u = mixS u6 2 7 8 13 x6 y6 := ⟨_, rfl⟩
            rw [← hue7] at hV7
            have hlu7 : u7.length = 16 := by rw [hue7, mixS_len]; exact Hhlu6.out
            have hmu7 : M32 u7 := by rw [hue7]; exact mixS_m _ _ _ _ _ _ _ Hhmu6.out
            clear hG7 cp6 cq6 cx6 cy6
            have Hhue7 := Lib.hid hue7
            clear hue7
            have Hhlu7 := Lib.hid hlu7
            clear hlu7
            have Hhmu7 := Lib.hid hmu7
            clear hmu7
            obtain ⟨p7, hp7⟩ : ∃ z0, z0 = nt z 14 := ⟨_, rfl⟩
            obtain ⟨q7, hq7⟩ : ∃ z1, z1 = nt z 15 := ⟨_, rfl⟩
            obtain ⟨x7, hx7⟩ : ∃ x, x = nt M p7 := ⟨_, rfl⟩
            obtain ⟨y7, hy7⟩ : ∃ x, x = nt M q7 := ⟨_, rfl⟩
            have cp7 : W7.cell? ⟨bz, 14, none⟩ = some (.int .i64 (p7 : Int)) := by rw [cell_of_row _ _ _ _ _ _ hZ7, ordC_at z 14 (by rw [Hhzl.out]; omega), hp7]
            have cq7 : W7.cell? ⟨bz, 15, none⟩ = some (.int .i64 (q7 : Int)) := by rw [cell_of_row _ _ _ _ _ _ hZ7, ordC_at z 15 (by rw [Hhzl.out]; omega), hq7]
            have lp7 : (p7 : Int) < 16 := by have := Hhzlt.out 14; omega
            have lq7 : (q7 : Int) < 16 := by have := Hhzlt.out 15; omega
            have cx7 := HhMat.out _ hb7 p7 (by omega)
            have cy7 := HhMat.out _ hb7 q7 (by omega)
            rw [← hx7] at cx7
            rw [← hy7] at cy7
            have hc7 : Calls Tryd.prog 69 #[.slice (some ⟨g, 0, none⟩) 16 cap, .int .i64 3, .int .i64 4, .int .i64 9, .int .i64 14, .int .u32 x7, .int .u32 y7] W7.drew fun e w' => e = .returned (.tuple #[]) ∧ OwnW w' wo.heap.size g cap (mixS u7 3 4 9 14 x7 y7) ∧ W7.drew.grownBy w' (some g) :=
              g_calls wo.heap.size g cap u7 3 4 9 14 x7 y7 W7.drew hV7.drew Hhlu7.out Hhmu7.out (by omega) (by omega) (by omega) (by omega) (by rw [hx7]; exact HhMm.out _) (by rw [hy7]; exact HhMm.out _)
            have Hhc7 := Lib.hid hc7
            clear hc7
            have HhV7 := Lib.hid hV7
            clear hV7
            have Hhb7 := Lib.hid hb7
            clear hb7
            have HhZ7 := Lib.hid hZ7
            clear hZ7
            have Hhp7 := Lib.hid hp7
            clear hp7
            have Hhq7 := Lib.hid hq7
            clear hq7
            have Hhx7 := Lib.hid hx7
            clear hx7
            have Hhy7 := Lib.hid hy7
            clear hy7
            go_wp2_with fail
            go_still_tail 13, (by kernel_rfl)
            go_wp2_with fail
            refine (Hhc7.out).mono ?_
            rintro e W8 ⟨rfl, hV8, hG8⟩
            replace hG8 : W7.grownBy W8 (some g) := grownBy_trans (grownBy_drew (grownBy_refl _ _)) hG8
            have hb8 : Below wo.heap.size wo W8 := Hhb7.out.trans (grownBy_below hG8 hgb Hhb7.out.size)
            have hs8 : bz < W8.heap.size := Nat.lt_of_lt_of_le hs7 hG8.size
            have hZ8 : W8.heap[bz]? = some (.cells (ordC z) 3 (0, 0)) := by rw [hG8.block bz hs7 (by intro e; have := Option.some.inj e; omega)]; exact HhZ7.out
            obtain ⟨u8, hue8⟩ : ∃ u, u = mixS u7 3 4 9 14 x7 y7 := ⟨_, rfl⟩
            rw [← hue8] at hV8
            have hlu8 : u8.length = 16 := by rw [hue8, mixS_len]; exact Hhlu7.out
            have hmu8 : M32 u8 := by rw [hue8]; exact mixS_m _ _ _ _ _ _ _ Hhmu7.out
            clear hG8 cp7 cq7 cx7 cy7
            have Hhue8 := Lib.hid hue8
            clear hue8
            have Hhlu8 := Lib.hid hlu8
            clear hlu8
            have Hhmu8 := Lib.hid hmu8
            clear hmu8
            have hue : u8 = roundsK M v3 (r + 1) := by
              rw [Hhue8.out, Hhue7.out, Hhue6.out, Hhue5.out, Hhue4.out, Hhue3.out, Hhue2.out, Hhue1.out, Hhx0.out, Hhx1.out, Hhx2.out, Hhx3.out, Hhx4.out, Hhx5.out, Hhx6.out, Hhx7.out, Hhy0.out, Hhy1.out, Hhy2.out, Hhy3.out, Hhy4.out, Hhy5.out, Hhy6.out, Hhy7.out, Hhp0.out, Hhp1.out, Hhp2.out, Hhp3.out, Hhp4.out, Hhp5.out, Hhp6.out, Hhp7.out, Hhq0.out, Hhq1.out, Hhq2.out, Hhq3.out, Hhq4.out, Hhq5.out, Hhq6.out, Hhq7.out, roundsK, ← Hhze.out, ← Hhue0.out]
              rfl
            have Hhue := Lib.hid hue
            clear hue
            have HhV8 := Lib.hid hV8
            clear hV8
            have Hhb8 := Lib.hid hb8
            clear hb8
            have HhZ8 := Lib.hid hZ8
            clear hZ8
            go_wp2_with fail
            exact ⟨⟨r + 1, by omega, by go_num, by rw [← Hhue.out]; exact HhV8.out, Hhb8.out, by omega⟩, by simp [intOf]; omega⟩
          · obtain rfl : r = 10 := by omega
            rw [show ((10 : Nat) : Int) = 10 from rfl]
            obtain ⟨wz, hwz⟩ : ∃ wz : World, wz = wr := ⟨_, rfl⟩
            subst hwz
            have hSt : ∀ wx, Below wz.heap.size wz wx → ∀ j, j < 8 → wx.cell? ⟨g0, j, none⟩ = some (.int .u32 (nt st j : Nat)) := fun wx hx => Hhu0.out _ (hbr.trans (hx.mono hbr.size))
            have hVt : ∀ wx, Below wz.heap.size wz wx → ∀ j, j < 16 → wx.cell? ⟨g, j, none⟩ = some (.int .u32 (nt u0 j : Nat)) := fun wx hx j hj => own_word_at (ownsRow_below hvr hx (Nat.le_refl _)) hlu0 hj
            have hfin : ∀ (wx : World) (v : Value), wx.ownsRow wz.heap.size 60 1 v 8 (cells32 (outL st u0 8)) → Below wz.heap.size wz wx → wx.ownsRow w.heap.size 60 1 v 8 (cells32 (compS st (wordsR l a 16) (endR l a) (decide (endR l a = l.length)))) ∧ Below w.heap.size w wx := fun wx v h1 h2 => by
              have e : compS st (wordsR l a 16) (endR l a) (decide (endR l a = l.length)) = outL st u0 8 := by
                rw [Hhdec.out, ← Hhn.out, ← HhM.out, compS, ← Hhv3e.out, ← hue0, outL_eq _ _ Hhh.out]
              rw [e]
              exact ⟨ownsRow_base h1 (by have := hbr.size; omega), (HhB.out.trans (hbr.mono hs)).trans (h2.mono (by have := hbr.size; omega))⟩
            have Hhvr := Lib.hid hvr
            clear hvr
            have Hhbr := Lib.hid hbr
            clear hbr
            have Hhue0 := Lib.hid hue0
            clear hue0
            have Hhlu0 := Lib.hid hlu0
            clear hlu0
            have Hhmu0 := Lib.hid hmu0
            clear hmu0
            have HhSt := Lib.hid hSt
            clear hSt
            have HhVt := Lib.hid hVt
            clear hVt
            have Hhfin := Lib.hid hfin
            clear hfin
            go_wp2_with fail
            go_loopw [13, 14] (fun s13 s14 wr => ∃ i : Nat, i ≤ 8 ∧ s14 = .int .i64 i ∧ wr.ownsRow wz.heap.size 60 1 s13 i (cells32 (outL st u0 i)) ∧ Below wz.heap.size wz wr) (fun _ s14 _ => 8 - (intOf s14).toNat)
            case atStart => exact ⟨0, by omega, rfl, World.ownsRow_nil _ _ _ _, Below.refl _ _⟩
            case round =>
              obtain ⟨i, hi, rfl, hown, hB⟩ := hrel
              have hsz1 := hB.size
              by_cases hil : i < 8
              · obtain ⟨j, hj⟩ : ∃ j, j = i + 8 := ⟨_, rfl⟩
                have cs := HhSt.out wr hB i hil
                have ca := HhVt.out wr hB i (by omega)
                have cb := HhVt.out wr hB j (by omega)
                obtain ⟨x, hx⟩ : ∃ x, x = nt st i := ⟨_, rfl⟩
                obtain ⟨y, hy⟩ : ∃ x, x = nt u0 i := ⟨_, rfl⟩
                obtain ⟨z, hz⟩ : ∃ x, x = nt u0 j := ⟨_, rfl⟩
                have hx1 : x < 4294967296 := by rw [hx]; exact hm _
                have hy1 : y < 4294967296 := by rw [hy]; exact Hhmu0.out _
                have hz1 : z < 4294967296 := by rw [hz]; exact Hhmu0.out _
                rw [← hx] at cs
                rw [← hy] at ca
                rw [← hz] at cb
                obtain ⟨xy, hxy⟩ : ∃ t, t = x ^^^ y := ⟨_, rfl⟩
                obtain ⟨t, ht⟩ : ∃ t, t = xy ^^^ z := ⟨_, rfl⟩
                have hxy1 : xy < 4294967296 := by rw [hxy]; exact xor_lt32 hx1 hy1
                have e1 : bits .xor .u32 (x : Int) (y : Int) = (xy : Int) := by rw [u32_xor_nat _ _ hx1 hy1, hxy]
                have e2 : bits .xor .u32 (xy : Int) (z : Int) = (t : Int) := by rw [u32_xor_nat _ _ hxy1 hz1, ht]
                have hnew : outL st u0 (i + 1) = outL st u0 i ++ [t] := by rw [ht, hxy, hx, hy, hz, hj]; simp [outL, List.range_succ]
                have b8 : IntKind.i64.wrap ((i : Int) + 8) = (j : Int) := (IntWalk.i64_in _ (by omega)).trans (by omega)
                have hil' : (i : Int) < 8 := by omega
                have hil2 : (i : Int) < 16 := by omega
                have hjl : (j : Int) < 16 := by omega
                have hL : ∀ wy, Below wz.heap.size wz wy → wy.cell? ⟨g0, i, none⟩ = some (.int .u32 (x : Nat)) ∧ wy.cell? ⟨g, i, none⟩ = some (.int .u32 (y : Nat)) ∧ wy.cell? ⟨g, j, none⟩ = some (.int .u32 (z : Nat)) := fun wy hy' => ⟨by rw [hx]; exact HhSt.out wy hy' i hil, by rw [hy]; exact HhVt.out wy hy' i (by omega), by rw [hz]; exact HhVt.out wy hy' j (by omega)⟩
                clear cs ca cb
                have Hhown := Lib.hid hown
                clear hown
                have HhB := Lib.hid hB
                clear hB
                have Hhx := Lib.hid hx
                clear hx
                have Hhy := Lib.hid hy
                clear hy
                have Hhz := Lib.hid hz
                clear hz
                have Hhxy := Lib.hid hxy
                clear hxy
                have Hht := Lib.hid ht
                clear ht
                have Hhnew := Lib.hid hnew
                clear hnew
                have Hhj := Lib.hid hj
                clear hj
                have HhL := Lib.hid hL
                clear hL
                go_wp2_with fail
                refine wp_region_held_drew (S := (fun w' => Below wz.heap.size wz w')) (by kernel_rfl) ?hs0 (fun hHeld => ?rest0)
                case hs0 => exact HhB.out.drew
                case rest0 =>
                  refine wpAnyH_take (i := 0) (v := ?_) rfl (by kernel_rfl) (by kernel_rfl) (by kernel_rfl) (fun _ _ _ h => h) (Or.inl ⟨by rfl, fun wy hSw => ?_⟩) (by assumption) ?_
                  rotate_left 1
                  · obtain ⟨cs, ca, cb⟩ := HhL.out wy hSw
                    clear hSw
                    go_simp
                    try with_reducible rfl
                  try simp only [List.getElem_toArray, List.getElem_cons_zero, List.getElem_cons_succ, Act.put, List.setIfInBounds_toArray, List.set_cons_zero, List.set_cons_succ]
                  refine wpAnyH_take (i := 1) (v := ?_) rfl (by kernel_rfl) (by kernel_rfl) (by kernel_rfl) (fun _ _ _ h => h) (Or.inl ⟨by rfl, fun wy hSw => ?_⟩) (by assumption) ?_
                  rotate_left 1
                  · obtain ⟨cs, ca, cb⟩ := HhL.out wy hSw
                    clear hSw
                    go_simp
                    try with_reducible rfl
                  try simp only [List.getElem_toArray, List.getElem_cons_zero, List.getElem_cons_succ, Act.put, List.setIfInBounds_toArray, List.set_cons_zero, List.set_cons_succ]
                  refine wpAnyH_take (i := 2) (v := ?_) rfl (by kernel_rfl) (by kernel_rfl) (by kernel_rfl) (fun _ _ _ h => h) (Or.inl ⟨by rfl, fun wy hSw => ?_⟩) (by assumption) ?_
                  rotate_left 1
                  · obtain ⟨cs, ca, cb⟩ := HhL.out wy hSw
                    clear hSw
                    go_simp
                    try with_reducible rfl
                  try simp only [List.getElem_toArray, List.getElem_cons_zero, List.getElem_cons_succ, Act.put, List.setIfInBounds_toArray, List.set_cons_zero, List.set_cons_succ]
                  refine wpAnyH_take (i := 3) (v := ?_) rfl (by kernel_rfl) (by kernel_rfl) (by kernel_rfl) (fun _ _ _ h => h) (Or.inl ⟨by rfl, fun wy hSw => ?_⟩) (by assumption) ?_
                  rotate_left 1
                  · obtain ⟨cs, ca, cb⟩ := HhL.out wy hSw
                    clear hSw
                    go_simp
                    try with_reducible rfl
                  try simp only [List.getElem_toArray, List.getElem_cons_zero, List.getElem_cons_succ, Act.put, List.setIfInBounds_toArray, List.set_cons_zero, List.set_cons_succ]
                  refine wpAnyH_take (i := 4) (v := ?_) rfl (by kernel_rfl) (by kernel_rfl) (by kernel_rfl) (fun _ _ _ h => h) (Or.inl ⟨by rfl, fun wy hSw => ?_⟩) (by assumption) ?_
                  rotate_left 1
                  · obtain ⟨cs, ca, cb⟩ := HhL.out wy hSw
                    clear hSw
                    go_simp
                    try with_reducible rfl
                  try simp only [List.getElem_toArray, List.getElem_cons_zero, List.getElem_cons_succ, Act.put, List.setIfInBounds_toArray, List.set_cons_zero, List.set_cons_succ]
                  refine wpAnyH_take (i := 5) (v := ?_) rfl (by kernel_rfl) (by kernel_rfl) (by kernel_rfl) (fun _ _ _ h => h) (Or.inl ⟨by rfl, fun wy hSw => ?_⟩) (by assumption) ?_
                  rotate_left 1
                  · obtain ⟨cs, ca, cb⟩ := HhL.out wy hSw
                    clear hSw
                    go_simp
                    try with_reducible rfl
                  try simp only [List.getElem_toArray, List.getElem_cons_zero, List.getElem_cons_succ, Act.put, List.setIfInBounds_toArray, List.set_cons_zero, List.set_cons_succ]
                  refine wpAnyH_take (i := 6) (v := ?_) rfl (by kernel_rfl) (by kernel_rfl) (by kernel_rfl) (fun _ _ _ h => h) (Or.inl ⟨by rfl, fun wy hSw => ?_⟩) (by assumption) ?_
                  rotate_left 1
                  · obtain ⟨cs, ca, cb⟩ := HhL.out wy hSw
                    clear hSw
                    go_simp
                    try with_reducible rfl
                  try simp only [List.getElem_toArray, List.getElem_cons_zero, List.getElem_cons_succ, Act.put, List.setIfInBounds_toArray, List.set_cons_zero, List.set_cons_succ]
                  refine wpAnyH_take (i := 7) (v := ?_) rfl (by kernel_rfl) (by kernel_rfl) (by kernel_rfl) (fun _ _ _ h => h) (Or.inl ⟨by rfl, fun wy hSw => ?_⟩) (by assumption) ?_
                  rotate_left 1
                  · obtain ⟨cs, ca, cb⟩ := HhL.out wy hSw
                    clear hSw
                    go_simp
                    try with_reducible rfl
                  try simp only [List.getElem_toArray, List.getElem_cons_zero, List.getElem_cons_succ, Act.put, List.setIfInBounds_toArray, List.set_cons_zero, List.set_cons_succ]
                  refine wpAnyH_take (i := 8) (v := ?_) rfl (by kernel_rfl) (by kernel_rfl) (by kernel_rfl) (fun _ _ _ h => h) (Or.inl ⟨by rfl, fun wy hSw => ?_⟩) (by assumption) ?_
                  rotate_left 1
                  · obtain ⟨cs, ca, cb⟩ := HhL.out wy hSw
                    clear hSw
                    go_simp
                    try with_reducible rfl
                  try simp only [List.getElem_toArray, List.getElem_cons_zero, List.getElem_cons_succ, Act.put, List.setIfInBounds_toArray, List.set_cons_zero, List.set_cons_succ]
                  refine wpAnyH_take (i := 9) (v := ?_) rfl (by kernel_rfl) (by kernel_rfl) (by kernel_rfl) (fun _ _ _ h => h) (Or.inl ⟨by rfl, fun wy hSw => ?_⟩) (by assumption) ?_
                  rotate_left 1
                  · obtain ⟨cs, ca, cb⟩ := HhL.out wy hSw
                    clear hSw
                    go_simp
                    try with_reducible rfl
                  try simp only [List.getElem_toArray, List.getElem_cons_zero, List.getElem_cons_succ, Act.put, List.setIfInBounds_toArray, List.set_cons_zero, List.set_cons_succ]
                  refine wpAnyH_take (i := 10) (v := ?_) rfl (by kernel_rfl) (by kernel_rfl) (by kernel_rfl) (fun _ _ _ h => h) (Or.inl ⟨by rfl, fun wy hSw => ?_⟩) (by assumption) ?_
                  rotate_left 1
                  · obtain ⟨cs, ca, cb⟩ := HhL.out wy hSw
                    clear hSw
                    go_simp
                    try with_reducible rfl
                  try simp only [List.getElem_toArray, List.getElem_cons_zero, List.getElem_cons_succ, Act.put, List.setIfInBounds_toArray, List.set_cons_zero, List.set_cons_succ]
                  refine wpAnyH_take (i := 11) (v := ?_) rfl (by kernel_rfl) (by kernel_rfl) (by kernel_rfl) (fun _ _ _ h => h) (Or.inl ⟨by rfl, fun wy hSw => ?_⟩) (by assumption) ?_
                  rotate_left 1
                  · obtain ⟨cs, ca, cb⟩ := HhL.out wy hSw
                    clear hSw
                    go_simp
                    try with_reducible rfl
                  try simp only [List.getElem_toArray, List.getElem_cons_zero, List.getElem_cons_succ, Act.put, List.setIfInBounds_toArray, List.set_cons_zero, List.set_cons_succ]
                  refine wpAnyH_take (i := 12) (v := ?_) rfl (by kernel_rfl) (by kernel_rfl) (by kernel_rfl) (fun _ _ _ h => h) (Or.inl ⟨by rfl, fun wy hSw => ?_⟩) (by assumption) ?_
                  rotate_left 1
                  · obtain ⟨cs, ca, cb⟩ := HhL.out wy hSw
                    clear hSw
                    go_simp
                    try with_reducible rfl
                  try simp only [List.getElem_toArray, List.getElem_cons_zero, List.getElem_cons_succ, Act.put, List.setIfInBounds_toArray, List.set_cons_zero, List.set_cons_succ]
                  refine wpAnyH_take (i := 13) (v := ?_) rfl (by kernel_rfl) (by kernel_rfl) (by kernel_rfl) (fun _ _ _ h => h) (Or.inl ⟨by rfl, fun wy hSw => ?_⟩) (by assumption) ?_
                  rotate_left 1
                  · obtain ⟨cs, ca, cb⟩ := HhL.out wy hSw
                    clear hSw
                    go_simp
                    try with_reducible rfl
                  try simp only [List.getElem_toArray, List.getElem_cons_zero, List.getElem_cons_succ, Act.put, List.setIfInBounds_toArray, List.set_cons_zero, List.set_cons_succ]
                  refine wpAnyH_take (i := 14) (v := ?_) rfl (by kernel_rfl) (by kernel_rfl) (by kernel_rfl) (fun _ _ _ h => h) (Or.inl ⟨by rfl, fun wy hSw => ?_⟩) (by assumption) ?_
                  rotate_left 1
                  · obtain ⟨cs, ca, cb⟩ := HhL.out wy hSw
                    clear hSw
                    go_simp
                    try with_reducible rfl
                  try simp only [List.getElem_toArray, List.getElem_cons_zero, List.getElem_cons_succ, Act.put, List.setIfInBounds_toArray, List.set_cons_zero, List.set_cons_succ]
                  refine wpAnyH_take (i := 15) (v := ?_) rfl (by kernel_rfl) (by kernel_rfl) (by kernel_rfl) (fun _ _ _ h => h) (Or.inl ⟨by rfl, fun wy hSw => ?_⟩) (by assumption) ?_
                  rotate_left 1
                  · obtain ⟨cs, ca, cb⟩ := HhL.out wy hSw
                    clear hSw
                    go_simp
                    try with_reducible rfl
                  try simp only [List.getElem_toArray, List.getElem_cons_zero, List.getElem_cons_succ, Act.put, List.setIfInBounds_toArray, List.set_cons_zero, List.set_cons_succ]
                  clear b8
                  refine wpAnyH_ready (rs := [16]) (by kernel_rfl) (by simp) ?_
                  refine AllReadyH.cons rfl (fun K hK => ?_) AllReadyH.nil
                  go_simp
                  refine hK.out _ _ ?hS (fun hHeld => ?_)
                  case hS => exact Below.alloc HhB.out.drew hsz1 _
                  clear hK K
                  try simp only [List.getElem_toArray, List.getElem_cons_zero, List.getElem_cons_succ, Act.put, List.setIfInBounds_toArray, List.set_cons_zero, List.set_cons_succ]
                  refine wpAnyH_ready (rs := [17]) (by kernel_rfl) (by simp) ?_
                  refine AllReadyH.cons rfl (fun K hK => ?_) AllReadyH.nil
                  rw [if_pos (by rfl)]
                  refine wp_append_word _ _ rfl wz.heap.size _ i (outL st u0 i) rfl ((World.ownsRow.drew Hhown.out).alloc _) wr.heap.size t rfl (by simp) (by omega) (by simp; omega) ?_
                  intro v6 w6 hown6 hB6
                  have hB7 : Below wz.heap.size wz w6 := (Below.alloc HhB.out.drew hsz1 _).trans hB6
                  have Hhown6 := Lib.hid hown6
                  clear hown6
                  refine hK.out _ _ hB7 (fun hHeld => ?_)
                  clear hK K
                  try simp only [List.getElem_toArray, List.getElem_cons_zero, List.getElem_cons_succ, Act.put, List.setIfInBounds_toArray, List.set_cons_zero, List.set_cons_succ]
                  refine wpAnyH_take (i := 18) (v := ?_) rfl (by kernel_rfl) (by kernel_rfl) (by kernel_rfl) (fun _ _ _ h => h) (Or.inl ⟨by rfl, fun wy hSw => ?_⟩) (by assumption) ?_
                  rotate_left 1
                  · clear hSw
                    go_simp
                    try with_reducible rfl
                  try simp only [List.getElem_toArray, List.getElem_cons_zero, List.getElem_cons_succ, Act.put, List.setIfInBounds_toArray, List.set_cons_zero, List.set_cons_succ]
                  refine wpAnyH_done (by kernel_rfl) ?_ _
                  go_wp2_with fail
                  exact ⟨⟨i + 1, by omega, by go_num, by rw [Hhnew.out]; exact Hhown6.out, hB7⟩, by simp [intOf]; omega⟩
              · obtain rfl : i = 8 := by omega
                obtain ⟨h1, h2⟩ := Hhfin.out _ _ hown hB
                have Hh1 := Lib.hid h1
                clear h1
                have Hh2 := Lib.hid h2
                clear h2
                have Hhown := Lib.hid hown
                clear hown
                have HhB := Lib.hid hB
                clear hB
                go_wp2_with fail
                go_ret
                exact ⟨_, rfl, Hh1.out, Hh2.out⟩
end Go.Proofs.YtjbpjmdnmnbonaaDoor
