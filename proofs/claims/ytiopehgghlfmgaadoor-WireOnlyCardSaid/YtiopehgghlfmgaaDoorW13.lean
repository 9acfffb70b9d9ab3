/- The walks of light, write, all. -/
import Derived.Test.YtiopehgghlfmgaaDoorW12
set_option linter.unusedSimpArgs false
set_option linter.unusedVariables false
namespace Go.Proofs.YtiopehgghlfmgaaDoor
open Go.RowKit

structure Val where
  kind : Int
  n : Int
  s : ByteArray
  l : List Int
  t : List ByteArray

/-- the five cells of a value -/
def ValCells (w : World) (b o : Nat) (v : Val) : Prop :=
  ∃ vl vt, w.cell? ⟨b, o, none⟩ = some (.int .i64 v.kind) ∧ w.cell? ⟨b, o + 1, none⟩ = some (.int .i64 v.n) ∧ w.cell? ⟨b, o + 2, none⟩ = some (.string v.s) ∧
    w.cell? ⟨b, o + 3, none⟩ = some vl ∧ w.cell? ⟨b, o + 4, none⟩ = some vt ∧ IntsAt w vl v.l ∧ StrsAt w vt v.t ∧ In64 v.kind ∧ In64 v.n ∧ v.s.size ≤ 9223372036854775807

def ValsAt (w : World) (v : Value) (l : List Val) : Prop :=
  ∃ oa cap, v = .slice oa l.length cap ∧ l.length ≤ 9223372036854775807 ∧
    (0 < l.length → ∃ b off, oa = some ⟨b, off, none⟩ ∧ b < w.heap.size ∧ ∀ k (h : k < l.length), ValCells w b (off + k * 5) l[k])

theorem ValCells.below {w w' : World} {b o : Nat} {v : Val} {B : Nat} (h : ValCells w b o v) (hb : Below B w w') (hB : w.heap.size ≤ B) (hlt : b < w.heap.size) : ValCells w' b o v := by
  obtain ⟨vl, vt, h0, h1, h2, h3, h4, hl, ht, h5⟩ := h
  have hc : ∀ j, w'.cell? ⟨b, j, none⟩ = w.cell? ⟨b, j, none⟩ := fun j => hb.cell (p := ⟨b, j, none⟩) (by simp; omega)
  exact ⟨vl, vt, by rw [hc]; exact h0, by rw [hc]; exact h1, by rw [hc]; exact h2, by rw [hc]; exact h3, by rw [hc]; exact h4, hl.below hb hB, ht.below hb hB, h5⟩
theorem ValsAt.below {w w' : World} {v : Value} {l : List Val} {B : Nat} (h : ValsAt w v l) (hb : Below B w w') (hB : w.heap.size ≤ B) : ValsAt w' v l := by
  obtain ⟨oa, cap, rfl, hm, hc⟩ := h
  refine ⟨oa, cap, rfl, hm, fun h0 => ?_⟩
  obtain ⟨b, off, rfl, hlt, hc⟩ := hc h0
  exact ⟨b, off, rfl, Nat.lt_of_lt_of_le hlt hb.size, fun k hk => (hc k hk).below hb hB hlt⟩
theorem ValsAt.at' {w : World} {oa : Option Addr} {n cap : Nat} {l : List Val} (h : ValsAt w (.slice oa n cap) l) {k : Nat} (hk : k < l.length) :
    n = l.length ∧ ∃ b off, oa = some ⟨b, off, none⟩ ∧ b < w.heap.size ∧ ValCells w b (off + k * 5) l[k] := by
  obtain ⟨oa', cap', hv, _, hc⟩ := h
  obtain ⟨rfl, rfl, rfl⟩ := Value.slice.inj hv
  obtain ⟨b, off, rfl, hb, hc⟩ := hc (by omega)
  exact ⟨rfl, b, off, rfl, hb, hc k hk⟩

/-- the result is true only if P -/
def BoolIf (P : Prop) (w : World) (e : Ending) (w' : World) : Prop := ∃ b, e = .returned (.bool b) ∧ (b = true → P) ∧ w = w'
def Light1 (v : Val) : Prop := v.s.size ≤ 500 ∧ v.l.length ≤ 50 ∧ v.t.length ≤ 50 ∧ ∀ x ∈ v.t, x.size ≤ 500
def Light (l : List Val) : Prop := l.length ≤ 20 ∧ ∀ v ∈ l, Light1 v

set_option maxHeartbeats 1000000 in
theorem light_calls (v : Value) (l : List Val) (w : World) (h : ValsAt w v l) :
    Calls Tryd.prog 9 #[v] w (BoolIf (Light l) w) := by
  have h0 := h
  obtain ⟨oa, cap, rfl, hm, -⟩ := h
  have Hh0 := Lib.hid h0
  clear h0
  go_enter Tryd.func9, Tryd.ntmps9
  by_cases hl : l.length ≤ 20
  · go_wp2_with fail
    go_loop [3] (fun s3 => ∃ i : Nat, i ≤ l.length ∧ s3 = .int .i64 i ∧ ∀ k (hk : k < l.length), k < i → Light1 l[k]) (fun s3 => l.length - (intOf s3).toNat)
    case atStart => exact ⟨0, by omega, rfl, fun k _ h => by omega⟩
    case round =>
      obtain ⟨i, hi, rfl, hall⟩ := hrel
      have Hhall := Lib.hid hall
      clear hall
      by_cases hlt : i < l.length
      · obtain ⟨-, b, off, rfl, hb, vl, vt, d0, d1, d2, d3, d4, hil, hst, r1, r2, r3⟩ := Hh0.out.at' hlt
        have hnext : Light1 l[i] → ∀ k (hk : k < l.length), k < i + 1 → Light1 l[k] := fun h k hk hki => by
          by_cases hk2 : k < i
          · exact Hhall.out k hk hk2
          · obtain rfl : k = i := by omega
            exact h
        generalize l[i] = x at *
        have hil0 := hil
        have hst0 := hst
        obtain ⟨oal, capl, rfl, -, -⟩ := hil
        obtain ⟨oat, capt, rfl, -, -, -⟩ := hst
        clear hil0 r1 r2 d0 d1
        have Hhnext := Lib.hid hnext
        clear hnext
        have Hhst0 := Lib.hid hst0
        clear hst0
        by_cases c1 : x.s.size ≤ 500
        · by_cases c2 : x.l.length ≤ 50
          · by_cases c3 : x.t.length ≤ 50
            · go_wp2_with fail
              go_loop [4] (fun s4 => ∃ k : Nat, k ≤ x.t.length ∧ s4 = .int .i64 k ∧ ∀ j (hj : j < x.t.length), j < k → x.t[j].size ≤ 500) (fun s4 => x.t.length - (intOf s4).toNat)
              case atStart => exact ⟨0, by omega, rfl, fun k _ h => by omega⟩
              case round =>
                obtain ⟨k, hk, rfl, hal2⟩ := hrel
                have Hhal2 := Lib.hid hal2
                clear hal2
                by_cases hkl : k < x.t.length
                · obtain ⟨-, b2, off2, rfl, hb2, hc2⟩ := Hhst0.out.at' hkl
                  have hnx2 : x.t[k].size ≤ 500 → ∀ j (hj : j < x.t.length), j < k + 1 → x.t[j].size ≤ 500 := fun h j hj hjk => by
                    by_cases hk2 : j < k
                    · exact Hhal2.out j hj hk2
                    · obtain rfl : j = k := by omega
                      exact h
                  generalize x.t[k] = y at *
                  have Hhnx2 := Lib.hid hnx2
                  clear hnx2
                  by_cases c4 : y.size ≤ 500
                  · go_wp2_with fail
                    exact ⟨⟨k + 1, by omega, by go_num, Hhnx2.out c4⟩, by simp [intOf]; omega⟩
                  · go_wp2_with fail
                    go_ret
                    exact ⟨false, rfl, by simp, rfl⟩
                · go_wp2_with fail
                  refine ⟨⟨i + 1, by omega, by go_num, Hhnext.out ⟨c1, c2, c3, fun y hy => ?_⟩⟩, by simp [intOf]; omega⟩
                  obtain ⟨j, hj, rfl⟩ := List.getElem_of_mem hy
                  exact Hhal2.out j hj (by omega)
            · go_wp2_with fail
              go_ret
              exact ⟨false, rfl, by simp, rfl⟩
          · go_wp2_with fail
            go_ret
            exact ⟨false, rfl, by simp, rfl⟩
        · go_wp2_with fail
          go_ret
          exact ⟨false, rfl, by simp, rfl⟩
      · go_wp2_with fail
        go_ret
        refine ⟨true, rfl, fun _ => ⟨hl, fun v hv => ?_⟩, rfl⟩
        obtain ⟨j, hj, rfl⟩ := List.getElem_of_mem hv
        exact Hhall.out j hj (by omega)
  · go_wp2_with fail
    go_ret
    exact ⟨false, rfl, by simp, rfl⟩

/-- which kind a value has -/
def kd (v : Val) : Nat := (v.kind % 4).toNat
def encVal (v : Val) : List UInt8 := if kd v = 0 then encInt v.n else if kd v = 1 then encText v.s.data.toList else if kd v = 2 then encNums v.l else encTexts v.t
def encAll (l : List Val) : List UInt8 := l.flatMap encVal

theorem i64_and3 (n : Int) : bits .and .i64 n 3 = n % 4 := by
  have h127 : (BitVec.ofInt 64 3).toNat = 2 ^ 2 - 1 := by decide
  have key : (BitVec.ofInt 64 n &&& BitVec.ofInt 64 3).toNat = (n % ((2 ^ 64 : Nat) : Int)).toNat % 2 ^ 2 := by
    rw [BitVec.toNat_and, BitVec.toNat_ofInt, h127, Nat.and_two_pow_sub_one_eq_mod]
  show IntKind.i64.wrap ((BitVec.ofInt 64 n &&& BitVec.ofInt 64 3).toNat : Nat) = n % 4
  rw [key, IntKind.wrap_i64]
  omega

theorem encNums_len (l : List Int) (h : ∀ x ∈ l, In64 x) : (encNums l).length ≤ 10 * l.length + 1 := by
  have := numsT_le l h l.length
  rw [← numsT_full]
  simp; omega
theorem encTexts_len (l : List ByteArray) (h : ∀ x ∈ l, x.size ≤ 1000000) : (encTexts l).length ≤ 2000003 * l.length + 1 := by
  have := textsT_le l h l.length
  rw [← textsT_full]
  simp; omega
theorem encVal_len (v : Val) (h : Light1 v) (hn : In64 v.n) (hl : ∀ x ∈ v.l, In64 x) : (encVal v).length ≤ 1000000000 := by
  obtain ⟨h1, h2, h3, h4⟩ := h
  have e1 := encInt_len v.n hn
  have e2 := encText_len v.s (by omega)
  have e3 := encNums_len v.l hl
  have e4 := encTexts_len v.t (fun x hx => by have := h4 x hx; omega)
  unfold encVal
  split
  · omega
  · split
    · omega
    · split
      · omega
      · omega

/-- a value as it is handed on -/
def ValIs (w : World) (x : Value) (v : Val) : Prop :=
  ∃ vl vt, x = .agg #[.int .i64 v.kind, .int .i64 v.n, .string v.s, vl, vt] ∧ IntsAt w vl v.l ∧ StrsAt w vt v.t ∧ In64 v.kind ∧ In64 v.n ∧ v.s.size ≤ 9223372036854775807
theorem ValIs.below {w w' : World} {x : Value} {v : Val} {B : Nat} (h : ValIs w x v) (hb : Below B w w') (hB : w.heap.size ≤ B) : ValIs w' x v := by
  obtain ⟨vl, vt, rfl, hl, ht, h5⟩ := h
  exact ⟨vl, vt, rfl, hl.below hb hB, ht.below hb hB, h5⟩

theorem IntsAt.in64 {w : World} {v : Value} {l : List Int} (h : IntsAt w v l) : ∀ x ∈ l, In64 x := by
  obtain ⟨_, _, _, _, hr, _⟩ := h
  exact hr

theorem write_calls (x : Value) (v : Val) (m : Int) (w : World) (h : ValIs w x v) (hl : Light1 v) (hm : w.cell? ⟨0, 0, none⟩ = some (.int .i64 m)) (h0 : 0 < w.heap.size) :
    Calls Tryd.prog 47 #[x] w fun e w' => e = .returned (.string ⟨(encVal v).toArray⟩) ∧ Below w.heap.size w w' := by
  obtain ⟨vl, vt, rfl, hil, hst, r1, r2, r3⟩ := h
  have hand := i64_and3 v.kind
  have hk : kd v = (v.kind % 4).toNat := rfl
  have hk4 : kd v < 4 := by unfold kd; omega
  have hkm : v.kind % 4 = (kd v : Int) := by unfold kd; omega
  rw [hkm] at hand
  have hE : encVal v = if kd v = 0 then encInt v.n else if kd v = 1 then encText v.s.data.toList else if kd v = 2 then encNums v.l else encTexts v.t := rfl
  clear hk hkm
  generalize kd v = k at *
  have hm1 : ∀ o, (w.alloc o).cell? ⟨0, 0, none⟩ = some (.int .i64 m) := fun o => by rw [← hm]; exact ((Below.refl w.heap.size w).alloc (Nat.le_refl _) o).cell (p := ⟨0, 0, none⟩) h0
  have HhE := Lib.hid hE
  clear hE
  have Hhil := Lib.hid hil
  clear hil
  have Hhst := Lib.hid hst
  clear hst
  have Hhm1 := Lib.hid hm1
  clear hm1
  have hcase : k = 0 ∨ k = 1 ∨ k = 2 ∨ k = 3 := by omega
  obtain ⟨hl1, hl2, hl3, hl4⟩ := hl
  rcases hcase with rfl | rfl | rfl | rfl
  · have hE2 : encVal v = encInt v.n := by rw [HhE.out]; rfl
    have HhE2 := Lib.hid hE2
    clear hE2
    go_enter Tryd.func47, Tryd.ntmps47
    go_wp2_with fail
    refine (Int_calls _ _ r2).mono ?_
    rintro e w1 ⟨rfl, hB⟩
    go_wp2_with fail
    go_ret
    rw [HhE2.out]
    exact ⟨rfl, (by ((repeat' (first | exact Below.refl _ _ | (refine Below.alloc ?_ ?_ _) | (refine Below.setCell ?_ ?_ _) | (refine Below.drew ?_) | (refine Below.trans ?_ (Below.mono (by assumption) ?_)))) <;> ((try simp only [World.size_alloc, World.size_setCell, World.size_drew] at *); omega)))⟩
  · have hE2 : encVal v = encText v.s.data.toList := by rw [HhE.out]; rfl
    have HhE2 := Lib.hid hE2
    clear hE2
    go_enter Tryd.func47, Tryd.ntmps47
    go_wp2_with fail
    refine (Text_calls _ m _ (by omega) (Hhm1.out _)).mono ?_
    rintro e w1 ⟨rfl, hB⟩
    go_wp2_with fail
    go_ret
    rw [HhE2.out]
    exact ⟨rfl, (by ((repeat' (first | exact Below.refl _ _ | (refine Below.alloc ?_ ?_ _) | (refine Below.setCell ?_ ?_ _) | (refine Below.drew ?_) | (refine Below.trans ?_ (Below.mono (by assumption) ?_)))) <;> ((try simp only [World.size_alloc, World.size_setCell, World.size_drew] at *); omega)))⟩
  · have hE2 : encVal v = encNums v.l := by rw [HhE.out]; rfl
    have HhE2 := Lib.hid hE2
    clear hE2
    go_enter Tryd.func47, Tryd.ntmps47
    go_wp2_with fail
    refine (Nums_calls _ v.l _ (Hhil.out.below (B := w.heap.size) (by ((repeat' (first | exact Below.refl _ _ | (refine Below.alloc ?_ ?_ _) | (refine Below.setCell ?_ ?_ _) | (refine Below.drew ?_) | (refine Below.trans ?_ (Below.mono (by assumption) ?_)))) <;> ((try simp only [World.size_alloc, World.size_setCell, World.size_drew] at *); omega))) (Nat.le_refl _)) (by omega)).mono ?_
    rintro e w1 ⟨rfl, hB⟩
    go_wp2_with fail
    go_ret
    rw [HhE2.out]
    exact ⟨rfl, (by ((repeat' (first | exact Below.refl _ _ | (refine Below.alloc ?_ ?_ _) | (refine Below.setCell ?_ ?_ _) | (refine Below.drew ?_) | (refine Below.trans ?_ (Below.mono (by assumption) ?_)))) <;> ((try simp only [World.size_alloc, World.size_setCell, World.size_drew] at *); omega)))⟩
  · have hE2 : encVal v = encTexts v.t := by rw [HhE.out]; rfl
    have HhE2 := Lib.hid hE2
    clear hE2
    go_enter Tryd.func47, Tryd.ntmps47
    go_wp2_with fail
    refine (Texts_calls _ v.t m _ (Hhst.out.below (B := w.heap.size) (by ((repeat' (first | exact Below.refl _ _ | (refine Below.alloc ?_ ?_ _) | (refine Below.setCell ?_ ?_ _) | (refine Below.drew ?_) | (refine Below.trans ?_ (Below.mono (by assumption) ?_)))) <;> ((try simp only [World.size_alloc, World.size_setCell, World.size_drew] at *); omega))) (Nat.le_refl _)) (by omega) (fun x hx => by have := hl4 x hx; omega) (Hhm1.out _)).mono ?_
    rintro e w1 ⟨rfl, hB⟩
    go_wp2_with fail
    go_ret
    rw [HhE2.out]
    exact ⟨rfl, (by ((repeat' (first | exact Below.refl _ _ | (refine Below.alloc ?_ ?_ _) | (refine Below.setCell ?_ ?_ _) | (refine Below.drew ?_) | (refine Below.trans ?_ (Below.mono (by assumption) ?_)))) <;> ((try simp only [World.size_alloc, World.size_setCell, World.size_drew] at *); omega)))⟩

theorem encAll_succ (l : List Val) (i : Nat) (h : i < l.length) : encAll (l.take (i + 1)) = encAll (l.take i) ++ encVal l[i] := by
  unfold encAll
  rw [take_snoc' _ _ h, List.flatMap_append]
  simp only [List.flatMap_cons, List.flatMap_nil, List.append_nil]

set_option maxHeartbeats 400000 in
theorem all_calls (v : Value) (l : List Val) (m : Int) (w : World) (h : ValsAt w v l) (hL : Light l) (hm : w.cell? ⟨0, 0, none⟩ = some (.int .i64 m)) (h0 : 0 < w.heap.size) :
    Calls Tryd.prog 20 #[v] w fun e w' => e = .returned (.string ⟨(encAll l).toArray⟩) ∧ (encAll l).length ≤ 20000000000 ∧ Below w.heap.size w w' := by
  have hv0 := h
  obtain ⟨oa, cap, rfl, hmx, -⟩ := h
  obtain ⟨hl20, hL⟩ := hL
  have Hhv0 := Lib.hid hv0
  clear hv0
  have HhL := Lib.hid hL
  clear hL
  have Hhm := Lib.hid hm
  clear hm
  go_enter Tryd.func20, Tryd.ntmps20
  go_wp2_with fail
  go_loopw [3, 4] (fun s3 s4 wr => ∃ i : Nat, i ≤ l.length ∧ s4 = .int .i64 i ∧ s3 = .string ⟨(encAll (l.take i)).toArray⟩ ∧ (encAll (l.take i)).length ≤ 1000000000 * i ∧ Below w.heap.size w wr) (fun _ s4 _ => l.length - (intOf s4).toNat)
  case atStart => exact ⟨0, by omega, rfl, rfl, by simp [encAll], Below.refl _ _⟩
  case round =>
    obtain ⟨i, hi, rfl, rfl, hlen, hB⟩ := hrel
    have hsz := hB.size
    by_cases hlt : i < l.length
    · obtain ⟨-, b, off, rfl, hb, vl, vt, d0, d1, d2, d3, d4, hil, hst, r1, r2, r3⟩ := (Hhv0.out.below hB (Nat.le_refl _)).at' hlt
      have hi1 := hil.in64
      have hlx := HhL.out l[i] (List.getElem_mem hlt)
      have hel := encVal_len l[i] hlx r2 hi1
      have hcat := cat_run (encAll (l.take i)) (encVal l[i]) (by omega)
      have hsucc := encAll_succ l i hlt
      rw [← hsucc] at hcat
      have hm1 : wr.cell? ⟨0, 0, none⟩ = some (.int .i64 m) := by rw [← Hhm.out]; exact hB.cell (p := ⟨0, 0, none⟩) h0
      have hlen2 : (encAll (l.take (i + 1))).length ≤ 1000000000 * (i + 1) := by rw [hsucc]; simp; omega
      generalize l[i] = x at *
      have Hhi1 := Lib.hid hi1
      clear hi1
      have Hhlx := Lib.hid hlx
      clear hlx
      have Hhil := Lib.hid hil
      clear hil
      have Hhst := Lib.hid hst
      clear hst
      have Hhsucc := Lib.hid hsucc
      clear hsucc
      have Hhm1 := Lib.hid hm1
      clear hm1
      go_wp2_with fail
      refine (write_calls _ x m _ ⟨vl, vt, rfl, Hhil.out, Hhst.out, r1, r2, r3⟩ Hhlx.out Hhm1.out (by omega)).mono ?_
      rintro e w1 ⟨rfl, hB1⟩
      go_wp2_with fail
      exact ⟨⟨i + 1, by omega, by go_num, rfl, hlen2, (by ((repeat' (first | exact Below.refl _ _ | (refine Below.alloc ?_ ?_ _) | (refine Below.setCell ?_ ?_ _) | (refine Below.drew ?_) | (refine Below.trans ?_ (Below.mono (by assumption) ?_)))) <;> ((try simp only [World.size_alloc, World.size_setCell, World.size_drew] at *); omega)))⟩, by simp [intOf]; omega⟩
    · obtain rfl : i = l.length := by omega
      rw [List.take_length] at hlen ⊢
      go_wp2_with fail
      go_ret
      exact ⟨rfl, by omega, (by ((repeat' (first | exact Below.refl _ _ | (refine Below.alloc ?_ ?_ _) | (refine Below.setCell ?_ ?_ _) | (refine Below.drew ?_) | (refine Below.trans ?_ (Below.mono (by assumption) ?_)))) <;> ((try simp only [World.size_alloc, World.size_setCell, World.size_drew] at *); omega)))⟩
end Go.Proofs.YtiopehgghlfmgaaDoor
