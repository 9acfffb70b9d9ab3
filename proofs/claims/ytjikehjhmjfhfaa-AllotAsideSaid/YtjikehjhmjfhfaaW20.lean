/- The law AllotAside. -/
import Derived.Test.YtjikehjhmjfhfaaW16
import Derived.Test.YtjikehjhmjfhfaaPlain3
import Derived.Test.YtjikehjhmjfhfaaW17
import Derived.Test.YtjikehjhmjfhfaaPlain4
import Derived.BigQuiet
import Derived.Deep.RegionHeld3
namespace Go.Proofs.Ytjikehjhmjfhfaa
open Go.RowKit

def nthB (l : List Bool) (k : Nat) : Bool := l[k]?.getD false
/-- a slice value reads as the Booleans -/
def BoolsAt (w : World) (v : Value) (l : List Bool) : Prop :=
  ∃ oa cap, v = .slice oa l.length cap ∧ l.length ≤ 9223372036854775807 ∧
   (0 < l.length → ∃ b off, oa = some ⟨b, off, none⟩ ∧ b < w.heap.size ∧ ∀ k, k < l.length → w.cell? ⟨b, off + k, none⟩ = some (.bool (nthB l k)))
theorem BoolsAt.below {w w' : World} {v : Value} {l : List Bool} {B : Nat} (h : BoolsAt w v l) (hb : Below B w w') (hB : w.heap.size ≤ B) : BoolsAt w' v l := by
  obtain ⟨oa, cap, rfl, hm, hc⟩ := h
  refine ⟨oa, cap, rfl, hm, fun h0 => ?_⟩
  obtain ⟨b, off, rfl, hb1, hc1⟩ := hc h0
  refine ⟨b, off, rfl, Nat.lt_of_lt_of_le hb1 hb.size, fun k hk => ?_⟩
  rw [← hc1 k hk]
  exact hb.cell (p := ⟨b, off + k, none⟩) (Nat.lt_of_lt_of_le hb1 hB)
theorem BoolsAt.at' {w : World} {oa : Option Addr} {n cap : Nat} {l : List Bool} (h : BoolsAt w (.slice oa n cap) l) {k : Nat} (hk : k < l.length) :
    n = l.length ∧ ∃ b off, oa = some ⟨b, off, none⟩ ∧ b < w.heap.size ∧ w.cell? ⟨b, off + k, none⟩ = some (.bool (nthB l k)) := by
  obtain ⟨oa', cap', hv, _, hc⟩ := h
  obtain ⟨rfl, rfl, rfl⟩ := Value.slice.inj hv
  obtain ⟨b, off, rfl, hb, hc⟩ := hc (by omega)
  exact ⟨rfl, b, off, rfl, hb, hc k hk⟩

theorem ownsRow_ne {w : World} {b1 b2 : Nat} {e1 e2 : TypeId} {s1 s2 : Nat} {v1 v2 : Value} {n1 n2 : Nat} {x1 x2 : List Value} (h1 : w.ownsRow b1 e1 s1 v1 n1 x1) (h2 : w.ownsRow b2 e2 s2 v2 n2 x2) (he : e1 ≠ e2) : v1.ownBlock = none ∨ v1.ownBlock ≠ v2.ownBlock := by
  rcases h1.2 with ⟨rfl, _⟩ | ⟨g1, c1, u1, rfl, _, hg1, _⟩
  · exact .inl rfl
  · right
    intro h
    rcases h2.2 with ⟨rfl, _⟩ | ⟨g2, c2, u2, rfl, _, hg2, _⟩
    · simp [Value.ownBlock] at h
    · simp only [Value.ownBlock, Option.some.injEq] at h
      subst h
      rw [hg1] at hg2
      simp only [Option.some.injEq, Obj.cells.injEq] at hg2
      exact he hg2.2.1

def rcells (l : List Rt) : List Value := l.flatMap Rt.cells
theorem rcells_at : ∀ (l : List Rt) (k : Nat) (h : k < l.length) (j : Nat), j < 9 → (rcells l)[k * 9 + j]? = l[k].cells[j]?
  | [], k, h, _, _ => by simp at h
  | x :: l, 0, h, j, hj => by
    simp only [rcells, List.flatMap_cons, Nat.zero_mul, Nat.zero_add, List.getElem_cons_zero]
    rw [List.getElem?_append_left (by simpa [Rt.cells] using hj)]
  | x :: l, k + 1, h, j, hj => by
    have := rcells_at l k (by simpa using h) j hj
    simp only [rcells, List.flatMap_cons, List.getElem_cons_succ] at this ⊢
    rw [List.getElem?_append_right (by simp [Rt.cells]; omega), ← this]
    congr 1
    simp [Rt.cells]
    omega
theorem RightsAt.of_owned {w : World} {base : Nat} {v : Value} {l : List Rt} (h : w.ownsRow base 45 9 v l.length (rcells l)) (hr : ∀ x ∈ l, x.in64) (hm : l.length ≤ 9223372036854775807) : RightsAt w v l := by
  rcases h.2 with ⟨rfl, hn⟩ | ⟨g, cap, cur, rfl, hb, hg, hnc, hcm, hcs, htake⟩
  · obtain rfl := List.eq_nil_of_length_eq_zero hn
    exact ⟨none, 0, rfl, by simp, by simp, by simp⟩
  · refine ⟨_, cap, rfl, hm, hr, fun h0 => ⟨g, 0, rfl, (Array.getElem?_eq_some_iff.1 hg).1, fun k hk j u hu => ?_⟩⟩
    have hj : j < 9 := (List.getElem?_eq_some_iff.1 hu).1
    have h1 := h.cellAt (g := g) (cap := cap) (k * 9 + j) (by omega)
    rw [Nat.zero_add, h1, rcells_at l k hk j hj, hu]

theorem info45 : (Try.prog.info? 45).map (fun i => (i.zero, i.size, i.bytes)) = some (some (.agg #[.int .i64 0, .int .i64 0, .int .i64 0, .int .i64 0, .int .i64 0, .int .i64 0, .int .i64 0, .int .i64 0, .int .i64 0]), 9, 72) := by kernel_rfl

theorem append_right {ops : Array Oper} {rest : List Oper} {o : Oper} {a : Act} {Q : Exit → Act → World → Prop} {w : World} (hgd : o.guard = none) (s x : Operand)
    (ho : o.op = .call { callee := .builtin .append, args := #[s, x], argTypes := #[32, 32] }) (base : Nat) (v : Value) (n : Nat) (xs : List Value) (hs : a.eval s = v) (hown : w.ownsRow base 45 9 v n xs)
    (b : Nat) (r : Rt) (hx : a.eval x = .slice (some ⟨b, 0, none⟩) 1 1) (hc : ∀ j u, r.cells[j]? = some u → w.cell? ⟨b, j, none⟩ = some u) (hn : n + 1 ≤ 1099511627776) (hbase : base ≤ w.heap.size)
    (h : ∀ v' w', w'.ownsRow base 45 9 v' (n + 1) (xs ++ r.cells) → w.grownBy w' v.ownBlock → Below base w w' → wpList Try.prog ops Q rest (a.put o.dst v') w') : wpList Try.prog ops Q (o :: rest) a w := by
  obtain ⟨i0, hi, hz0, hz1, hz2⟩ := info_parts info45
  refine wpList_append_own w hgd s x 32 ho base 45 i0 _ 9 72 Try.underlying32 hi hz0 hz1 hz2 rfl (by decide) v n xs hs hown ⟨b, 0, none⟩ 1 1 r.cells hx rfl ?_ ?_ ?_ ?_ hbase ?_
  · intro j u hu
    have := hc j u hu
    rw [Addr.add_lit, Nat.zero_add]
    exact this
  · intro u hu; simp [Rt.cells] at hu; rcases hu with rfl | rfl | rfl | rfl | rfl | rfl | rfl | rfl | rfl <;> rfl
  · unfold maxLen; omega
  · omega
  · intro v' w' h1 h2 _
    refine h v' w' h1 h2 ⟨h2.os, h2.tape, h2.output, h2.size, fun k hk => h2.block k (by omega) (fun e => ?_)⟩
    have := (hown.lt k e.symm).1
    omega

theorem append_int2 {ops : Array Oper} {rest : List Oper} {o : Oper} {a : Act} {Q : Exit → Act → World → Prop} {w : World} (hgd : o.guard = none) (s x : Operand)
    (ho : o.op = .call { callee := .builtin .append, args := #[s, x], argTypes := #[29, 29] }) (base : Nat) (v : Value) (n : Nat) (xs : List Value) (hs : a.eval s = v) (hown : w.ownsRow base 3 1 v n xs)
    (b : Nat) (y : Int) (hx : a.eval x = .slice (some ⟨b, 0, none⟩) 1 1) (hc : w.cell? ⟨b, 0, none⟩ = some (.int .i64 y)) (hn : n + 1 ≤ 17592186044416) (hbase : base ≤ w.heap.size)
    (h : ∀ v' w', w'.ownsRow base 3 1 v' (n + 1) (xs ++ [.int .i64 y]) → w.grownBy w' v.ownBlock → Below base w w' → wpList Try.prog ops Q rest (a.put o.dst v') w') : wpList Try.prog ops Q (o :: rest) a w := by
  obtain ⟨i0, hi, hz0, hz1, hz2⟩ := info_parts info3
  refine wpList_append_own w hgd s x 29 ho base 3 i0 (.int .i64 0) 1 8 Try.underlying29 hi hz0 hz1 hz2 rfl (by decide) v n xs hs hown ⟨b, 0, none⟩ 1 1 [.int .i64 y] hx rfl ?_ ?_ ?_ ?_ hbase ?_
  · intro j u hu
    cases j with
    | zero => simp at hu; subst hu; simpa [Addr.add] using hc
    | succ j => simp at hu
  · intro u hu; simp at hu; subst hu; rfl
  · unfold maxLen; omega
  · omega
  · intro v' w' h1 h2 _
    refine h v' w' h1 h2 ⟨h2.os, h2.tape, h2.output, h2.size, fun k hk => h2.block k (by omega) (fun e => ?_)⟩
    have := (hown.lt k e.symm).1
    omega

/-- how many of the places are marked -/
def cnt (mk : Int → Bool) (l : List Int) : Nat := (l.filter mk).length
theorem cnt_snoc (mk : Int → Bool) (l : List Int) (q : Int) : cnt mk (l ++ [q]) = cnt mk l + if mk q = true then 1 else 0 := by
  unfold cnt
  rw [List.filter_append]
  cases h : mk q <;> simp [List.filter_cons, h]
theorem cnt_le (mk : Int → Bool) (l : List Int) : cnt mk l ≤ l.length := List.length_filter_le _ _
theorem cnt_any {mk : Int → Bool} {l : List Int} : (l.any mk = true ↔ 0 < cnt mk l) := by
  unfold cnt
  rw [List.any_eq_true, List.length_pos_iff_exists_mem]
  constructor
  · rintro ⟨x, hx, h⟩; exact ⟨x, by simp [hx, h]⟩
  · rintro ⟨x, hx⟩; simp at hx; exact ⟨x, hx.1, hx.2⟩
theorem cnt_all {mk : Int → Bool} {l : List Int} (h : cnt mk l = l.length) : ∀ q ∈ l, mk q = true := by
  unfold cnt at h
  have := List.length_filter_eq_length_iff.1 h
  exact fun q hq => this q hq

set_option maxRecDepth 100000 in
set_option maxHeartbeats 40000000 in
theorem Aside_calls (v vr vs vm : Value) (pl : List Pl) (rs : List Rt) (supply : List Int) (ml : List Bool) (w : World) (h : BasinAt w v pl) (hr : RightsAt w vr rs) (hs : IntsAt w vs supply) (hml : BoolsAt w vm ml) :
    Calls Try.prog 6 #[v, vr, vs, vm] w fun e w' => e = .returned (.bool true) ∧ Below w.heap.size w w' := by
  have hml0 := hml
  obtain ⟨oam, capm, rfl, hmlm, -⟩ := hml
  have Hhml0 := Lib.hid hml0
  clear hml0
  have hbas := h
  obtain ⟨hm, x0, x1, x2, oa, cap, x4, x5, x6, x7, x8, x9, x10, rfl, hp⟩ := h
  have hr0 := hr
  obtain ⟨oar, capr, rfl, hrm, -, -⟩ := hr
  clear hp
  have Hhbas := Lib.hid hbas
  clear hbas
  have Hhr0 := Lib.hid hr0
  clear hr0
  have Hhs := Lib.hid hs
  clear hs
  go_enter Try.func6, Try.ntmps6
  go_wp2_with fail
  refine (small_calls _).mono ?_
  rintro e w1 ⟨rfl, hB1⟩
  have hsz1 := hB1.size
  simp only [World.size_alloc] at hsz1
  have hbox1 : ∀ j, w1.cell? ⟨w.heap.size, j, none⟩ = (w.alloc (.cells #[x0, x1, x2, .slice oa pl.length cap, x4, x5, x6, x7, x8, x9, x10] 31)).cell? ⟨w.heap.size, j, none⟩ := fun j => hB1.cell (p := ⟨w.heap.size, j, none⟩) (by simp)
  go_wp2_with fail
  refine (few_calls _ _ _ pl rs _ _ _ w1 (Hhbas.out.below (w' := w1) (by ((repeat' (first | exact Below.refl _ _ | (refine Below.alloc ?_ ?_ _) | (refine Below.setCell ?_ ?_ _) | (refine Below.drew ?_) | (refine Below.trans ?_ (Below.mono (by assumption) ?_)))) <;> ((try simp only [World.size_alloc, World.size_setCell, World.size_drew] at *); omega))) (Nat.le_refl _)) (Hhr0.out.below (w' := w1) (by ((repeat' (first | exact Below.refl _ _ | (refine Below.alloc ?_ ?_ _) | (refine Below.setCell ?_ ?_ _) | (refine Below.drew ?_) | (refine Below.trans ?_ (Below.mono (by assumption) ?_)))) <;> ((try simp only [World.size_alloc, World.size_setCell, World.size_drew] at *); omega))) (Nat.le_refl _)) rfl).mono ?_
  rintro e w2 ⟨rfl, hB2⟩
  have hsz2 := hB2.size
  have hbox2 : ∀ j, w2.cell? ⟨w.heap.size, j, none⟩ = (w.alloc (.cells #[x0, x1, x2, .slice oa pl.length cap, x4, x5, x6, x7, x8, x9, x10] 31)).cell? ⟨w.heap.size, j, none⟩ := fun j => (hB2.cell (p := ⟨w.heap.size, j, none⟩) (by simp; omega)).trans (hbox1 j)
  by_cases f1 : pl.length ≤ 64
  rotate_left
  · go_wp2_with fail
    go_ret
    exact ⟨rfl, (by ((repeat' (first | exact Below.refl _ _ | (refine Below.alloc ?_ ?_ _) | (refine Below.setCell ?_ ?_ _) | (refine Below.drew ?_) | (refine Below.trans ?_ (Below.mono (by assumption) ?_)))) <;> ((try simp only [World.size_alloc, World.size_setCell, World.size_drew] at *); omega)))⟩
  by_cases f2 : rs.length ≤ 40
  rotate_left
  · go_wp2_with fail
    go_ret
    exact ⟨rfl, (by ((repeat' (first | exact Below.refl _ _ | (refine Below.alloc ?_ ?_ _) | (refine Below.setCell ?_ ?_ _) | (refine Below.drew ?_) | (refine Below.trans ?_ (Below.mono (by assumption) ?_)))) <;> ((try simp only [World.size_alloc, World.size_setCell, World.size_drew] at *); omega)))⟩
  by_cases f3 : (ml.length : Int) < pl.length
  · go_wp2_with fail
    go_ret
    exact ⟨rfl, (by ((repeat' (first | exact Below.refl _ _ | (refine Below.alloc ?_ ?_ _) | (refine Below.setCell ?_ ?_ _) | (refine Below.drew ?_) | (refine Below.trans ?_ (Below.mono (by assumption) ?_)))) <;> ((try simp only [World.size_alloc, World.size_setCell, World.size_drew] at *); omega)))⟩
  have hmk : ∃ mk : Int → Bool, ∀ k : Nat, mk k = nthB ml k := ⟨fun q => nthB ml q.toNat, fun k => by simp⟩
  obtain ⟨mk, hmk⟩ := hmk
  have h64 : ∀ r ∈ rs, r.in64 := by obtain ⟨_, _, _, _, h64, _⟩ := Hhr0.out; exact h64
  have Hhmk := Lib.hid hmk
  clear hmk
  have Hh64 := Lib.hid h64
  clear h64
  have f3n : decide (ml.length < pl.length) = false := by simp; omega
  go_wp2_with fail
  clear f3n
  go_loopw [11, 12, 13] (fun s11 s12 s13 wr => ∃ i : Nat, i ≤ rs.length ∧ s13 = .int .i64 i ∧ (∀ k (hk : k < rs.length), k < i → Fair pl mk rs[k]) ∧
      wr.ownsRow w2.heap.size 45 9 s11 (some' pl mk (rs.take i)).length (rcells (some' pl mk (rs.take i))) ∧ wr.ownsRow w2.heap.size 3 1 s12 (idxs pl mk rs i).length (((idxs pl mk rs i).map (fun (k : Nat) => (k : Int))).map (.int .i64)) ∧ Below w2.heap.size w2 wr) (fun _ _ s13 _ => rs.length - (intOf s13).toNat)
  case atStart => exact ⟨0, by omega, rfl, fun k _ h => by omega, by simpa [some', rcells] using World.ownsRow_nil _ _ _ _, by simpa [idxs] using World.ownsRow_nil _ _ _ _, Below.refl _ _⟩
  case round =>
    obtain ⟨i, hi, rfl, hfair, hS, hA, hB⟩ := hrel
    have hsz := hB.size
    have hbox : ∀ j, wr.cell? ⟨w.heap.size, j, none⟩ = (w.alloc (.cells #[x0, x1, x2, .slice oa pl.length cap, x4, x5, x6, x7, x8, x9, x10] 31)).cell? ⟨w.heap.size, j, none⟩ := fun j => (hB.cell (p := ⟨w.heap.size, j, none⟩) (by simp; omega)).trans (hbox2 j)
    by_cases hlt : i < rs.length
    · have hyS := some_yes (pl := pl) (mk := mk) hlt
      have hnS := some_no (pl := pl) (mk := mk) hlt
      have hyA := idxs_yes (pl := pl) (mk := mk) hlt
      have hnA := idxs_no (pl := pl) (mk := mk) hlt
      have hsl : (some' pl mk (rs.take i)).length ≤ rs.length := Nat.le_trans (List.length_filter_le _ _) (by rw [List.length_take]; omega)
      have hil : (idxs pl mk rs i).length = (some' pl mk (rs.take i)).length := idxs_length pl mk rs i hi
      have hrB := Hhr0.out.below (w' := wr) (by ((repeat' (first | exact Below.refl _ _ | (refine Below.alloc ?_ ?_ _) | (refine Below.setCell ?_ ?_ _) | (refine Below.drew ?_) | (refine Below.trans ?_ (Below.mono (by assumption) ?_)))) <;> ((try simp only [World.size_alloc, World.size_setCell, World.size_drew] at *); omega))) (Nat.le_refl _)
      have hr64 := hrB.in64 hlt
      obtain ⟨b, off, rfl, hb, hrc⟩ := hrB.at' hlt
      have hsel : sel pl mk rs[i] = (reach pl rs[i].place).any mk := rfl
      have hfi : (∀ q ∈ reach pl rs[i].place, mk q = true) ∨ sel pl mk rs[i] = false → ∀ k (hk : k < rs.length), k < i + 1 → Fair pl mk rs[k] := fun h k hk hki => by
        by_cases hk2 : k < i
        · exact hfair k hk hk2
        · obtain rfl : k = i := by omega
          intro hs
          rcases h with h | h
          · exact h
          · rw [h] at hs; cases hs
      have hrcw : ∀ (wx : World), Below wr.heap.size wr wx → ∀ j u, rs[i].cells[j]? = some u → wx.cell? ⟨b, off + i * 9 + j, none⟩ = some u := fun wx hx j u hu => by rw [← hrc j u hu]; exact hx.cell (p := ⟨b, _, none⟩) hb
      have hway := reach_ways pl rs[i].place
      generalize some' pl mk (rs.take i) = sl at *
      generalize idxs pl mk rs i = il at *
      generalize hri : rs[i] = r at *
      obtain ⟨-, -, -, d3, -, -, -, -, -⟩ := right_cells hrc
      clear hrB hrc hfair
      have HhyS := Lib.hid hyS
      clear hyS
      have HhnS := Lib.hid hnS
      clear hnS
      have HhyA := Lib.hid hyA
      clear hyA
      have HhnA := Lib.hid hnA
      clear hnA
      have Hhr64 := Lib.hid hr64
      clear hr64
      have Hhsel := Lib.hid hsel
      clear hsel
      have Hhfi := Lib.hid hfi
      clear hfi
      have Hhrcw := Lib.hid hrcw
      clear hrcw
      have Hhway := Lib.hid hway
      clear hway
      have Hhri := Lib.hid hri
      clear hri
      have HhS := Lib.hid hS
      clear hS
      have HhA := Lib.hid hA
      clear hA
      go_wp2_with fail
      go_still_tail 6, (by kernel_rfl)
      go_wp2_with fail
      refine (Reach_calls _ pl r.place wr.drew (Hhbas.out.below (Below.drew (by ((repeat' (first | exact Below.refl _ _ | (refine Below.alloc ?_ ?_ _) | (refine Below.setCell ?_ ?_ _) | (refine Below.drew ?_) | (refine Below.trans ?_ (Below.mono (by assumption) ?_)))) <;> ((try simp only [World.size_alloc, World.size_setCell, World.size_drew] at *); omega)))) (Nat.le_refl _)) Hhr64.out.2.2.2.1 (by omega)).mono ?_
      rintro e w3 ⟨rv, rfl, hown3, hB3⟩
      replace hB3 : Below wr.heap.size wr w3 := (Below.refl _ _).drew.trans hB3
      replace hown3 : w3.ownsRow wr.heap.size 3 1 rv (reach pl r.place).length ((reach pl r.place).map (.int .i64)) := hown3
      have hsz3 := hB3.size
      have hS3 := ownsRow_below HhS.out hB3 (Nat.le_refl _)
      have hA3 := ownsRow_below HhA.out hB3 (Nat.le_refl _)
      have hM3 := Hhml0.out.below (w' := w3) (B := w.heap.size) (by ((repeat' (first | exact Below.refl _ _ | (refine Below.alloc ?_ ?_ _) | (refine Below.setCell ?_ ?_ _) | (refine Below.drew ?_) | (refine Below.trans ?_ (Below.mono (by assumption) ?_)))) <;> ((try simp only [World.size_alloc, World.size_setCell, World.size_drew] at *); omega))) (Nat.le_refl _)
      obtain ⟨oa3, cap3, rfl⟩ := own_open hown3
      have hbox3 : ∀ j, w3.cell? ⟨w.heap.size, j, none⟩ = (w.alloc (.cells #[x0, x1, x2, .slice oa pl.length cap, x4, x5, x6, x7, x8, x9, x10] 31)).cell? ⟨w.heap.size, j, none⟩ := fun j => (hB3.cell (p := ⟨w.heap.size, j, none⟩) (by simp; omega)).trans (hbox j)
      obtain ⟨c0, c1, c2, c3, c4, c5, c6, c7, c8⟩ := right_cells (Hhrcw.out w3 hB3)
      clear d3
      generalize reach pl r.place = rl at *
      have hrl := Hhway.out.le
      have HhS3 := Lib.hid hS3
      clear hS3
      have HhA3 := Lib.hid hA3
      clear hA3
      have HhM3 := Lib.hid hM3
      clear hM3
      have Hhown3 := Lib.hid hown3
      clear hown3
      go_wp2_with fail
      obtain ⟨wo, rfl⟩ : ∃ wo : World, wo = wr := ⟨_, rfl⟩
      go_loop [15, 16] (fun s15 s16 => ∃ j : Nat, j ≤ rl.length ∧ s16 = .int .i64 j ∧ s15 = .int .i64 (cnt mk (rl.take j))) (fun _ s16 => rl.length - (intOf s16).toNat)
      case atStart => exact ⟨0, by omega, rfl, rfl⟩
      case round =>
        obtain ⟨j, hj, rfl, rfl⟩ := hrel
        have hcl := cnt_le mk (rl.take j)
        rw [List.length_take] at hcl
        have hcl2 : cnt mk (rl.take j) ≤ 1048576 := by omega
        clear hcl
        by_cases hjl : j < rl.length
        · have hsn : cnt mk (rl.take (j + 1)) = cnt mk (rl.take j) + if mk (nth rl j) = true then 1 else 0 := by rw [take_snoc' _ j hjl, cnt_snoc, ← nth_eq _ j hjl]
          obtain ⟨g2, rfl, -, -, hcr, -⟩ := own_cell Hhown3.out hjl
          have hq := Hhway.out.2 (nth rl j) (by rw [nth_eq _ j hjl]; exact List.getElem_mem hjl)
          obtain ⟨q, hq'⟩ := Int.eq_ofNat_of_zero_le hq.1
          have hql : q < ml.length := by omega
          obtain ⟨-, bm, om, rfl, -, hcm⟩ := HhM3.out.at' hql
          rw [hq'] at hcr hsn
          rw [← Hhmk.out] at hcm
          generalize cnt mk (rl.take j) = c at *
          have Hhq := Lib.hid hq
          clear hq
          have Hhq' := Lib.hid hq'
          clear hq'
          have Hhsn := Lib.hid hsn
          clear hsn
          cases hmq : mk (q : Int)
          all_goals
            have Hhmq := Lib.hid hmq
            clear hmq
            rw [Hhmq.out] at hcm
            go_wp2_with fail
            refine ⟨⟨j + 1, by omega, by go_num, ?_⟩, by simp [intOf]; omega⟩
            rw [Hhsn.out, Hhmq.out]
            simp
        · obtain rfl : j = rl.length := by omega
          rw [List.take_length] at hcl2 ⊢
          have hca := cnt_any (mk := mk) (l := rl)
          have hcall := cnt_all (mk := mk) (l := rl)
          rw [← Hhsel.out] at hca
          generalize cnt mk rl = c at *
          by_cases hc0 : c = 0
          · have hself : sel pl mk r = false := by cases hx : sel pl mk r; rfl; have := hca.1 hx; omega
            have e1 := HhnS.out hself
            have e2 := HhnA.out hself
            have e3 := Hhfi.out (.inr hself)
            subst hc0
            have Hhca := Lib.hid hca
            clear hca
            have Hhcall := Lib.hid hcall
            clear hcall
            have Hhself := Lib.hid hself
            clear hself
            have He1 := Lib.hid e1
            clear e1
            have He2 := Lib.hid e2
            clear e2
            have He3 := Lib.hid e3
            clear e3
            go_wp2_with fail
            refine ⟨⟨i + 1, by omega, by go_num, He3.out, by rw [He1.out]; exact HhS3.out, by rw [He2.out]; simpa using HhA3.out, (by ((repeat' (first | exact Below.refl _ _ | (refine Below.alloc ?_ ?_ _) | (refine Below.setCell ?_ ?_ _) | (refine Below.drew ?_) | (refine Below.trans ?_ (Below.mono (by assumption) ?_)))) <;> ((try simp only [World.size_alloc, World.size_setCell, World.size_drew] at *); omega)))⟩, by simp [intOf]; omega⟩
          · by_cases hcl3 : c = rl.length
            · have hself : sel pl mk r = true := hca.2 (by omega)
              have e1 := HhyS.out hself
              have e2 := HhyA.out hself
              have e3 := Hhfi.out (.inl (hcall hcl3))
              have hb1 : ((c : Int) != 0) = true := by simp; omega
              have hb2 : ((c : Int) != (rl.length : Int)) = false := by simp; omega
              have hb3 : (0 : Int) < c := by omega
              have Hhca := Lib.hid hca
              clear hca
              have Hhcall := Lib.hid hcall
              clear hcall
              have Hhself := Lib.hid hself
              clear hself
              have He1 := Lib.hid e1
              clear e1
              have He2 := Lib.hid e2
              clear e2
              have He3 := Lib.hid e3
              clear e3
              have Hhc0 := Lib.hid hc0
              clear hc0
              have Hhcl3 := Lib.hid hcl3
              clear hcl3
              go_wp2_with (at_builtin; refine append_right rfl _ _ rfl w2.heap.size u11 sl.length (rcells sl) rfl (HhS3.out.alloc _) w3.heap.size r rfl ?cr (by omega) (by simp; omega) ?_)
              case cr =>
                intro j u hu
                exact hu
              intro v5 w5 hS5 hg5 hB5
              have hsz5 := hg5.size
              simp only [World.size_alloc] at hsz5
              have hA5 : w5.ownsRow w2.heap.size 3 1 u12 il.length ((il.map (fun (k : Nat) => (k : Int))).map (.int .i64)) := (HhA3.out.alloc _).kept hg5 (ownsRow_ne HhA3.out HhS3.out (by decide))
              have HhS5 := Lib.hid hS5
              clear hS5
              have HhA5 := Lib.hid hA5
              clear hA5
              go_wp2_with (at_builtin; refine append_int2 rfl _ _ rfl w2.heap.size u12 il.length _ rfl (HhA5.out.alloc _) w5.heap.size (i : Int) rfl (by simp) (by omega) (by simp; omega) ?_)
              intro v6 w6 hA6 hg6 hB6
              have hsz6 := hg6.size
              have hS6 : w6.ownsRow w2.heap.size 45 9 v5 (sl.length + 1) (rcells sl ++ r.cells) := (HhS5.out.alloc _).kept hg6 (ownsRow_ne HhS5.out HhA5.out (by decide))
              have HhS6 := Lib.hid hS6
              clear hS6
              have HhA6 := Lib.hid hA6
              clear hA6
              go_wp2_with fail
              refine ⟨⟨i + 1, by omega, by go_num, He3.out, ?_, ?_, (by ((repeat' (first | exact Below.refl _ _ | (refine Below.alloc ?_ ?_ _) | (refine Below.setCell ?_ ?_ _) | (refine Below.drew ?_) | (refine Below.trans ?_ (Below.mono (by assumption) ?_)))) <;> ((try simp only [World.size_alloc, World.size_setCell, World.size_drew] at *); omega)))⟩, by simp [intOf]; omega⟩
              · rw [He1.out]
                simpa [rcells] using HhS6.out
              · rw [He2.out]
                simpa [hil] using HhA6.out
            · have hb1 : ((c : Int) != 0) = true := by simp; omega
              have hb2 : ((c : Int) != (rl.length : Int)) = true := by simp; omega
              have Hhca := Lib.hid hca
              clear hca
              have Hhcall := Lib.hid hcall
              clear hcall
              have Hhc0 := Lib.hid hc0
              clear hc0
              have Hhcl3 := Lib.hid hcl3
              clear hcl3
              go_wp2_with fail
              go_ret
              exact ⟨rfl, (by ((repeat' (first | exact Below.refl _ _ | (refine Below.alloc ?_ ?_ _) | (refine Below.setCell ?_ ?_ _) | (refine Below.drew ?_) | (refine Below.trans ?_ (Below.mono (by assumption) ?_)))) <;> ((try simp only [World.size_alloc, World.size_setCell, World.size_drew] at *); omega)))⟩
    · obtain rfl : i = rs.length := by omega
      rw [List.take_length] at hS
      have hfall : ∀ r ∈ rs, Fair pl mk r := fun r hr => by
        obtain ⟨k, hk, rfl⟩ := List.getElem_of_mem hr
        exact hfair k hk hk
      have hsl : (some' pl mk rs).length ≤ rs.length := List.length_filter_le _ _
      have hil : (idxs pl mk rs rs.length).length = (some' pl mk rs).length := by
        have := idxs_length pl mk rs rs.length (Nat.le_refl _)
        rwa [List.take_length] at this
      have hlti := idxs_lt pl mk rs rs.length
      have hat := fun (j k : Nat) (hk : (idxs pl mk rs rs.length)[j]? = some k) => aside_at (supply := supply) hfall hk
      have hs64 : ∀ r ∈ some' pl mk rs, r.in64 := fun r hr => Hh64.out r (List.mem_filter.1 hr).1
      clear hfair hfall
      generalize some' pl mk rs = sl at *
      generalize idxs pl mk rs rs.length = il at *
      have hSR : RightsAt wr u11 sl := RightsAt.of_owned hS hs64 (by omega)
      obtain ⟨oas, caps, rfl⟩ : ∃ oas caps, u11 = .slice oas sl.length caps := by obtain ⟨a, c, e, _⟩ := hSR; exact ⟨a, c, e⟩
      have hAI : IntsAt wr u12 (il.map (fun (k : Nat) => (k : Int))) := IntsAt.of_owned (by simpa using hA) (fun x hx => by
        simp only [List.mem_map] at hx
        obtain ⟨k, hk, rfl⟩ := hx
        have := hlti k hk
        unfold In64; omega) (by simp; omega)
      clear hS hA
      have Hhlti := Lib.hid hlti
      clear hlti
      have Hhat := Lib.hid hat
      clear hat
      have Hhs64 := Lib.hid hs64
      clear hs64
      have HhSR := Lib.hid hSR
      clear hSR
      have HhAI := Lib.hid hAI
      clear hAI
      go_wp2_with fail
      refine (Day_calls _ _ _ pl rs supply wr (Hhbas.out.below (w' := wr) (by ((repeat' (first | exact Below.refl _ _ | (refine Below.alloc ?_ ?_ _) | (refine Below.setCell ?_ ?_ _) | (refine Below.drew ?_) | (refine Below.trans ?_ (Below.mono (by assumption) ?_)))) <;> ((try simp only [World.size_alloc, World.size_setCell, World.size_drew] at *); omega))) (Nat.le_refl _)) (Hhr0.out.below (w' := wr) (by ((repeat' (first | exact Below.refl _ _ | (refine Below.alloc ?_ ?_ _) | (refine Below.setCell ?_ ?_ _) | (refine Below.drew ?_) | (refine Below.trans ?_ (Below.mono (by assumption) ?_)))) <;> ((try simp only [World.size_alloc, World.size_setCell, World.size_drew] at *); omega))) (Nat.le_refl _)) (Hhs.out.below (w' := wr) (by ((repeat' (first | exact Below.refl _ _ | (refine Below.alloc ?_ ?_ _) | (refine Below.setCell ?_ ?_ _) | (refine Below.drew ?_) | (refine Below.trans ?_ (Below.mono (by assumption) ?_)))) <;> ((try simp only [World.size_alloc, World.size_setCell, World.size_drew] at *); omega))) (Nat.le_refl _)) (by omega) (by omega)).mono ?_
      rintro e w3 ⟨r1, g, rfl, hG3, hL3, hgg, hB3⟩
      have hsz3 := hB3.size
      have hbox3 : ∀ j, w3.cell? ⟨w.heap.size, j, none⟩ = (w.alloc (.cells #[x0, x1, x2, .slice oa pl.length cap, x4, x5, x6, x7, x8, x9, x10] 31)).cell? ⟨w.heap.size, j, none⟩ := fun j => (hB3.cell (p := ⟨w.heap.size, j, none⟩) (by simp; omega)).trans (hbox j)
      obtain ⟨hG, -⟩ := day_facts (by obtain ⟨_, _, _, _, h64, _⟩ := Hhr0.out; exact h64) (by omega) (by omega) hG3 hL3
      have hdl := day_length pl rs supply
      obtain ⟨oag, capg, rfl⟩ : ∃ oag capg, r1 = .slice oag rs.length capg := by obtain ⟨a, c, e, _⟩ := hG; exact ⟨a, c, by rw [e, hdl]⟩
      clear hgg hG3 hL3
      have HhG := Lib.hid hG
      clear hG
      have Hhdl := Lib.hid hdl
      clear hdl
      go_wp2_with fail
      refine (Day_calls _ _ _ pl sl supply w3 (Hhbas.out.below (w' := w3) (by ((repeat' (first | exact Below.refl _ _ | (refine Below.alloc ?_ ?_ _) | (refine Below.setCell ?_ ?_ _) | (refine Below.drew ?_) | (refine Below.trans ?_ (Below.mono (by assumption) ?_)))) <;> ((try simp only [World.size_alloc, World.size_setCell, World.size_drew] at *); omega))) (Nat.le_refl _)) (HhSR.out.below hB3 (Nat.le_refl _)) (Hhs.out.below (w' := w3) (by ((repeat' (first | exact Below.refl _ _ | (refine Below.alloc ?_ ?_ _) | (refine Below.setCell ?_ ?_ _) | (refine Below.drew ?_) | (refine Below.trans ?_ (Below.mono (by assumption) ?_)))) <;> ((try simp only [World.size_alloc, World.size_setCell, World.size_drew] at *); omega))) (Nat.le_refl _)) (by omega) (by omega)).mono ?_
      rintro e w4 ⟨r2, g2, rfl, hG4, hL4, hgg, hB4⟩
      have hsz4 := hB4.size
      obtain ⟨hH, -⟩ := day_facts Hhs64.out (by omega) (by omega) hG4 hL4
      have hhl := day_length pl sl supply
      obtain ⟨oah, caph, rfl⟩ : ∃ oah caph, r2 = .slice oah sl.length caph := by obtain ⟨a, c, e, _⟩ := hH; exact ⟨a, c, by rw [e, hhl]⟩
      have hG4' := HhG.out.below hB4 (Nat.le_refl _)
      have hA4 := HhAI.out.below (w' := w4) (B := wr.heap.size) (by ((repeat' (first | exact Below.refl _ _ | (refine Below.alloc ?_ ?_ _) | (refine Below.setCell ?_ ?_ _) | (refine Below.drew ?_) | (refine Below.trans ?_ (Below.mono (by assumption) ?_)))) <;> ((try simp only [World.size_alloc, World.size_setCell, World.size_drew] at *); omega))) (Nat.le_refl _)
      clear hgg hG4 hL4
      have HhH := Lib.hid hH
      clear hH
      have Hhhl := Lib.hid hhl
      clear hhl
      have HhG4' := Lib.hid hG4'
      clear hG4'
      have HhA4 := Lib.hid hA4
      clear hA4
      go_wp2_with fail
      obtain ⟨wo, rfl⟩ : ∃ wo : World, wo = wr := ⟨_, rfl⟩
      go_loopw [21] (fun s21 wr => ∃ j : Nat, j ≤ sl.length ∧ s21 = .int .i64 j ∧ Below w4.heap.size w4 wr) (fun s21 _ => sl.length - (intOf s21).toNat)
      case atStart => exact ⟨0, by omega, rfl, Below.refl _ _⟩
      case round =>
        obtain ⟨j, hj, rfl, hBj⟩ := hrel
        have hszj := hBj.size
        by_cases hjl : j < sl.length
        · obtain ⟨oaa, capa, hua, -⟩ := HhA4.out
          subst hua
          have hjil : j < (il.map (fun (k : Nat) => (k : Int))).length := by simp; omega
          obtain ⟨-, ba, oa', hoa, hba, hca⟩ := (HhA4.out.below hBj (Nat.le_refl _)).at' hjil
          have hk1 : nth (il.map (fun (k : Nat) => (k : Int))) j = ((il[j]'(by omega) : Nat) : Int) := by rw [nth_eq _ _ hjil]; simp
          rw [hk1] at hca
          have hklt := Hhlti.out (il[j]'(by omega)) (List.getElem_mem _)
          have hatj := Hhat.out j (il[j]'(by omega)) (List.getElem?_eq_getElem _)
          generalize il[j]'(by omega) = k at *
          obtain ⟨bh, oh, rfl, hbh, e1, e2⟩ := (HhH.out.below hBj (Nat.le_refl _)).at' (k := j) (by rw [Hhhl.out]; exact hjl)
          obtain ⟨bg, og, rfl, hbg, d1, d2⟩ := (HhG4'.out.below hBj (Nat.le_refl _)).at' (k := k) (by rw [Hhdl.out]; exact hklt)
          rw [List.getElem?_eq_getElem (by rw [Hhhl.out]; exact hjl), List.getElem?_eq_getElem (by rw [Hhdl.out]; exact hklt), Option.some.injEq] at hatj
          rw [hatj] at e1 e2
          subst hoa
          generalize (day pl rs supply).1[k]'(by rw [Hhdl.out]; exact hklt) = x at *
          have hlen2 : (List.map (fun (k : Nat) => (k : Int)) il).length = il.length := by simp
          have hjil2 : j < il.length := by omega
          have hlen3 : ((List.map (fun (k : Nat) => (k : Int)) il).length : Int) = (il.length : Int) := by simp
          clear hjil hk1 hlen3
          have Hhatj := Lib.hid hatj
          clear hatj
          have Hhlen2 := Lib.hid hlen2
          clear hlen2
          go_wp2_with fail
          go_quiet (fail)
          go_wp2_with fail
          exact ⟨⟨j + 1, by omega, by go_num, below_drewN (by ((repeat' (first | exact Below.refl _ _ | (refine Below.alloc ?_ ?_ _) | (refine Below.setCell ?_ ?_ _) | (refine Below.drew ?_) | (refine Below.trans ?_ (Below.mono (by assumption) ?_)))) <;> ((try simp only [World.size_alloc, World.size_setCell, World.size_drew] at *); omega))) _⟩, by simp [intOf]; omega⟩
        · go_wp2_with fail
          go_ret
          exact ⟨rfl, (by ((repeat' (first | exact Below.refl _ _ | (refine Below.alloc ?_ ?_ _) | (refine Below.setCell ?_ ?_ _) | (refine Below.drew ?_) | (refine Below.trans ?_ (Below.mono (by assumption) ?_)))) <;> ((try simp only [World.size_alloc, World.size_setCell, World.size_drew] at *); omega)))⟩
end Go.Proofs.Ytjikehjhmjfhfaa
