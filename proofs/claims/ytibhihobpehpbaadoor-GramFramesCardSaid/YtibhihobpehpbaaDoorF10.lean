/- GramFrames: plain law. -/
import Derived.Test.YtibhihobpehpbaaDoorF9
import Derived.Test.YtibhihobpehpbaaDoorD9
set_option linter.unusedSimpArgs false
set_option linter.unusedVariables false
namespace Go.Proofs.YtibhihobpehpbaaDoor
open Go.RowKit

/-- the sealed telegrams that are well formed, and the stream of their frames -/
def wantG (secret : List UInt8) (l : List Gr) : List Gr := (l.map (sealS secret)).filter Gr.ok
def streamG (secret : List UInt8) (l : List Gr) : List UInt8 := wireOf ((wantG secret l).map bytesS)
theorem wantG_yes {secret : List UInt8} {l : List Gr} {x : Gr} (h : (sealS secret x).ok = true) : wantG secret (l ++ [x]) = wantG secret l ++ [sealS secret x] := by
  unfold wantG; rw [List.map_append, List.filter_append]; congr 1; simp [h]
theorem wantG_no {secret : List UInt8} {l : List Gr} {x : Gr} (h : (sealS secret x).ok = false) : wantG secret (l ++ [x]) = wantG secret l := by
  unfold wantG; rw [List.map_append, List.filter_append]; simp [h]
theorem streamG_yes {secret : List UInt8} {l : List Gr} {x : Gr} (h : (sealS secret x).ok = true) : streamG secret (l ++ [x]) = streamG secret l ++ encode (bytesS (sealS secret x)) := by
  unfold streamG; rw [wantG_yes h, List.map_append, List.map_cons, List.map_nil, wireOf_snoc]
theorem streamG_no {secret : List UInt8} {l : List Gr} {x : Gr} (h : (sealS secret x).ok = false) : streamG secret (l ++ [x]) = streamG secret l := by
  unfold streamG; rw [wantG_no h]
theorem want_mem {secret : List UInt8} {l : List Gr} {x : Gr} (h : x ∈ wantG secret l) : x.ok = true ∧ sealS secret x = x := by
  unfold wantG at h
  rw [List.mem_filter, List.mem_map] at h
  obtain ⟨⟨y, _, rfl⟩, h2⟩ := h
  exact ⟨h2, seal_seal _ _⟩
theorem wantG_len (secret : List UInt8) (l : List Gr) : (wantG secret l).length ≤ l.length := by
  unfold wantG
  refine Nat.le_trans (List.length_filter_le _ _) ?_
  rw [List.length_map]; exact Nat.le_refl _
theorem bytes_len54 {x : Gr} (h : x.ok = true) : (bytesS x).length ≤ 54 := by
  obtain ⟨w0, w1, w2, w3⟩ := Gr.ok_wf h
  have ht := Gr.ok_tag h
  have l0 := encInt_len _ w0
  have l1 := encInt_len _ w1
  have l2 := encInt_len _ w2
  have l3 := encInt_len _ w3
  have l4 := encText_le2 x.tag
  rw [bytesS, if_pos h, coreS]
  simp only [List.length_append]
  omega
theorem wants_all : ∀ ps : List (List UInt8), (∀ p ∈ ps, p.length ≤ 1000) → wants ps = ps := by
  intro ps h
  unfold wants
  rw [List.filter_eq_self]
  intro p hp
  have h1 := h p hp
  cases he : encode p with
  | nil => have := encode_short p he; omega
  | cons c t => rfl
theorem want_short (secret : List UInt8) (l : List Gr) : ∀ p ∈ (wantG secret l).map bytesS, p.length ≤ 1000 := by
  intro p hp
  rw [List.mem_map] at hp
  obtain ⟨x, hx, rfl⟩ := hp
  have := bytes_len54 (want_mem hx).1
  omega
theorem frames_all (secret : List UInt8) (l : List Gr) (c : Nat) :
    pays ((streamG secret l).take c) ++ pays (restV (cur ((streamG secret l).take c)) ++ (streamG secret l).drop c) = (wantG secret l).map bytesS := by
  have h := (pays_piece ((streamG secret l).take c) ((streamG secret l).drop c)).1
  rw [List.take_append_drop] at h
  rw [← h]
  have h2 := (back_all [] (by simp) ((wantG secret l).map bytesS)).1
  rw [List.nil_append, wants_all _ (want_short secret l)] at h2
  exact h2
theorem streamG_len (secret : List UInt8) (l : List Gr) : (streamG secret l).length ≤ 2050 * l.length := by
  have h1 := wire_len ((wantG secret l).map bytesS)
  have h2 := wantG_len secret l
  rw [List.length_map] at h1
  unfold streamG
  have : 2050 * (wantG secret l).length ≤ 2050 * l.length := Nat.mul_le_mul_left _ h2
  omega
theorem gen_want {secret : List UInt8} {l : List Gr} {x : Gr} (h : x ∈ wantG secret l) : genS secret x = true := by
  obtain ⟨h1, h2⟩ := want_mem h
  unfold genS; rw [h1, h2]; simp
theorem read_want {secret : List UInt8} {l : List Gr} {x : Gr} (h : x ∈ wantG secret l) : readS (bytesS x) = (x, true) := read_bytes (want_mem h).1

/-- rows of telegrams -/
def GrO (w : World) (b o : Nat) (x : Gr) : Prop := w.cell? ⟨b, o, none⟩ = some (.int .i64 x.g) ∧ w.cell? ⟨b, o + 1, none⟩ = some (.int .i64 x.q) ∧ w.cell? ⟨b, o + 2, none⟩ = some (.int .i64 x.c) ∧ w.cell? ⟨b, o + 3, none⟩ = some (.int .i64 x.v) ∧ w.cell? ⟨b, o + 4, none⟩ = some (.string ⟨x.tag.toArray⟩)
theorem GrO.below {w w' : World} {b o B : Nat} {x : Gr} (h : GrO w b o x) (hb : Below B w w') (hB : b < B) : GrO w' b o x := by
  have e : ∀ j, w'.cell? ⟨b, j, none⟩ = w.cell? ⟨b, j, none⟩ := fun j => hb.cell (p := ⟨b, j, none⟩) hB
  unfold GrO; rw [e, e, e, e, e]; exact h
def GrsAt (w : World) (v : Value) (l : List Gr) : Prop :=
  ∃ oa cap, v = .slice oa l.length cap ∧ l.length ≤ 9223372036854775807 ∧ (∀ x ∈ l, x.wf) ∧
    (0 < l.length → ∃ b off, oa = some ⟨b, off, none⟩ ∧ b < w.heap.size ∧ ∀ k (hk : k < l.length), GrO w b (off + k * 5) l[k])
theorem GrsAt.below {w w' : World} {v : Value} {l : List Gr} {B : Nat} (h : GrsAt w v l) (hb : Below B w w') (hB : w.heap.size ≤ B) : GrsAt w' v l := by
  obtain ⟨oa, cap, rfl, hm, hr, hc⟩ := h
  refine ⟨oa, cap, rfl, hm, hr, fun h0 => ?_⟩
  obtain ⟨b, off, rfl, hb1, hc1⟩ := hc h0
  exact ⟨b, off, rfl, Nat.lt_of_lt_of_le hb1 hb.size, fun k hk => (hc1 k hk).below hb (Nat.lt_of_lt_of_le hb1 hB)⟩
theorem GrsAt.at' {w : World} {oa : Option Addr} {n cap : Nat} {l : List Gr} (h : GrsAt w (.slice oa n cap) l) {k : Nat} (hk : k < l.length) :
    ∃ b off, oa = some ⟨b, off, none⟩ ∧ b < w.heap.size ∧ GrO w b (off + k * 5) l[k] := by
  obtain ⟨oa', cap', hv, _, _, hc⟩ := h
  obtain ⟨rfl, rfl, rfl⟩ := Value.slice.inj hv
  obtain ⟨b, off, rfl, hb, hc⟩ := hc (by omega)
  exact ⟨b, off, rfl, hb, hc k hk⟩
def grcells (l : List Gr) : List Value := l.flatMap fun x => x.cells.toList
theorem grcells_at : ∀ (l : List Gr) (k : Nat) (h : k < l.length) (j : Nat), j < 5 → (grcells l)[k * 5 + j]? = l[k].cells.toList[j]?
  | [], k, h, _, _ => by simp at h
  | x :: l, 0, h, j, hj => by
    simp only [grcells, List.flatMap_cons, Nat.zero_mul, Nat.zero_add, List.getElem_cons_zero]
    rw [List.getElem?_append_left (by simpa [Gr.cells] using hj)]
  | x :: l, k + 1, h, j, hj => by
    have := grcells_at l k (by simpa using h) j hj
    simp only [grcells, List.flatMap_cons, List.getElem_cons_succ] at this ⊢
    rw [List.getElem?_append_right (by simp [Gr.cells]; omega), ← this]
    congr 1
    simp [Gr.cells]
    omega
theorem GrsAt.of_owned {w : World} {base : Nat} {v : Value} {l : List Gr} (h : w.ownsRow base 23 5 v l.length (grcells l)) (hr : ∀ x ∈ l, x.wf) (hm : l.length ≤ 9223372036854775807) : GrsAt w v l := by
  rcases h.2 with ⟨rfl, hn⟩ | ⟨g, cap, cur, rfl, hb, hg, hnc, hcm, hcs, htake⟩
  · obtain rfl := List.eq_nil_of_length_eq_zero hn
    exact ⟨none, 0, rfl, by simp, by simp, by simp⟩
  · refine ⟨_, cap, rfl, hm, hr, fun h0 => ⟨g, 0, rfl, (Array.getElem?_eq_some_iff.1 hg).1, fun k hk => ?_⟩⟩
    have h1 : ∀ j, j < 5 → w.cell? ⟨g, 0 + k * 5 + j, none⟩ = l[k].cells.toList[j]? := fun j hj => by
      have := h.cellAt (g := g) (cap := cap) (k * 5 + j) (by omega)
      rw [show 0 + k * 5 + j = k * 5 + j by omega, this, grcells_at l k hk j hj]
    exact ⟨h1 0 (by omega), h1 1 (by omega), h1 2 (by omega), h1 3 (by omega), h1 4 (by omega)⟩
theorem info23 : (Tryd.prog.info? 23).map (fun i => (i.zero, i.size, i.bytes)) = some (some (.agg #[.int .i64 0, .int .i64 0, .int .i64 0, .int .i64 0, .string ⟨#[]⟩]), 5, 48) := by kernel_rfl
theorem append_gr {ops : Array Oper} {rest : List Oper} {o : Oper} {a : Act} {Q : Exit → Act → World → Prop} {w : World} (hgd : o.guard = none) (s x : Operand)
    (ho : o.op = .call { callee := .builtin .append, args := #[s, x], argTypes := #[47, 47] }) (base : Nat) (v : Value) (n : Nat) (xs : List Value) (hs : a.eval s = v) (hown : w.ownsRow base 23 5 v n xs)
    (b : Nat) (r : Gr) (hx : a.eval x = .slice (some ⟨b, 0, none⟩) 1 1) (hc : GrC w b r) (hn : n + 1 ≤ 1099511627776) (hbase : base ≤ w.heap.size)
    (h : ∀ v' w', w'.ownsRow base 23 5 v' (n + 1) (xs ++ r.cells.toList) → w.grownBy w' v.ownBlock → Below base w w' → wpList Tryd.prog ops Q rest (a.put o.dst v') w') : wpList Tryd.prog ops Q (o :: rest) a w := by
  obtain ⟨i0, hi, hz0, hz1, hz2⟩ := info_parts info23
  refine wpList_append_own w hgd s x 47 ho base 23 i0 _ 5 48 Tryd.underlying47 hi hz0 hz1 hz2 rfl (by decide) v n xs hs hown ⟨b, 0, none⟩ 1 1 r.cells.toList hx rfl ?_ ?_ ?_ ?_ hbase ?_
  · intro j u hu
    rw [Addr.add_lit, Nat.zero_add]
    obtain ⟨c0, c1, c2, c3, c4⟩ := hc
    match j, hu with
    | 0, hu => cases hu; exact c0
    | 1, hu => cases hu; exact c1
    | 2, hu => cases hu; exact c2
    | 3, hu => cases hu; exact c3
    | 4, hu => cases hu; exact c4
  · intro u hu; simp [Gr.cells] at hu; rcases hu with rfl | rfl | rfl | rfl | rfl <;> rfl
  · unfold maxLen; omega
  · omega
  · intro v' w' h1 h2 _
    refine h v' w' h1 h2 ⟨h2.os, h2.tape, h2.output, h2.size, fun k hk => h2.block k (by omega) (fun e => ?_)⟩
    have := (hown.lt k e.symm).1
    omega
theorem append_strs {ops : Array Oper} {rest : List Oper} {o : Oper} {a : Act} {Q : Exit → Act → World → Prop} {w : World} (hgd : o.guard = none) (s x : Operand)
    (ho : o.op = .call { callee := .builtin .append, args := #[s, x], argTypes := #[27, 27] }) (base : Nat) (v : Value) (n : Nat) (xs : List Value) (hs : a.eval s = v) (hown : w.ownsRow base 9 1 v n xs)
    (base2 : Nat) (u : Value) (k : Nat) (l : List (List UInt8)) (hx : a.eval x = u) (hu : w.ownsRow base2 9 1 u k (l.map strV)) (hn : n + k ≤ 1000000000) (hbase : base ≤ w.heap.size)
    (h : ∀ v' w', w'.ownsRow base 9 1 v' (n + k) (xs ++ l.map strV) → w.grownBy w' v.ownBlock → Below base w w' → wpList Tryd.prog ops Q rest (a.put o.dst v') w') : wpList Tryd.prog ops Q (o :: rest) a w := by
  obtain ⟨i0, hi, hz0, hz1, hz2⟩ := info_parts info9
  rcases hu.2 with ⟨rfl, hk⟩ | ⟨g, cap, cur, rfl, hb, hg, hnc, hcm, hcs, htake⟩
  · have hl : l = [] := by
      have := hu.1
      rw [List.length_map] at this
      exact List.eq_nil_of_length_eq_zero (by omega)
    subst hl hk
    refine wpList_append_own_none hgd s x 27 ho base 9 i0 1 Tryd.underlying27 hi v n xs hs hown hx (h v w (by simpa using hown) ?_ (Below.refl _ _))
    exact ⟨rfl, rfl, rfl, Nat.le_refl _, fun _ _ _ => rfl⟩
  · refine wpList_append_own w hgd s x 27 ho base 9 i0 (.string ⟨#[]⟩) 1 16 Tryd.underlying27 hi hz0 hz1 hz2 rfl (by decide) v n xs hs hown ⟨g, 0, none⟩ k cap (l.map strV) hx hu.1 ?_ ?_ ?_ ?_ hbase ?_
    · intro j u hj
      have hlt := (List.getElem?_eq_some_iff.1 hj).1
      have h2 := hu.1
      rw [show (⟨g, 0, none⟩ : Addr).add j = ⟨g, j, none⟩ by simp [Addr.add]; intro e; exact e.symm, hu.cellAt j (by omega)]
      exact hj
    · intro u hu; simp at hu; obtain ⟨y, _, rfl⟩ := hu; rfl
    · unfold maxLen; omega
    · omega
    · intro v' w' h1 h2 _
      refine h v' w' h1 h2 ⟨h2.os, h2.tape, h2.output, h2.size, fun k hk => h2.block k (by omega) (fun e => ?_)⟩
      have := (hown.lt k e.symm).1
      omega
end Go.Proofs.YtibhihobpehpbaaDoor
