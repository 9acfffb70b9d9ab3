/- The program's walk of Decode. -/
import Derived.Test.YtibhihobpehpbaaDoorF7
import Derived.RangeFuncBox
import Derived.Maps.AppendAt
import Derived.Sort.QuietIn
set_option linter.unusedSimpArgs false
set_option linter.unusedVariables false
namespace Go.Proofs.YtibhihobpehpbaaDoor
open Go.RowKit Go.Shelf

attribute [local go_sem] Oper.semAt_some

def payl (pre : List Str) : List (List UInt8) := (pre.map (·.1)).filterMap pay

theorem strs_len (l : List UInt8) : (strs l).length ≤ l.length := by
  have h2 : ∀ (l : List UInt8) (x : St), (l.foldl step x).2.length ≤ x.2.length + l.length := by
    intro l
    induction l with
    | nil => intro x; simp
    | cons c l ih =>
      intro x
      have := ih (step x c)
      have h3 : (step x c).2.length ≤ x.2.length + 1 := by
        unfold step
        split
        · simp only [List.length_append]
          have : x.1.toList.length ≤ 1 := by cases x.1 <;> simp
          omega
        · show x.2.length ≤ x.2.length + 1
          omega
      simp only [List.foldl_cons, List.length_cons]
      omega
  have := h2 l (none, [])
  simpa [strs, scan] using this

theorem payl_none (pre : List Str) (x : Str) (h : pay x.1 = none) : payl (pre ++ [x]) = payl pre := by
  unfold payl; rw [List.map_append, List.map_cons, List.map_nil, filterMap_snoc, h]; simp
theorem payl_some (pre : List Str) (x : Str) {p : List UInt8} (h : pay x.1 = some p) : payl (pre ++ [x]) = payl pre ++ [p] := by
  unfold payl; rw [List.map_append, List.map_cons, List.map_nil, filterMap_snoc, h]; rfl
theorem payl_len (pre : List Str) : (payl pre).length ≤ pre.length := by
  unfold payl
  refine Nat.le_trans (List.length_filterMap_le _ _) ?_
  simp

theorem row_weaken {w : World} {b b' : Nat} {e : TypeId} {k n : Nat} {v : Value} {xs : List Value} (h : w.ownsRow b e k v n xs) (hb : b' ≤ b) : w.ownsRow b' e k v n xs := by
  refine ⟨h.1, ?_⟩
  rcases h.2 with h2 | ⟨g, cap, cr, e1, h3, h4⟩
  · exact .inl h2
  · exact .inr ⟨g, cap, cr, e1, by omega, h4⟩

theorem keeps_below {W W' : World} (h : Below W.heap.size W W') : KeepsOthers W W' :=
  ⟨h.size, fun k o hk _ => (h.block k (Array.getElem?_eq_some_iff.1 hk).1).trans hk⟩

theorem cur_free {a : List UInt8} (h : (126 : UInt8) ∉ a) : cur a = none := by unfold cur scan; rw [foldl_free a _ h]; rfl
theorem cur_last (a : List UInt8) {b : List UInt8} (h : (126 : UInt8) ∉ b) : cur (a ++ 126 :: b) = some b := by
  unfold cur scan; rw [List.foldl_append, List.foldl_cons, foldl_free b _ h]; rfl
theorem split_last (c : UInt8) (l : List UInt8) (h : c ∈ l) : ∃ a b, l = a ++ c :: b ∧ c ∉ b := by
  obtain ⟨a, b, e, ha⟩ := split_at c l.reverse (by simpa using h)
  refine ⟨b.reverse, a.reverse, ?_, by simpa using ha⟩
  have := congrArg List.reverse e
  simpa using this

theorem last_free {a : List UInt8} (h : (126 : UInt8) ∉ a) : Lib.lastIndexByte ⟨a.toArray⟩ 126 = -1 := by
  rcases Lib.lastIndexByte_spec ⟨a.toArray⟩ 126 with ⟨e, _⟩ | ⟨i, hi, _, h2, _⟩
  · exact e
  · exfalso
    rw [str_size] at hi
    apply h
    have h3 : ((a[i]).toNat : Int) = 126 := by simpa [hi] using h2
    have : a[i] = 126 := by
      apply UInt8.toNat_inj.1
      have e : ((126 : UInt8).toNat) = 126 := rfl
      omega
    rw [← this]
    exact List.getElem_mem _
theorem last_at (a : List UInt8) {b : List UInt8} (h : (126 : UInt8) ∉ b) : Lib.lastIndexByte ⟨(a ++ 126 :: b).toArray⟩ 126 = a.length := by
  rcases Lib.lastIndexByte_spec ⟨(a ++ 126 :: b).toArray⟩ 126 with ⟨_, h0⟩ | ⟨i, hi, e, h2, h3⟩
  · exfalso
    have := h0 a.length (by rw [str_size]; simp)
    apply this
    simp
  · rw [e]
    rw [str_size] at hi
    simp only [List.length_append, List.length_cons] at hi
    have h4 : ¬ i < a.length := fun hlt => by
      have := h3 a.length hlt (by rw [str_size]; simp)
      apply this
      simp
    have h5 : ¬ a.length < i := fun hlt => by
      have hh : (a ++ 126 :: b)[i]? = b[i - a.length - 1]? := by
        rw [List.getElem?_append_right (by omega), show i - a.length = (i - a.length - 1) + 1 by omega, List.getElem?_cons_succ]
        simp
      have hib : i - a.length - 1 < b.length := by omega
      rw [List.getElem?_eq_getElem hib] at hh
      obtain ⟨_, hh2⟩ := List.getElem?_eq_some_iff.1 hh
      have h6 : (((a ++ 126 :: b)[i]'(by simp; omega)).toNat : Int) = 126 := by
        have hi' : i < a.length + (b.length + 1) := by omega
        simpa [hi'] using h2
      rw [hh2] at h6
      have : b[i - a.length - 1] = 126 := by
        apply UInt8.toNat_inj.1
        have e : ((126 : UInt8).toNat) = 126 := rfl
        omega
      exact h (this ▸ List.getElem_mem _)
    omega

theorem iter_seq (s : List UInt8) (m : Int) (cb : Nat) (w0 : World) (hs : s.length ≤ 1000000) (hc : w0.heap[cb]? = some (.cells #[.string ⟨s.toArray⟩] 9)) :
    SeqCell cb Fence.wide 9 Tryd.prog 63 #[.pointer (some ⟨cb, 0, none⟩)] (fun x : Str => #[.string ⟨x.1.toArray⟩]) (fun xs => xs.map (·.1) = strs s) (strs s).length (MaxAt m) w0 := by
  intro l J Jx W hW hJ _ hJc hJG hY h0
  exact iter_in 8 m cb s hs l J W hJ hJc hJG hY ((hW.block cb (Array.getElem?_eq_some_iff.1 hc).1).trans hc) h0

set_option maxRecDepth 100000 in
set_option maxHeartbeats 2000000 in
theorem decode_calls (s : List UInt8) (m : Int) (w : World) (hm : MaxAt m w) (hs : s.length ≤ 1000000) :
    Calls Tryd.prog 24 #[.string ⟨s.toArray⟩] w fun e w' => ∃ v, e = .returned (.tuple #[v, .string ⟨(restV (cur s)).toArray⟩]) ∧ w'.ownsRow w.heap.size 9 1 v (pays s).length ((pays s).map strV) ∧ Below w.heap.size w w' := by
  obtain ⟨i0, hi, hz0, hz1, hz2⟩ := info_parts info9
  have hsl := strs_len s
  refine (callsIn_wide (n := 10)).1 ?_
  refine callsIn_of_wp_marks Tryd.func24 rfl trivial ?_ rfl
  simp only [Tryd.ntmps24, List.size_toArray, List.length_cons, List.length_nil, Nat.reduceAdd, Nat.reduceSub, Array.replicate_succ, Array.replicate_zero, List.push_toArray, List.append_toArray, List.nil_append, List.cons_append]
  gi_wp2_with fail
  refine ⟨trivial, ?_⟩
  refine (callsIn_wide.2 (stretches_calls s _)).mono ?_
  rintro e w1 ⟨rfl, rfl⟩
  gi_wp2_with fail
  have bO := Boxed.new w 27 (.slice none 0 0)
  have bN := Boxed.new (w.alloc (.cells #[.slice none 0 0] 27)) 9 (.string ⟨s.toArray⟩)
  rw [World.size_alloc] at bN
  have hB0 : Below w.heap.size w ((w.alloc (.cells #[.slice none 0 0] 27)).alloc (.cells #[.string ⟨s.toArray⟩] 9)) := ((Below.refl _ w).alloc (Nat.le_refl _) _).alloc (by simp) _
  have hm0 : 4 < w.heap.size := hm.2
  refine wpIn_range_cell (cb := w.heap.size + 1) (G := MaxAt m) rfl (by omega) (gf := 63) (lb := #[.pointer (some ⟨w.heap.size + 1, 0, none⟩)]) rfl trivial (enters_of Tryd.func63 (by kernel_rfl) rfl)
    (iter_seq s m (w.heap.size + 1) _ hs bN) (by simp) (Below.refl _ _) (fun _ => rfl)
    (fun pre W => (∃ v, Boxed W w.heap.size 27 v ∧ W.ownsRow (w.heap.size + 2) 9 1 v (payl pre).length ((payl pre).map strV) ∧ True) ∧ Below w.heap.size ((w.alloc (.cells #[.slice none 0 0] 27)).alloc (.cells #[.string ⟨s.toArray⟩] 9)) W)
    (OwnFrom.and (Own.from (holdsRow_own (w.heap.size + 2) w.heap.size 27 9 1 (fun pre => (payl pre).length) (fun pre => (payl pre).map strV) (fun _ _ => True)) _) (ownFrom_below (by simp; omega) (by simp; omega)))
    ?cell (fun pre A h => hm.below (hB0.trans h.2) hm0)
    ⟨⟨_, bO.alloc _, World.ownsRow_nil _ _ _ _, trivial⟩, Below.refl _ _⟩
    (fun x => { tmps := #[Value.string { data := s.toArray }, undef, Value.slice none 0 0, Value.string { data := #[] },
          Value.pointer (some { block := w.heap.size, off := 0 }), .string ⟨x.1.toArray⟩, undef, undef, undef,
          Value.string { data := s.toArray },
          Value.func (Fn.func 63) #[] #[Value.pointer (some { block := w.heap.size + 1, off := 0 })], .string ⟨x.1.toArray⟩, undef,
          undef, undef, undef, undef, undef, undef, undef, undef, undef, undef, undef, undef, undef, undef, undef,
          undef, undef, undef, undef, undef, undef, undef, undef, undef, undef, undef], defers := [] }) ?assign ?body ?done
  case cell =>
    rintro pre A v ⟨⟨u, h1, h2, _⟩, h3⟩
    refine ⟨⟨u, h1.kept (grownBy_setCell' A (w.heap.size + 1) v) (by simp), h2.kept (grownBy_setCell' A (w.heap.size + 1) v) ?_, trivial⟩, h3.setCell (p := ⟨w.heap.size + 1, 0, none⟩) (by show w.heap.size ≤ w.heap.size + 1; omega) v⟩
    rcases h2.2 with ⟨rfl, _⟩ | ⟨g, cap, cr, rfl, hb, _, _⟩
    · exact .inl rfl
    · refine .inr fun e' => ?_
      have : g = w.heap.size + 1 := by simpa [Value.ownBlock] using e'
      omega
  case assign =>
    intro l x W K hK
    gi_wp2
    exact hK
  case body =>
    rintro l pre x W ⟨⟨v, hv, hrow, _⟩, hB⟩ hlt
    have hc := hv.cell
    have hpl := payl_len pre
    have hsz := hB.size
    simp only [World.size_alloc] at hsz
    have hB' := hB0.trans hB
    have hmW := hm.below hB' hm0
    have Hhv := Lib.hid hv
    clear hv
    have Hhrow := Lib.hid hrow
    clear hrow
    have HhB := Lib.hid hB
    clear hB
    have HhB' := Lib.hid hB'
    clear hB'
    have HhmW := Lib.hid hmW
    clear hmW
    have Hhm := Lib.hid hm
    clear hm
    have Hhc := Lib.hid hc
    clear hc
    gi_wp2_with fail
    refine ⟨trivial, ?_⟩
    refine (CallsIn.inRound l (callsIn_wide.2 (payload_calls x.1 m W HhmW.out x.2.1 x.2.2))).mono ?_
    rintro e W2 ⟨rfl, hB2⟩
    have hsz2 := hB2.size
    have hv2 : Boxed W2 w.heap.size 27 v := (hB2.block _ Hhv.out.lt).trans Hhv.out
    have hcb2 : W2.heap[w.heap.size + 1]? = W.heap[w.heap.size + 1]? := hB2.block _ (by omega)
    have hc2 := hv2.cell
    have hrow2 := ownsRow_below Hhrow.out hB2 (Nat.le_refl _)
    have hko := keeps_below hB2
    have hob : some (w.heap.size + 1) ≠ v.ownBlock := by
      rcases hrow2.2 with ⟨rfl, _⟩ | ⟨g, cap, cr, rfl, hb, _, _⟩
      · simp [Value.ownBlock]
      · intro e'
        have : w.heap.size + 1 = g := by simpa [Value.ownBlock] using e'
        omega
    cases hp : pay x.1 with
    | none =>
      rw [payV_none hp]
      have hpp := payl_none pre x hp
      clear hp
      have Hhv2 := Lib.hid hv2
      clear hv2
      have Hhcb2 := Lib.hid hcb2
      clear hcb2
      have Hhc2 := Lib.hid hc2
      clear hc2
      have Hhrow2 := Lib.hid hrow2
      clear hrow2
      have HhB2 := Lib.hid hB2
      clear hB2
      have Hhpp := Lib.hid hpp
      clear hpp
      have Hhko := Lib.hid hko
      clear hko
      have Hhob := Lib.hid hob
      clear hob
      gi_wp2_with fail
      refine ⟨Hhko.out, Hhcb2.out, ⟨v, Hhv2.out, by rw [Hhpp.out]; exact Hhrow2.out, trivial⟩, HhB.out.trans (HhB2.out.mono (by omega))⟩
    | some p =>
      rw [payV_some hp]
      have hpp := payl_some pre x hp
      clear hp
      have Hhcb2 := Lib.hid hcb2
      clear hcb2
      have HhB2 := Lib.hid hB2
      clear hB2
      have Hhpp := Lib.hid hpp
      clear hpp
      have Hhko := Lib.hid hko
      clear hko
      have Hhob := Lib.hid hob
      clear hob
      gi_wp2_with (gi_at_builtin; refine wpListIn_append_own _ rfl _ _ 27 rfl (w.heap.size + 2) 9 i0 (.string ⟨#[]⟩) 1 16 Tryd.underlying27 hi hz0 hz1 hz2 rfl (by decide) _ _ _ rfl (hrow2.alloc _) ⟨W2.heap.size, 0, none⟩ 1 1 [.string ⟨p.toArray⟩] rfl rfl (cell_one_new _ _ _) (by simp [Value.oneCell']) (by unfold maxLen; omega) (by omega) (by simp; omega) ?_; intro v' w1 hown' hgrow _; obtain ⟨g', cap', rfl⟩ := ownsRow_succ hown'; obtain ⟨hv1, hv3, hr3, hk3, hb3⟩ := hv2.appended (n₀ := w.heap.size) (by decide) (row_weaken hrow2 (by omega)) (by omega) (Nat.le_refl _) (row_weaken hown' (by omega)) hgrow; have hc1 := hv1.cell; have hf1 := hv1.frozen)
      refine ⟨Hhko.out.trans hk3, ?_, ⟨_, hv3, ?_, trivial⟩, HhB.out.trans ((HhB2.out.mono (by omega)).trans hb3)⟩
      · rw [Below.heap_setCell _ _ _ _ (by simp), ← Hhcb2.out, ← Below.heap_alloc W2 (.cells #[.string ⟨p.toArray⟩] 9) _ (by omega)]
        refine hgrow.block _ (by simp; omega) ?_
        exact Hhob.out
      · rw [Hhpp.out]
        refine World.ownsRow.kept (row := some w.heap.size) ?_ (grownBy_setCell' w1 w.heap.size _) (.inr (hv1.not_row (by decide) hown').symm)
        simpa [strV] using hown'
  case done =>
    rintro D xs W hD hS ⟨⟨v, hv, hrow, _⟩, hB⟩ hK
    have hB' := hB0.trans hB
    have hpl : payl xs = pays s := by unfold payl pays; rw [hS]
    rw [hpl] at hrow
    clear hpl hS
    have hrow' := row_weaken hrow (show w.heap.size ≤ w.heap.size + 2 by omega)
    have hc := hv.cell
    have hz := str_size s
    have hBD : Below w.heap.size w (W.putObj D (.deferred none)) := hB'.trans (belowK_b (w := w) (Nat.le_refl _) W D _ _ (by simp at hD; omega) hK rfl rfl)
    have Hhv := Lib.hid hv
    clear hv
    have Hhrow := Lib.hid hrow
    clear hrow
    have Hhrow' := Lib.hid hrow'
    clear hrow'
    have HhB := Lib.hid hB
    clear hB
    have HhB' := Lib.hid hB'
    clear hB'
    have HhBD := Lib.hid hBD
    clear hBD
    have HhK := Lib.hid hK
    clear hK
    have fin : ∀ (tm : Array Value) (k : Nat), True := fun _ _ => trivial
    by_cases hf : (126 : UInt8) ∈ s
    · obtain ⟨a, b, rfl, hb⟩ := split_last 126 s hf
      have hla := last_at a hb
      have hcu := cur_last a hb
      have hLI := Tryd.strings_LastIndex_one ⟨(a ++ 126 :: b).toArray⟩ ⟨#[126]⟩ rfl (by rw [str_size]; omega) W
      have e126 : (((ByteArray.mk #[126])[0]'(by decide)).toNat : Int) = 126 := rfl
      rw [e126, hla] at hLI
      have hlen : (a ++ 126 :: b).length = a.length + (b.length + 1) := by simp
      rw [hlen] at hz
      have hab : a.length + (b.length + 1) ≤ 1000000 := by omega
      have hn0 : ¬ ((a.length : Int) < 0) := by omega
      clear hla hf e126
      have HhLI := Lib.hid hLI
      clear hLI
      have Hhcu := Lib.hid hcu
      clear hcu
      have Hhb := Lib.hid hb
      clear hb
      have Hhlen := Lib.hid hlen
      clear hlen
      gi_wp2_with fail
      refine ⟨trivial, ?_⟩
      refine (callsIn_wide.2 HhLI.out).mono ?_
      rintro e W2 ⟨rfl, rfl⟩
      by_cases hl : 2048 < b.length
      · have h1 : (2048 : Int) < (a.length : Int) + ((b.length : Int) + 1) - (a.length : Int) - 1 := by omega
        have hr : restV (cur (a ++ 126 :: b)) = [] := by rw [Hhcu.out]; unfold restV; simp only; rw [if_pos hl]
        have Hhr := Lib.hid hr
        clear hr
        gi_wp2_with fail
        refine ⟨by simp, .inl ⟨_, _, rfl, run_takeDeferred HhK.out, ?_⟩⟩
        exact ⟨_, results_tmp2 rfl _ _ _, v, by rw [Hhr.out]; rfl, ownsRow_putObj Hhrow'.out _ HhK.out rfl, HhBD.out⟩
      · have h1 : ¬ (2048 : Int) < (a.length : Int) + ((b.length : Int) + 1) - (a.length : Int) - 1 := by omega
        have hr : restV (cur (a ++ 126 :: b)) = 126 :: b := by rw [Hhcu.out]; unfold restV; simp only; rw [if_neg hl]
        have hex : (ByteArray.mk (a ++ 126 :: b).toArray).extract a.length (a.length + (b.length + 1)) = ⟨(126 :: b).toArray⟩ := by
          rw [← Hhlen.out, drop_extract]; simp
        have hj1 : (a.length : Int) ≤ ((a ++ 126 :: b).length : Int) := by rw [Hhlen.out]; omega
        have Hhr := Lib.hid hr
        clear hr
        gi_wp2_with fail
        gi_quiet (fail)
        have hhe : (W2.drewN nq).heap = W2.heap := by have := (below_drewN (Below.refl W2.heap.size W2) nq); simp [World.drewN]
        have hK2 : (W2.drewN nq).heap[D]? = some (.deferred (some [])) := by rw [hhe]; exact HhK.out
        have hrow2 : (W2.drewN nq).ownsRow w.heap.size 9 1 v (pays (a ++ 126 :: b)).length ((pays (a ++ 126 :: b)).map strV) := ownsRow_below Hhrow'.out (below_drewN (Below.refl _ _) nq) (Nat.le_refl _)
        have hBD2 : Below w.heap.size w ((W2.drewN nq).putObj D (.deferred none)) := (below_drewN HhB'.out nq).trans (belowK_b (w := w) (Nat.le_refl _) _ D _ _ (by simp at hD; omega) hK2 rfl rfl)
        have HhK2 := Lib.hid hK2
        clear hK2
        have Hhrow2 := Lib.hid hrow2
        clear hrow2
        have HhBD2 := Lib.hid hBD2
        clear hBD2
        gi_wp2_with fail
        refine ⟨by simp, .inl ⟨_, _, rfl, run_takeDeferred HhK2.out, ?_⟩⟩
        exact ⟨_, results_tmp2 rfl _ _ _, v, by rw [Hhr.out]; rfl, ownsRow_putObj Hhrow2.out _ HhK2.out rfl, HhBD2.out⟩
    · have hla := last_free hf
      have hcu := cur_free hf
      have hLI := Tryd.strings_LastIndex_one ⟨s.toArray⟩ ⟨#[126]⟩ rfl (by rw [str_size]; omega) W
      have e126 : (((ByteArray.mk #[126])[0]'(by decide)).toNat : Int) = 126 := rfl
      rw [e126, hla] at hLI
      have hr : restV (cur s) = [] := by rw [hcu]; rfl
      clear hla hf e126
      have HhLI := Lib.hid hLI
      clear hLI
      have Hhcu := Lib.hid hcu
      clear hcu
      have Hhr := Lib.hid hr
      clear hr
      gi_wp2_with fail
      refine ⟨trivial, ?_⟩
      refine (callsIn_wide.2 HhLI.out).mono ?_
      rintro e W2 ⟨rfl, rfl⟩
      gi_wp2_with fail
      refine ⟨by simp, .inl ⟨_, _, rfl, run_takeDeferred HhK.out, ?_⟩⟩
      exact ⟨_, results_tmp2 rfl _ _ _, v, by rw [Hhr.out]; rfl, ownsRow_putObj Hhrow'.out _ HhK.out rfl, HhBD.out⟩
end Go.Proofs.YtibhihobpehpbaaDoor
