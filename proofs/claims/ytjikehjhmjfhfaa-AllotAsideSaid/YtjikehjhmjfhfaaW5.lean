/- The walks of least and Day. -/
import Derived.Test.YtjikehjhmjfhfaaW2
import Derived.Test.YtjikehjhmjfhfaaW4
namespace Go.Proofs.Ytjikehjhmjfhfaa
open Go.RowKit

theorem own_cell {w : World} {base : Nat} {e : TypeId} {oa : Option Addr} {n cap : Nat} {l : List Int} (h : w.ownsRow base e 1 (.slice oa n cap) n (l.map (.int .i64))) {j : Nat} (hj : j < n) :
    ∃ g, oa = some ⟨g, 0, none⟩ ∧ base ≤ g ∧ g < w.heap.size ∧ w.cell? ⟨g, j, none⟩ = some (.int .i64 (nth l j)) ∧ w.frozen? ⟨g, j, none⟩ = false := by
  have hlen := h.1
  rcases h.2 with ⟨hv, hn⟩ | ⟨g, cap', cur, hv, hb, hg, hnc, hcm, hcs, htake⟩
  · omega
  · simp only [Value.slice.injEq] at hv
    obtain ⟨rfl, _, rfl⟩ := hv
    refine ⟨g, rfl, hb, (Array.getElem?_eq_some_iff.1 hg).1, ?_, h.frozenAt j⟩
    rw [h.cellAt j (by omega)]
    simp at hlen
    rw [nth_eq l j (by omega)]
    simp [show j < l.length by omega]

theorem own_open {w : World} {base : Nat} {e : TypeId} {v : Value} {n : Nat} {xs : List Value} (h : w.ownsRow base e 1 v n xs) : ∃ oa cap, v = .slice oa n cap := by
  rcases h.2 with ⟨rfl, rfl⟩ | ⟨g, cap, cur, rfl, _⟩
  · exact ⟨_, _, rfl⟩
  · exact ⟨_, _, rfl⟩

theorem grownBy_setCell {w wr : World} {g : Nat} (h : w.grownBy wr (some g)) {a : Addr} (ha : a.block = g) (u : Value) : w.grownBy (wr.setCell a u) (some g) := by
  refine ⟨h.os, h.tape, h.output, by rw [World.size_setCell]; exact h.size, fun k hk hne => ?_⟩
  rw [Below.heap_setCell _ _ _ _ (by intro e; subst e; rw [ha] at hne; exact hne rfl)]
  exact h.block k hk hne

theorem ownsRow_blk {w w' : World} {base : Nat} {e : TypeId} {size g n cap m : Nat} {xs : List Value} (h : w.ownsRow base e size (.slice (some ⟨g, 0, none⟩) m cap) n xs) (hb : w'.heap[g]? = w.heap[g]?) :
    w'.ownsRow base e size (.slice (some ⟨g, 0, none⟩) m cap) n xs := by
  obtain ⟨h1, h2⟩ := h
  refine ⟨h1, ?_⟩
  rcases h2 with ⟨hv, _⟩ | ⟨g', cap', cur, hv, hg, hh, r⟩
  · simp at hv
  · have := hv
    simp only [Value.slice.injEq, Option.some.injEq, Addr.mk.injEq] at this
    obtain ⟨⟨rfl, _⟩, _, _⟩ := this
    exact .inr ⟨g, cap', cur, hv, hg, by rw [hb]; exact hh, r⟩

theorem info47 : (Try.prog.info? 47).map (fun i => (i.zero, i.size, i.bytes)) = some (some (.agg #[.int .i64 0, .int .i64 0]), 2, 16) := by kernel_rfl

theorem append_grant {ops : Array Oper} {rest : List Oper} {o : Oper} {a : Act} {Q : Exit → Act → World → Prop} {w : World} (hgd : o.guard = none) (s x : Operand)
    (ho : o.op = .call { callee := .builtin .append, args := #[s, x], argTypes := #[33, 33] }) (base : Nat) (v : Value) (n : Nat) (xs : List Value) (hs : a.eval s = v) (hown : w.ownsRow base 47 2 v n xs)
    (b : Nat) (y z : Int) (hx : a.eval x = .slice (some ⟨b, 0, none⟩) 1 1) (hc : w.cell? ⟨b, 0, none⟩ = some (.int .i64 y)) (hc2 : w.cell? ⟨b, 1, none⟩ = some (.int .i64 z)) (hn : n + 1 ≤ 8796093022208) (hbase : base ≤ w.heap.size)
    (h : ∀ v' w', w'.ownsRow base 47 2 v' (n + 1) (xs ++ [.int .i64 y, .int .i64 z]) → w.grownBy w' v.ownBlock → Below base w w' → wpList Try.prog ops Q rest (a.put o.dst v') w') : wpList Try.prog ops Q (o :: rest) a w := by
  obtain ⟨i0, hi, hz0, hz1, hz2⟩ := info_parts info47
  refine wpList_append_own w hgd s x 33 ho base 47 i0 (.agg #[.int .i64 0, .int .i64 0]) 2 16 Try.underlying33 hi hz0 hz1 hz2 rfl (by decide) v n xs hs hown ⟨b, 0, none⟩ 1 1 [.int .i64 y, .int .i64 z] hx rfl ?_ ?_ ?_ ?_ hbase ?_
  · intro j u hu
    rcases j with _ | _ | j
    · simp at hu; subst hu; simpa [Addr.add] using hc
    · simp at hu; subst hu; simpa [Addr.add] using hc2
    · simp at hu
  · intro u hu; simp at hu; rcases hu with rfl | rfl <;> rfl
  · unfold maxLen; omega
  · omega
  · intro v' w' h1 h2 _
    refine h v' w' h1 h2 ⟨h2.os, h2.tape, h2.output, h2.size, fun k hk => h2.block k (by omega) (fun e => ?_)⟩
    have := (hown.lt k e.symm).1
    omega

set_option maxHeartbeats 400000 in
theorem least_calls (n : Int) (vl vp : Value) (left l : List Int) (w : World) (hl : IntsAt w vl left) (hp : IntsAt w vp l) (hw : ∀ x ∈ l, 0 ≤ x ∧ x < left.length) :
    Calls Try.prog 22 #[.int .i64 n, vl, vp] w fun e w' => e = .returned (.int .i64 (least n left l)) ∧ w = w' := by
  obtain ⟨oa, cap, rfl, hm, hr, hc⟩ := hl
  obtain ⟨oa2, cap2, rfl, hm2, hr2, hc2⟩ := hp
  clear hr hr2
  have Hhc := Lib.hid hc
  clear hc
  have Hhc2 := Lib.hid hc2
  clear hc2
  have Hhw := Lib.hid hw
  clear hw
  go_enter Try.func22, Try.ntmps22
  go_wp2
  go_loop [0, 11] (fun s i => ∃ k : Nat, k ≤ l.length ∧ i = .int .i64 k ∧ s = .int .i64 (least n left (l.take k))) (fun _ i => l.length - (intOf i).toNat)
  case atStart => exact ⟨0, by omega, rfl, by simp [least]⟩
  case round =>
    obtain ⟨k, hk, rfl, rfl⟩ := hrel
    generalize hx : least n left (l.take k) = x
    have HX := Lib.hid hx
    clear hx
    by_cases hlt : k < l.length
    · obtain ⟨b2, off2, rfl, hb2, hcell2⟩ := Hhc2.out (by omega)
      replace hcell2 := hcell2 k hlt
      have hq := Hhw.out (nth l k) (by rw [nth_eq l k hlt]; exact List.getElem_mem hlt)
      obtain ⟨q, hq'⟩ := Int.eq_ofNat_of_zero_le hq.1
      rw [hq'] at hcell2 hq
      obtain ⟨b, off, rfl, hb, hcell⟩ := Hhc.out (by omega)
      replace hcell := hcell q (by omega)
      have HQ := Lib.hid hq'
      have hql : q < left.length := by omega
      clear hb hb2 hq' hq
      by_cases hmin : nth left q < x
      all_goals
       go_wp2
       go_round
       case rel =>
        refine ⟨k + 1, by omega, by go_num, ?_⟩
        have e := HQ.out
        rw [take_snoc' l k hlt, least_snoc, HX.out, ← nth_eq l k hlt, e]
        simp [hmin]
        omega
       case measure => simp [intOf]; omega
    · go_wp2
      go_ret
      have h := HX.out
      rw [List.take_of_length_le (by omega)] at h
      exact ⟨ret_int h.symm, rfl⟩
end Go.Proofs.Ytjikehjhmjfhfaa
