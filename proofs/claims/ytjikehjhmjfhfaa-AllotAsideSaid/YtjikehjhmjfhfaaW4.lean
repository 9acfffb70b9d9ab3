/- The walk of Reach, of the program and of the reference. -/
import Derived.Test.YtjikehjhmjfhfaaW3
namespace Go.Proofs.Ytjikehjhmjfhfaa
open Go.RowKit

theorem info3 : (Try.prog.info? 3).map (fun i => (i.zero, i.size, i.bytes)) = some (some (.int .i64 0), 1, 8) := by kernel_rfl

theorem ownsRow_base {w : World} {B B' : Nat} {e : TypeId} {size : Nat} {v : Value} {n : Nat} {xs : List Value} (h : w.ownsRow B e size v n xs) (hB : B' ≤ B) : w.ownsRow B' e size v n xs := by
  obtain ⟨h1, h2⟩ := h
  refine ⟨h1, ?_⟩
  rcases h2 with h2 | ⟨g, cap, cur, hv, hg, r⟩
  · exact .inl h2
  · exact .inr ⟨g, cap, cur, hv, Nat.le_trans hB hg, r⟩

theorem ownsRow_below {w w' : World} {B : Nat} {base : Nat} {e : TypeId} {size : Nat} {v : Value} {n : Nat} {xs : List Value} (h : w.ownsRow base e size v n xs) (hb : Below B w w') (hB : w.heap.size ≤ B) : w'.ownsRow base e size v n xs := by
  obtain ⟨h1, h2⟩ := h
  refine ⟨h1, ?_⟩
  rcases h2 with h2 | ⟨g, cap, cur, hv, hg, hh, r⟩
  · exact .inl h2
  · refine .inr ⟨g, cap, cur, hv, hg, ?_, r⟩
    rw [hb.block g (Nat.lt_of_lt_of_le (Array.getElem?_eq_some_iff.1 hh).1 hB)]
    exact hh

def slen : Value → Nat
  | .slice _ n _ => n
  | _ => 0
theorem slen_of {w : World} {base : Nat} {e : TypeId} {size : Nat} {v : Value} {n : Nat} {xs : List Value} (h : w.ownsRow base e size v n xs) : slen v = n := by
  rcases h.2 with ⟨rfl, hn⟩ | ⟨g, cap, cur, rfl, _⟩
  · exact hn.symm
  · rfl

theorem append_int {ops : Array Oper} {rest : List Oper} {o : Oper} {a : Act} {Q : Exit → Act → World → Prop} {w : World} (hgd : o.guard = none) (s x : Operand)
    (ho : o.op = .call { callee := .builtin .append, args := #[s, x], argTypes := #[29, 29] }) (base : Nat) (v : Value) (n : Nat) (xs : List Value) (hs : a.eval s = v) (hown : w.ownsRow base 3 1 v n xs)
    (b : Nat) (y : Int) (hx : a.eval x = .slice (some ⟨b, 0, none⟩) 1 1) (hc : w.cell? ⟨b, 0, none⟩ = some (.int .i64 y)) (hn : n + 1 ≤ 17592186044416) (hbase : base ≤ w.heap.size)
    (h : ∀ v' w', w'.ownsRow base 3 1 v' (n + 1) (xs ++ [.int .i64 y]) → Below base w w' → wpList Try.prog ops Q rest (a.put o.dst v') w') : wpList Try.prog ops Q (o :: rest) a w := by
  obtain ⟨i0, hi, hz0, hz1, hz2⟩ := info_parts info3
  refine wpList_append_own w hgd s x 29 ho base 3 i0 (.int .i64 0) 1 8 Try.underlying29 hi hz0 hz1 hz2 rfl (by decide) v n xs hs hown ⟨b, 0, none⟩ 1 1 [.int .i64 y] hx rfl ?_ ?_ ?_ ?_ hbase ?_
  · intro j u hu
    cases j with
    | zero => simp at hu; subst hu; simpa [Addr.add] using hc
    | succ j => simp at hu
  · intro u hu; simp at hu; subst hu; rfl
  · unfold maxLen; omega
  · omega
  · intro v' w' h1 h2 _
    refine h v' w' h1 ⟨h2.os, h2.tape, h2.output, h2.size, fun k hk => h2.block k (by omega) (fun e => ?_)⟩
    have := (hown.lt k e.symm).1
    omega

set_option maxHeartbeats 1000000 in
theorem Reach_calls (v : Value) (pl : List Pl) (p : Int) (w : World) (h : BasinAt w v pl) (hp64 : In64 p) (hl : pl.length ≤ 1048576) :
    Calls Try.prog 13 #[v, .int .i64 p] w fun e w' => ∃ r, e = .returned r ∧ w'.ownsRow w.heap.size 3 1 r (reach pl p).length ((reach pl p).map (.int .i64)) ∧ Below w.heap.size w w' := by
  obtain ⟨hm, x0, x1, x2, oa, cap, x4, x5, x6, x7, x8, x9, x10, rfl, hp⟩ := h
  obtain ⟨i0, hi, hz0, hz1, hz2⟩ := info_parts info3
  have HP := Lib.hid hp
  clear hp
  have HI := Lib.hid hi
  have HZ := Lib.hid hz0
  have HZ1 := Lib.hid hz1
  have HZ2 := Lib.hid hz2
  clear hi hz0 hz1 hz2
  have H64 := Lib.hid hp64
  clear hp64
  go_enter Try.func13, Try.ntmps13
  go_wp2_with fail
  go_loopw [1, 5] (fun s1 s5 wr => ∃ (q : Int) (l : List Int), s1 = .int .i64 q ∧ In64 q ∧ wr.ownsRow (w.heap.size + 1) 3 1 s5 l.length (l.map (.int .i64)) ∧ Ways pl.length l ∧
      reachGo pl (pl.length + 1 - l.length) l q = reach pl p ∧ Below (w.heap.size + 1) (w.alloc (.cells #[x0, x1, x2, .slice oa pl.length cap, x4, x5, x6, x7, x8, x9, x10] 31)) wr)
     (fun _ s5 _ => pl.length - slen s5)
  case atStart => exact ⟨p, [], rfl, H64.out, by simpa using World.ownsRow_nil _ _ _ _, Ways.nil _, rfl, Below.refl _ _⟩
  case round =>
    obtain ⟨q, l, rfl, hq, hown, hways, hgo, hb⟩ := hrel
    have hbox : ∀ j, wr.cell? ⟨w.heap.size, j, none⟩ = (w.alloc (.cells #[x0, x1, x2, .slice oa pl.length cap, x4, x5, x6, x7, x8, x9, x10] 31)).cell? ⟨w.heap.size, j, none⟩ := fun j => hb.cell (p := ⟨w.heap.size, j, none⟩) (by simp)
    have HO := Lib.hid hown
    have HW := Lib.hid hways
    have HG := Lib.hid hgo
    have HB := Lib.hid hb
    have HQ := Lib.hid hq
    clear hown hways hgo hb hq
    have hbas : BasinAt wr (.agg #[x0, x1, x2, .slice oa pl.length cap, x4, x5, x6, x7, x8, x9, x10]) pl :=
      ⟨hm, x0, x1, x2, oa, cap, x4, x5, x6, x7, x8, x9, x10, rfl, HP.out.below (((Below.refl _ _).alloc (Nat.le_refl _) _).trans (HB.out.mono (Nat.le_succ _))) (Nat.le_refl _)⟩
    have HBas := Lib.hid hbas
    clear hbas
    go_wp2_with fail
    refine (is_calls _ pl q wr HBas.out).mono ?_
    rintro e w1 ⟨rfl, hb1⟩
    have hbox1 : ∀ j, w1.cell? ⟨w.heap.size, j, none⟩ = wr.cell? ⟨w.heap.size, j, none⟩ := fun j => hb1.cell (p := ⟨w.heap.size, j, none⟩) (by have := HB.out.size; simp at this ⊢; omega)
    have HB1 := Lib.hid hb1
    clear hb1
    by_cases his : isPlace pl q = true
    · have hq2 : 0 ≤ q ∧ q < pl.length := by simpa [isPlace] using his
      obtain ⟨hq0, hq1⟩ := hq2
      obtain ⟨k, rfl⟩ := Int.eq_ofNat_of_zero_le hq0
      have hkl : k < pl.length := by omega
      have hints : IntsAt w1 u5 l := (IntsAt.of_owned HO.out (fun x hx => by have := HW.out.2 x hx; unfold In64; omega) (by have := HW.out.le; omega)).below HB1.out (Nat.le_refl _)
      have HInts := Lib.hid hints
      clear hints
      go_wp2_with fail
      refine (Contains_calls _ l (k : Int) w1 HInts.out).mono ?_
      rintro e w2 ⟨rfl, rfl⟩
      by_cases hhas : has l (k : Int) = true
      · go_wp2_with fail
        go_ret
        refine ⟨u5, rfl, ?_, ((Below.refl _ _).alloc (Nat.le_refl _) _).trans ((HB.out.mono (Nat.le_succ _)).trans (HB1.out.mono (by have := HB.out.size; simp at this ⊢; omega)))⟩
        have he := reachGo_has HW.out hhas
        rw [HG.out] at he
        rw [he]
        exact ownsRow_below (ownsRow_base HO.out (Nat.le_succ _)) HB1.out (Nat.le_refl _)
      · simp only [Bool.not_eq_true] at hhas
        have hown1 : w1.ownsRow (w.heap.size + 1) 3 1 u5 l.length (l.map (.int .i64)) := ownsRow_below HO.out HB1.out (Nat.le_refl _)
        have HO1 := Lib.hid hown1
        clear hown1
        have hlen : l.length ≤ 1048576 := by have := HW.out.le; omega
        have hsz : w.heap.size + 1 ≤ w1.heap.size := by have := HB.out.size; have := HB1.out.size; simp at *; omega
        go_wp2_with (at_builtin; refine append_int rfl _ _ rfl (w.heap.size + 1) u5 l.length (l.map (.int .i64)) rfl (HO1.out.alloc _) w1.heap.size (k : Int) rfl (by simp) (by omega) (by simp; omega) ?_)
        intro v' w2 hown2 hb2
        have hbw : Below w.heap.size w w2 := ((Below.refl _ _).alloc (Nat.le_refl _) _).trans ((HB.out.mono (Nat.le_succ _)).trans ((HB1.out.mono (by have := HB.out.size; simp at this ⊢; omega)).trans
          (((Below.refl _ _).alloc (by omega) _).trans (hb2.mono (Nat.le_succ _)))))
        obtain ⟨b, off, rfl, hbl, hcell⟩ := (HP.out.below hbw (Nat.le_refl _)).2 (by omega)
        obtain ⟨hc8, hc9⟩ := hcell k hkl
        have hbox2 : ∀ j, w2.cell? ⟨w.heap.size, j, none⟩ = w1.cell? ⟨w.heap.size, j, none⟩ := fun j =>
          (hb2.cell (p := ⟨w.heap.size, j, none⟩) (by simp)).trans (World.cell?_of_block (by rw [Below.heap_alloc _ _ _ (by simp; omega)]))
        have HO2 := Lib.hid hown2
        have HB2 := Lib.hid hb2
        have HBW := Lib.hid hbw
        clear hown2 hb2 hbw hbl hcell
        by_cases hd : 24 ≤ (pl[k]'hkl).delay
        · go_wp2_with fail
          go_ret
          refine ⟨v', rfl, ?_, HBW.out⟩
          have he := reachGo_break HW.out (by omega) (by simpa using hkl) hhas hd
          rw [HG.out] at he
          rw [he]
          simpa using ownsRow_base HO2.out (Nat.le_succ _)
        · go_wp2_with fail
          have he := reachGo_go HW.out (by omega) (by simpa using hkl) hhas hd
          rw [HG.out] at he
          refine ⟨⟨_, l ++ [(k : Int)], rfl, (HP.out.1 _ (List.getElem_mem hkl)).1, by simpa using HO2.out, HW.out.snoc (by omega) (by omega) hhas, he.symm, ?_⟩, ?_⟩
          · exact HB.out.trans ((HB1.out.mono (by have := HB.out.size; simp at this ⊢; omega)).trans (((Below.refl _ _).alloc hsz _).trans HB2.out))
          · have e1 := slen_of HO2.out
            have e2 := slen_of HO.out
            have e3 := (HW.out.snoc (by omega) (by omega) hhas).le
            simp at e3 ⊢
            rw [e1, e2]
            omega
    · simp only [Bool.not_eq_true] at his
      go_wp2_with fail
      go_ret
      refine ⟨u5, rfl, ?_, ((Below.refl _ _).alloc (Nat.le_refl _) _).trans ((HB.out.mono (Nat.le_succ _)).trans (HB1.out.mono (by have := HB.out.size; simp at this ⊢; omega)))⟩
      have he := reachGo_out HW.out (p := q) (by intro h; simp [isPlace] at his; omega)
      rw [HG.out] at he
      rw [he]
      exact ownsRow_below (ownsRow_base HO.out (Nat.le_succ _)) HB1.out (Nat.le_refl _)
end Go.Proofs.Ytjikehjhmjfhfaa
