/- The walk of the reference's Reach. -/
import Derived.Test.YtjikehjhmjfhfaaW4
namespace Go.Proofs.Ytjikehjhmjfhfaa
open Go.RowKit

set_option maxHeartbeats 1000000 in
theorem refReach_calls (v : Value) (pl : List Pl) (p : Int) (w : World) (h : BasinAt w v pl) (hp64 : In64 p) (hl : pl.length ≤ 1048576) :
    Calls Try.prog 14 #[v, .int .i64 p] w fun e w' => ∃ r, e = .returned r ∧ w'.ownsRow w.heap.size 3 1 r (reach pl p).length ((reach pl p).map (.int .i64)) ∧ Below w.heap.size w w' := by
  obtain ⟨hm, x0, x1, x2, oa, cap, x4, x5, x6, x7, x8, x9, x10, rfl, hp⟩ := h
  obtain ⟨i0, hi, hz0, hz1, hz2⟩ := info_parts info3
  have HP := Lib.hid hp
  clear hp
  have HI := Lib.hid hi
  have HZ := Lib.hid hz0
  have HZ1 := Lib.hid hz1
  have HZ2 := Lib.hid hz2
  clear hi hz0 hz1 hz2
  have H64 := Lib.hid hp64
  clear hp64
  go_enter Try.func14, Try.ntmps14
  go_wp2_with fail
  go_loopw [1, 5] (fun s1 s5 wr => ∃ (q : Int) (l : List Int), s1 = .int .i64 q ∧ In64 q ∧ wr.ownsRow (w.heap.size + 1) 3 1 s5 l.length (l.map (.int .i64)) ∧ Ways pl.length l ∧
      reachGo pl (pl.length + 1 - l.length) l q = reach pl p ∧ Below (w.heap.size + 1) (w.alloc (.cells #[x0, x1, x2, .slice oa pl.length cap, x4, x5, x6, x7, x8, x9, x10] 31)) wr)
     (fun _ s5 _ => pl.length - slen s5)
  case atStart => exact ⟨p, [], rfl, H64.out, by simpa using World.ownsRow_nil _ _ _ _, Ways.nil _, rfl, Below.refl _ _⟩
  case round =>
    obtain ⟨q, l, rfl, hq, hown, hways, hgo, hb⟩ := hrel
    have hbox : ∀ j, wr.cell? ⟨w.heap.size, j, none⟩ = (w.alloc (.cells #[x0, x1, x2, .slice oa pl.length cap, x4, x5, x6, x7, x8, x9, x10] 31)).cell? ⟨w.heap.size, j, none⟩ := fun j => hb.cell (p := ⟨w.heap.size, j, none⟩) (by simp)
    have HO := Lib.hid hown
    have HW := Lib.hid hways
    have HG := Lib.hid hgo
    have HB := Lib.hid hb
    have HQ := Lib.hid hq
    clear hown hways hgo hb hq
    by_cases his : 0 ≤ q ∧ q < pl.length
    · obtain ⟨hq0, hq1⟩ := his
      obtain ⟨k, rfl⟩ := Int.eq_ofNat_of_zero_le hq0
      have hkl : k < pl.length := by omega
      have hints : IntsAt wr u5 l := IntsAt.of_owned HO.out (fun x hx => by have := HW.out.2 x hx; unfold In64; omega) (by have := HW.out.le; omega)
      have HInts := Lib.hid hints
      clear hints
      go_wp2_with fail
      refine (Has_calls _ l (k : Int) wr HInts.out).mono ?_
      rintro e w2 ⟨rfl, rfl⟩
      by_cases hhas : has l (k : Int) = true
      · go_wp2_with fail
        go_ret
        refine ⟨u5, rfl, ?_, ((Below.refl _ _).alloc (Nat.le_refl _) _).trans (HB.out.mono (Nat.le_succ _))⟩
        have he := reachGo_has HW.out hhas
        rw [HG.out] at he
        rw [he]
        exact ownsRow_base HO.out (Nat.le_succ _)
      · simp only [Bool.not_eq_true] at hhas
        have hown1 := HO.out
        have HO1 := Lib.hid hown1
        clear hown1
        have hlen : l.length ≤ 1048576 := by have := HW.out.le; omega
        have hsz : w.heap.size + 1 ≤ wr.heap.size := by have := HB.out.size; simp at *; omega
        go_wp2_with (at_builtin; refine append_int rfl _ _ rfl (w.heap.size + 1) u5 l.length (l.map (.int .i64)) rfl (HO1.out.alloc _) wr.heap.size (k : Int) rfl (by simp) (by omega) (by simp; omega) ?_)
        intro v' w2 hown2 hb2
        have hB := HB.out
        have hbw : Below w.heap.size w w2 := (by ((repeat' (first | exact Below.refl _ _ | (refine Below.alloc ?_ ?_ _) | (refine Below.setCell ?_ ?_ _) | (refine Below.drew ?_) | (refine Below.trans ?_ (Below.mono (by assumption) ?_)))) <;> ((try simp only [World.size_alloc, World.size_setCell, World.size_drew] at *); omega)))
        clear hB
        obtain ⟨b, off, rfl, hbl, hcell⟩ := (HP.out.below hbw (Nat.le_refl _)).2 (by omega)
        obtain ⟨hc8, hc9⟩ := hcell k hkl
        have hbox2 : ∀ j, w2.cell? ⟨w.heap.size, j, none⟩ = wr.cell? ⟨w.heap.size, j, none⟩ := fun j =>
          (hb2.cell (p := ⟨w.heap.size, j, none⟩) (by simp)).trans (World.cell?_of_block (by rw [Below.heap_alloc _ _ _ (by simp; omega)]))
        have HO2 := Lib.hid hown2
        have HB2 := Lib.hid hb2
        have HBW := Lib.hid hbw
        clear hown2 hb2 hbw hbl hcell
        by_cases hd : 24 ≤ (pl[k]'hkl).delay
        · go_wp2_with fail
          go_ret
          refine ⟨v', rfl, ?_, HBW.out⟩
          have he := reachGo_break HW.out (by omega) (by simpa using hkl) hhas hd
          rw [HG.out] at he
          rw [he]
          simpa using ownsRow_base HO2.out (Nat.le_succ _)
        · go_wp2_with fail
          have he := reachGo_go HW.out (by omega) (by simpa using hkl) hhas hd
          rw [HG.out] at he
          refine ⟨⟨_, l ++ [(k : Int)], rfl, (HP.out.1 _ (List.getElem_mem hkl)).1, by simpa using HO2.out, HW.out.snoc (by omega) (by omega) hhas, he.symm, ?_⟩, ?_⟩
          · exact HB.out.trans (((Below.refl _ _).alloc hsz _).trans HB2.out)
          · have e1 := slen_of HO2.out
            have e2 := slen_of HO.out
            have e3 := (HW.out.snoc (by omega) (by omega) hhas).le
            simp at e3 ⊢
            rw [e1, e2]
            omega
    · have he := reachGo_out HW.out (p := q) (by intro h; exact his ⟨h.1, by omega⟩)
      have HHe := Lib.hid he
      clear he
      by_cases hq0 : 0 ≤ q
      · have hq1 : ¬ q < pl.length := fun h => his ⟨hq0, h⟩
        clear his
        go_wp2_with fail
        go_ret
        refine ⟨u5, rfl, ?_, ((Below.refl _ _).alloc (Nat.le_refl _) _).trans (HB.out.mono (Nat.le_succ _))⟩
        have he := HHe.out
        rw [HG.out] at he
        rw [he]
        exact ownsRow_base HO.out (Nat.le_succ _)
      · clear his
        go_wp2_with fail
        go_ret
        refine ⟨u5, rfl, ?_, ((Below.refl _ _).alloc (Nat.le_refl _) _).trans (HB.out.mono (Nat.le_succ _))⟩
        have he := HHe.out
        rw [HG.out] at he
        rw [he]
        exact ownsRow_base HO.out (Nat.le_succ _)
end Go.Proofs.Ytjikehjhmjfhfaa
