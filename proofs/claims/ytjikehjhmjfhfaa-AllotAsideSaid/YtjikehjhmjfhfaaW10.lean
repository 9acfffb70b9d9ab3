/- The walk of There. -/
import Derived.Test.YtjikehjhmjfhfaaW2
import Derived.Test.YtjikehjhmjfhfaaW8
namespace Go.Proofs.Ytjikehjhmjfhfaa
open Go.RowKit

theorem IntsAt.at' {w : World} {oa : Option Addr} {n cap : Nat} {l : List Int} (h : IntsAt w (.slice oa n cap) l) {k : Nat} (hk : k < l.length) :
    n = l.length ∧ ∃ b off, oa = some ⟨b, off, none⟩ ∧ b < w.heap.size ∧ w.cell? ⟨b, off + k, none⟩ = some (.int .i64 (nth l k)) := by
  obtain ⟨oa', cap', hv, _, _, hc⟩ := h
  obtain ⟨rfl, rfl, rfl⟩ := Value.slice.inj hv
  obtain ⟨b, off, rfl, hb, hc⟩ := hc (by omega)
  exact ⟨rfl, b, off, rfl, hb, hc k hk⟩

set_option maxRecDepth 100000 in
set_option maxHeartbeats 1000000 in
theorem There_calls (v vs : Value) (pl : List Pl) (supply : List Int) (q : Int) (w : World) (h : BasinAt w v pl) (hs : IntsAt w vs supply) (hl : pl.length ≤ 1048576) :
    Calls Try.prog 19 #[v, vs, .int .i64 q] w fun e w' => e = .returned (.int .i64 (there pl supply q)) ∧ Below w.heap.size w w' := by
  obtain ⟨hm, x0, x1, x2, oa, cap, x4, x5, x6, x7, x8, x9, x10, rfl, hp⟩ := h
  have hs0 := hs
  obtain ⟨oas, caps, rfl, hsm, hs64, hsc⟩ := hs
  have hs64' := getD_in hs64
  have ht : there pl supply q = thereN pl supply q (min pl.length supply.length) := rfl
  have hmin1 : min pl.length supply.length ≤ pl.length := Nat.min_le_left _ _
  have hmin2 : min pl.length supply.length ≤ supply.length := Nat.min_le_right _ _
  have hmin3 : ∀ k, k < pl.length → k < supply.length → k < min pl.length supply.length := fun k h1 h2 => by omega
  have hmin4 : ∀ k, k ≤ min pl.length supply.length → ¬ (k < pl.length ∧ k < supply.length) → k = min pl.length supply.length := fun k h1 h2 => by omega
  generalize min pl.length supply.length = m at *
  clear hsc hs64
  have Hhp := Lib.hid hp
  clear hp
  have Hhs0 := Lib.hid hs0
  clear hs0
  have Hhs64' := Lib.hid hs64'
  clear hs64'
  have Hht := Lib.hid ht
  clear ht
  have Hhmin3 := Lib.hid hmin3
  clear hmin3
  have Hhmin4 := Lib.hid hmin4
  clear hmin4
  go_enter Try.func19, Try.ntmps19
  go_wp2_with fail
  go_loopw [7, 8] (fun s7 s8 wr => ∃ k : Nat, k ≤ m ∧ s8 = .int .i64 k ∧ s7 = .int .i64 (thereN pl supply q k) ∧ Below (w.heap.size + 1) (w.alloc (.cells #[x0, x1, x2, .slice oa pl.length cap, x4, x5, x6, x7, x8, x9, x10] 31)) wr) (fun _ s8 _ => m - (intOf s8).toNat)
  case atStart => exact ⟨0, by omega, rfl, rfl, Below.refl _ _⟩
  case round =>
    obtain ⟨k, hk, rfl, rfl, hB⟩ := hrel
    have hbox : ∀ j, wr.cell? ⟨w.heap.size, j, none⟩ = (w.alloc (.cells #[x0, x1, x2, .slice oa pl.length cap, x4, x5, x6, x7, x8, x9, x10] 31)).cell? ⟨w.heap.size, j, none⟩ := fun j => hB.cell (p := ⟨w.heap.size, j, none⟩) (by simp)
    have hsz := hB.size
    simp only [World.size_alloc] at hsz
    have hbd := thereN_bd pl supply q k
    have hyes := @thereN_yes pl supply q k
    have hno := @thereN_no pl supply q k
    generalize hx : thereN pl supply q k = x at *
    by_cases h1 : k < pl.length
    · by_cases h2 : k < supply.length
      · have hkm := Hhmin3.out k h1 h2
        have hsB := Hhs0.out.below (w' := wr) (by ((repeat' (first | exact Below.refl _ _ | (refine Below.alloc ?_ ?_ _) | (refine Below.setCell ?_ ?_ _) | (refine Below.drew ?_) | (refine Below.trans ?_ (Below.mono (by assumption) ?_)))) <;> ((try simp only [World.size_alloc, World.size_setCell, World.size_drew] at *); omega))) (Nat.le_refl _)
        obtain ⟨-, b, off, rfl, hb, hcs⟩ := hsB.at' h2
        have hs64k := Hhs64'.out k
        have Hhbd := Lib.hid hbd
        clear hbd
        have Hhyes := Lib.hid hyes
        clear hyes
        have Hhno := Lib.hid hno
        clear hno
        have Hhx := Lib.hid hx
        clear hx
        have HhsB := Lib.hid hsB
        clear hsB
        have Hhs64k := Lib.hid hs64k
        clear hs64k
        go_wp2_with fail
        refine (refReach_calls (.agg #[x0, x1, x2, .slice oa pl.length cap, x4, x5, x6, x7, x8, x9, x10]) pl k wr ⟨hm, x0, x1, x2, oa, cap, x4, x5, x6, x7, x8, x9, x10, rfl, Hhp.out.below (by ((repeat' (first | exact Below.refl _ _ | (refine Below.alloc ?_ ?_ _) | (refine Below.setCell ?_ ?_ _) | (refine Below.drew ?_) | (refine Below.trans ?_ (Below.mono (by assumption) ?_)))) <;> ((try simp only [World.size_alloc, World.size_setCell, World.size_drew] at *); omega))) (Nat.le_refl _)⟩ (by unfold In64; omega) hl).mono ?_
        rintro e w2 ⟨rv, rfl, hown2, hB2⟩
        have hsz2 := hB2.size
        have hbox2 : ∀ j, w2.cell? ⟨w.heap.size, j, none⟩ = wr.cell? ⟨w.heap.size, j, none⟩ := fun j => hB2.cell (p := ⟨w.heap.size, j, none⟩) (by simp; omega)
        have hcs2 : w2.cell? ⟨b, off + k, none⟩ = some (.int .i64 (nth supply k)) := by rw [← hcs]; exact hB2.cell (p := ⟨b, off + k, none⟩) hb
        have hint2 : IntsAt w2 rv (reach pl k) := IntsAt.of_owned hown2 (fun x hx => by have := (reach_ways pl k).2 x hx; unfold In64; omega) (by have := (reach_ways pl k).le; omega)
        have Hhown2 := Lib.hid hown2
        clear hown2
        have Hhint2 := Lib.hid hint2
        clear hint2
        go_wp2_with fail
        refine (Has_calls rv (reach pl k) q w2 Hhint2.out).mono ?_
        rintro e w' ⟨rfl, rfl⟩
        by_cases hh : has (reach pl k) q = true
        · by_cases hpos : 0 < nth supply k
          · go_wp2_with fail
            refine (refAdd_calls x (nth supply k) w2 (by have := Hhbd.out; unfold In64; omega) Hhs64k.out).mono ?_
            rintro e w' ⟨rfl, rfl⟩
            go_wp2_with fail
            exact ⟨⟨k + 1, by omega, by go_num, by rw [Hhyes.out hh hpos], (by ((repeat' (first | exact Below.refl _ _ | (refine Below.alloc ?_ ?_ _) | (refine Below.setCell ?_ ?_ _) | (refine Below.drew ?_) | (refine Below.trans ?_ (Below.mono (by assumption) ?_)))) <;> ((try simp only [World.size_alloc, World.size_setCell, World.size_drew] at *); omega)))⟩, by simp [intOf]; omega⟩
          · go_wp2_with fail
            exact ⟨⟨k + 1, by omega, by go_num, by rw [Hhno.out (fun h => by have := h.2; omega)], (by ((repeat' (first | exact Below.refl _ _ | (refine Below.alloc ?_ ?_ _) | (refine Below.setCell ?_ ?_ _) | (refine Below.drew ?_) | (refine Below.trans ?_ (Below.mono (by assumption) ?_)))) <;> ((try simp only [World.size_alloc, World.size_setCell, World.size_drew] at *); omega)))⟩, by simp [intOf]; omega⟩
        · have hh' : has (reach pl k) q = false := by simpa using hh
          clear hh
          go_wp2_with fail
          exact ⟨⟨k + 1, by omega, by go_num, by rw [Hhno.out (fun h => by have := h.1; rw [show (reach pl k).any (fun x => x == q) = has (reach pl k) q from rfl, hh'] at this; exact absurd this (by simp))], (by ((repeat' (first | exact Below.refl _ _ | (refine Below.alloc ?_ ?_ _) | (refine Below.setCell ?_ ?_ _) | (refine Below.drew ?_) | (refine Below.trans ?_ (Below.mono (by assumption) ?_)))) <;> ((try simp only [World.size_alloc, World.size_setCell, World.size_drew] at *); omega)))⟩, by simp [intOf]; omega⟩
      · have hkm := Hhmin4.out k hk (fun h => h2 h.2)
        have Hhbd := Lib.hid hbd
        clear hbd
        have Hhyes := Lib.hid hyes
        clear hyes
        have Hhno := Lib.hid hno
        clear hno
        have Hhx := Lib.hid hx
        clear hx
        have Hhkm := Lib.hid hkm
        clear hkm
        go_wp2_with fail
        go_ret
        refine ⟨ret_int ?_, (by ((repeat' (first | exact Below.refl _ _ | (refine Below.alloc ?_ ?_ _) | (refine Below.setCell ?_ ?_ _) | (refine Below.drew ?_) | (refine Below.trans ?_ (Below.mono (by assumption) ?_)))) <;> ((try simp only [World.size_alloc, World.size_setCell, World.size_drew] at *); omega)))⟩
        rw [Hht.out, ← Hhkm.out, Hhx.out]
    · have hkm := Hhmin4.out k hk (fun h => h1 h.1)
      have Hhbd := Lib.hid hbd
      clear hbd
      have Hhyes := Lib.hid hyes
      clear hyes
      have Hhno := Lib.hid hno
      clear hno
      have Hhx := Lib.hid hx
      clear hx
      have Hhkm := Lib.hid hkm
      clear hkm
      go_wp2_with fail
      go_ret
      refine ⟨ret_int ?_, (by ((repeat' (first | exact Below.refl _ _ | (refine Below.alloc ?_ ?_ _) | (refine Below.setCell ?_ ?_ _) | (refine Below.drew ?_) | (refine Below.trans ?_ (Below.mono (by assumption) ?_)))) <;> ((try simp only [World.size_alloc, World.size_setCell, World.size_drew] at *); omega)))⟩
      rw [Hht.out, ← Hhkm.out, Hhx.out]
end Go.Proofs.Ytjikehjhmjfhfaa
