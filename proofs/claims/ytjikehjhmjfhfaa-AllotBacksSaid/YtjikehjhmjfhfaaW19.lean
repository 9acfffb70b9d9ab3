/- The law AllotBacks. -/
import Derived.Test.YtjikehjhmjfhfaaW16
import Derived.Test.YtjikehjhmjfhfaaPlain3
import Derived.Test.YtjikehjhmjfhfaaW17
import Derived.Test.YtjikehjhmjfhfaaPlain4
import Derived.Deep.RegionHeld3
namespace Go.Proofs.Ytjikehjhmjfhfaa
open Go.RowKit

/-- the Ids of the first i rights differ -/
def DistTo (rs : List Rt) (i : Nat) : Prop := ∀ a b (ha : a < rs.length) (hb : b < rs.length), a < b → b < i → rs[b].id ≠ rs[a].id
theorem DistTo.all {rs : List Rt} (h : DistTo rs rs.length) : Distinct rs := by
  intro i j hi hj e
  by_cases h1 : i < j
  · exact absurd e.symm (h i j hi hj h1 hj)
  · by_cases h2 : j < i
    · exact absurd e (h j i hj hi h2 hi)
    · omega

set_option maxRecDepth 100000 in
set_option maxHeartbeats 40000000 in
theorem Backs_calls (v vr vs : Value) (pl : List Pl) (rs : List Rt) (supply : List Int) (w : World) (h : BasinAt w v pl) (hr : RightsAt w vr rs) (hs : IntsAt w vs supply) :
    Calls Try.prog 7 #[v, vr, vs] w fun e w' => e = .returned (.bool true) ∧ Below w.heap.size w w' := by
  have hbas := h
  obtain ⟨hm, x0, x1, x2, oa, cap, x4, x5, x6, x7, x8, x9, x10, rfl, hp⟩ := h
  have hr0 := hr
  obtain ⟨oar, capr, rfl, hrm, -, -⟩ := hr
  clear hp
  have Hhbas := Lib.hid hbas
  clear hbas
  have Hhr0 := Lib.hid hr0
  clear hr0
  have Hhs := Lib.hid hs
  clear hs
  go_enter Try.func7, Try.ntmps7
  go_wp2_with fail
  refine (small_calls _).mono ?_
  rintro e w1 ⟨rfl, hB1⟩
  have hsz1 := hB1.size
  simp only [World.size_alloc] at hsz1
  have hbox1 : ∀ j, w1.cell? ⟨w.heap.size, j, none⟩ = (w.alloc (.cells #[x0, x1, x2, .slice oa pl.length cap, x4, x5, x6, x7, x8, x9, x10] 31)).cell? ⟨w.heap.size, j, none⟩ := fun j => hB1.cell (p := ⟨w.heap.size, j, none⟩) (by simp)
  go_wp2_with fail
  refine (few_calls _ _ _ pl rs _ _ _ w1 (Hhbas.out.below (w' := w1) (by ((repeat' (first | exact Below.refl _ _ | (refine Below.alloc ?_ ?_ _) | (refine Below.setCell ?_ ?_ _) | (refine Below.drew ?_) | (refine Below.trans ?_ (Below.mono (by assumption) ?_)))) <;> ((try simp only [World.size_alloc, World.size_setCell, World.size_drew] at *); omega))) (Nat.le_refl _)) (Hhr0.out.below (w' := w1) (by ((repeat' (first | exact Below.refl _ _ | (refine Below.alloc ?_ ?_ _) | (refine Below.setCell ?_ ?_ _) | (refine Below.drew ?_) | (refine Below.trans ?_ (Below.mono (by assumption) ?_)))) <;> ((try simp only [World.size_alloc, World.size_setCell, World.size_drew] at *); omega))) (Nat.le_refl _)) rfl).mono ?_
  rintro e w2 ⟨rfl, hB2⟩
  have hsz2 := hB2.size
  have hbox2 : ∀ j, w2.cell? ⟨w.heap.size, j, none⟩ = (w.alloc (.cells #[x0, x1, x2, .slice oa pl.length cap, x4, x5, x6, x7, x8, x9, x10] 31)).cell? ⟨w.heap.size, j, none⟩ := fun j => (hB2.cell (p := ⟨w.heap.size, j, none⟩) (by simp; omega)).trans (hbox1 j)
  by_cases f1 : pl.length ≤ 64
  rotate_left
  · go_wp2_with fail
    go_ret
    exact ⟨rfl, (by ((repeat' (first | exact Below.refl _ _ | (refine Below.alloc ?_ ?_ _) | (refine Below.setCell ?_ ?_ _) | (refine Below.drew ?_) | (refine Below.trans ?_ (Below.mono (by assumption) ?_)))) <;> ((try simp only [World.size_alloc, World.size_setCell, World.size_drew] at *); omega)))⟩
  by_cases f2 : rs.length ≤ 40
  rotate_left
  · go_wp2_with fail
    go_ret
    exact ⟨rfl, (by ((repeat' (first | exact Below.refl _ _ | (refine Below.alloc ?_ ?_ _) | (refine Below.setCell ?_ ?_ _) | (refine Below.drew ?_) | (refine Below.trans ?_ (Below.mono (by assumption) ?_)))) <;> ((try simp only [World.size_alloc, World.size_setCell, World.size_drew] at *); omega)))⟩
  go_wp2_with fail
  go_loopw [9, 10] (fun s9 _ wr => ∃ i : Nat, i ≤ rs.length ∧ s9 = .int .i64 i ∧ DistTo rs i ∧ Below w2.heap.size w2 wr) (fun s9 _ _ => rs.length - (intOf s9).toNat)
  case atStart => exact ⟨0, by omega, rfl, fun a b _ _ _ h => by omega, Below.refl _ _⟩
  case round =>
    obtain ⟨i, hi, rfl, hdist, hB⟩ := hrel
    have hsz := hB.size
    by_cases hlt : i < rs.length
    · have Hhdist := Lib.hid hdist
      clear hdist
      go_wp2_with fail
      obtain ⟨wo, rfl⟩ : ∃ wo : World, wo = wr := ⟨_, rfl⟩
      go_loopw [10] (fun s10 wr => ∃ k : Nat, k ≤ i ∧ s10 = .int .i64 k ∧ (∀ c (hc : c < k) (hc2 : c < rs.length), rs[i].id ≠ rs[c].id) ∧ Below w2.heap.size w2 wr) (fun s10 _ => i - (intOf s10).toNat)
      case atStart => exact ⟨0, by omega, rfl, fun c hc => by omega, hB⟩
      case round =>
        clear hB
        obtain ⟨k, hk, rfl, hnk, hB⟩ := hrel
        have hsz3 := hB.size
        by_cases hki : k < i
        · have hrB := Hhr0.out.below (w' := wr) (by ((repeat' (first | exact Below.refl _ _ | (refine Below.alloc ?_ ?_ _) | (refine Below.setCell ?_ ?_ _) | (refine Below.drew ?_) | (refine Below.trans ?_ (Below.mono (by assumption) ?_)))) <;> ((try simp only [World.size_alloc, World.size_setCell, World.size_drew] at *); omega))) (Nat.le_refl _)
          obtain ⟨b, off, rfl, hb, hrc⟩ := hrB.at' hlt
          obtain ⟨b', off', hbo, -, hrc'⟩ := hrB.at' (k := k) (by omega)
          simp only [Option.some.injEq, Addr.mk.injEq, and_true] at hbo
          obtain ⟨rfl, rfl⟩ := hbo
          have c0 := (right_cells hrc).1
          have e0 := (right_cells hrc').1
          have hklt : k < rs.length := by omega
          clear hrB hrc hrc'
          by_cases he : rs[i].id = rs[k].id
          · have he' : (rs[i].id == rs[k].id) = true := by simp [he]
            have Hhnk := Lib.hid hnk
            clear hnk
            have Hhe := Lib.hid he
            clear he
            go_wp2_with fail
            go_quiet (fail)
            go_wp2_with fail
            go_ret
            exact ⟨rfl, below_drewN (by ((repeat' (first | exact Below.refl _ _ | (refine Below.alloc ?_ ?_ _) | (refine Below.setCell ?_ ?_ _) | (refine Below.drew ?_) | (refine Below.trans ?_ (Below.mono (by assumption) ?_)))) <;> ((try simp only [World.size_alloc, World.size_setCell, World.size_drew] at *); omega))) _⟩
          · have he' : (rs[i].id == rs[k].id) = false := by simp [he]
            have hnk' : ∀ c (hc : c < k + 1) (hc2 : c < rs.length), rs[i].id ≠ rs[c].id := fun c hc hc2 => by
              by_cases hck : c < k
              · exact hnk c hck hc2
              · obtain rfl : c = k := by omega
                exact he
            have Hhnk := Lib.hid hnk
            clear hnk
            have Hhe := Lib.hid he
            clear he
            have Hhnk' := Lib.hid hnk'
            clear hnk'
            go_wp2_with fail
            go_quiet (fail)
            go_wp2_with fail
            exact ⟨⟨k + 1, by omega, by go_num, Hhnk'.out, below_drewN (by ((repeat' (first | exact Below.refl _ _ | (refine Below.alloc ?_ ?_ _) | (refine Below.setCell ?_ ?_ _) | (refine Below.drew ?_) | (refine Below.trans ?_ (Below.mono (by assumption) ?_)))) <;> ((try simp only [World.size_alloc, World.size_setCell, World.size_drew] at *); omega))) _⟩, by simp [intOf]; omega⟩
        · obtain rfl : k = i := by omega
          have hd' : DistTo rs (k + 1) := fun a b ha hb hab hbk => by
            by_cases hbk2 : b < k
            · exact Hhdist.out a b ha hb hab hbk2
            · obtain rfl : b = k := by omega
              exact hnk a hab ha
          have Hhnk := Lib.hid hnk
          clear hnk
          have Hhd' := Lib.hid hd'
          clear hd'
          go_wp2_with fail
          exact ⟨⟨k + 1, by omega, by go_num, Hhd'.out, (by ((repeat' (first | exact Below.refl _ _ | (refine Below.alloc ?_ ?_ _) | (refine Below.setCell ?_ ?_ _) | (refine Below.drew ?_) | (refine Below.trans ?_ (Below.mono (by assumption) ?_)))) <;> ((try simp only [World.size_alloc, World.size_setCell, World.size_drew] at *); omega)))⟩, by simp [intOf]; omega⟩
    · obtain rfl : i = rs.length := by omega
      have hdis := hdist.all
      have hbox2' : ∀ j, wr.cell? ⟨w.heap.size, j, none⟩ = (w.alloc (.cells #[x0, x1, x2, .slice oa pl.length cap, x4, x5, x6, x7, x8, x9, x10] 31)).cell? ⟨w.heap.size, j, none⟩ := fun j => (hB.cell (p := ⟨w.heap.size, j, none⟩) (by simp; omega)).trans (hbox2 j)
      have Hhdist := Lib.hid hdist
      clear hdist
      have Hhdis := Lib.hid hdis
      clear hdis
      go_wp2_with fail
      refine (Day_calls _ _ _ pl rs supply wr (Hhbas.out.below (w' := wr) (by ((repeat' (first | exact Below.refl _ _ | (refine Below.alloc ?_ ?_ _) | (refine Below.setCell ?_ ?_ _) | (refine Below.drew ?_) | (refine Below.trans ?_ (Below.mono (by assumption) ?_)))) <;> ((try simp only [World.size_alloc, World.size_setCell, World.size_drew] at *); omega))) (Nat.le_refl _)) (Hhr0.out.below (w' := wr) (by ((repeat' (first | exact Below.refl _ _ | (refine Below.alloc ?_ ?_ _) | (refine Below.setCell ?_ ?_ _) | (refine Below.drew ?_) | (refine Below.trans ?_ (Below.mono (by assumption) ?_)))) <;> ((try simp only [World.size_alloc, World.size_setCell, World.size_drew] at *); omega))) (Nat.le_refl _)) (Hhs.out.below (w' := wr) (by ((repeat' (first | exact Below.refl _ _ | (refine Below.alloc ?_ ?_ _) | (refine Below.setCell ?_ ?_ _) | (refine Below.drew ?_) | (refine Below.trans ?_ (Below.mono (by assumption) ?_)))) <;> ((try simp only [World.size_alloc, World.size_setCell, World.size_drew] at *); omega))) (Nat.le_refl _)) (by omega) (by omega)).mono ?_
      rintro e w3 ⟨r1, g, rfl, hG3, hL3, hgg, hB3⟩
      have hsz3 := hB3.size
      have hbox3 : ∀ j, w3.cell? ⟨w.heap.size, j, none⟩ = (w.alloc (.cells #[x0, x1, x2, .slice oa pl.length cap, x4, x5, x6, x7, x8, x9, x10] 31)).cell? ⟨w.heap.size, j, none⟩ := fun j => (hB3.cell (p := ⟨w.heap.size, j, none⟩) (by simp; omega)).trans (hbox2' j)
      obtain ⟨hG, hL⟩ := day_facts (by obtain ⟨_, _, _, _, h64, _⟩ := Hhr0.out; exact h64) (by omega) (by omega) hG3 hL3
      have hdl := day_length pl rs supply
      obtain ⟨oag, capg, rfl⟩ : ∃ oag capg, r1 = .slice oag rs.length capg := by obtain ⟨a, c, e, _⟩ := hG; exact ⟨a, c, by rw [e, hdl]⟩
      clear hgg hG3 hL3 hL
      have HhG := Lib.hid hG
      clear hG
      have Hhdl := Lib.hid hdl
      clear hdl
      go_wp2_with fail
      refine (Back_calls _ _ _ pl rs _ w3 (Hhbas.out.below (w' := w3) (by ((repeat' (first | exact Below.refl _ _ | (refine Below.alloc ?_ ?_ _) | (refine Below.setCell ?_ ?_ _) | (refine Below.drew ?_) | (refine Below.trans ?_ (Below.mono (by assumption) ?_)))) <;> ((try simp only [World.size_alloc, World.size_setCell, World.size_drew] at *); omega))) (Nat.le_refl _)) (Hhr0.out.below (w' := w3) (by ((repeat' (first | exact Below.refl _ _ | (refine Below.alloc ?_ ?_ _) | (refine Below.setCell ?_ ?_ _) | (refine Below.drew ?_) | (refine Below.trans ?_ (Below.mono (by assumption) ?_)))) <;> ((try simp only [World.size_alloc, World.size_setCell, World.size_drew] at *); omega))) (Nat.le_refl _)) HhG.out (by omega) (by omega)).mono ?_
      rintro e w4 ⟨rfl, hown4, hB4⟩
      have hsz4 := hB4.size
      have hbox4 : ∀ j, w4.cell? ⟨w.heap.size, j, none⟩ = (w.alloc (.cells #[x0, x1, x2, .slice oa pl.length cap, x4, x5, x6, x7, x8, x9, x10] 31)).cell? ⟨w.heap.size, j, none⟩ := fun j => (hB4.cell (p := ⟨w.heap.size, j, none⟩) (by simp; omega)).trans (hbox3 j)
      have hg4 := (hown4.lt _ rfl).2
      have Hhown4 := Lib.hid hown4
      clear hown4
      go_wp2_with fail
      obtain ⟨wo, rfl⟩ : ∃ wo : World, wo = wr := ⟨_, rfl⟩
      go_loop [14] (fun s14 => ∃ q : Nat, q ≤ pl.length ∧ s14 = .int .i64 q) (fun s14 => pl.length - (intOf s14).toNat)
      case atStart => exact ⟨0, by omega, rfl⟩
      case round =>
        obtain ⟨q, hq, rfl⟩ := hrel
        by_cases hqlt : q < pl.length
        · go_wp2_with fail
          go_loop [15, 16] (fun s15 s16 => ∃ i : Nat, i ≤ rs.length ∧ s16 = .int .i64 i ∧ s15 = .int .i64 (most pl rs supply q i)) (fun _ s16 => rs.length - (intOf s16).toNat)
          case atStart => exact ⟨0, by omega, rfl, rfl⟩
          case round =>
            obtain ⟨i, hi2, rfl, rfl⟩ := hrel
            have hmb := most_bd pl rs supply q i hi2
            by_cases hilt : i < rs.length
            · have hyes := most_yes (pl := pl) (supply := supply) (q := q) hilt
              have hno := most_no (pl := pl) (supply := supply) (q := q) hilt
              have hd := day_at (pl := pl) (supply := supply) hilt
              have hGB := HhG.out.below (w' := w4) (B := w3.heap.size) (by ((repeat' (first | exact Below.refl _ _ | (refine Below.alloc ?_ ?_ _) | (refine Below.setCell ?_ ?_ _) | (refine Below.drew ?_) | (refine Below.trans ?_ (Below.mono (by assumption) ?_)))) <;> ((try simp only [World.size_alloc, World.size_setCell, World.size_drew] at *); omega))) (Nat.le_refl _)
              obtain ⟨bg, og, rfl, hbg, c1, c2⟩ := hGB.at' (show i < _ by rw [Hhdl.out]; exact hilt)
              rw [List.getElem?_eq_getElem (by rw [Hhdl.out]; exact hilt), Option.some.injEq] at hd
              rw [hd] at c2
              simp only at c2
              have hrB := Hhr0.out.below (w' := w4) (by ((repeat' (first | exact Below.refl _ _ | (refine Below.alloc ?_ ?_ _) | (refine Below.setCell ?_ ?_ _) | (refine Below.drew ?_) | (refine Below.trans ?_ (Below.mono (by assumption) ?_)))) <;> ((try simp only [World.size_alloc, World.size_setCell, World.size_drew] at *); omega))) (Nat.le_refl _)
              obtain ⟨b, off, rfl, hb, hrc⟩ := hrB.at' hilt
              have hge := grant_ge pl (leftAt pl rs supply i) rs[i]
              have hgu := grant_64 (leftAt_vols pl rs supply i) rs[i]
              generalize grant pl (leftAt pl rs supply i) rs[i] = n at *
              generalize rs[i] = r at *
              obtain ⟨-, -, -, -, -, -, -, d7, d8⟩ := right_cells hrc
              generalize most pl rs supply q i = m at *
              have hn64 : In64 n := by unfold In64; omega
              have hm64 : In64 m := by unfold In64; omega
              clear hGB hrB hrc c1
              by_cases hbq : r.backTo = (q : Int)
              · have hbq' : (r.backTo == (q : Int)) = true := by simp [hbq]
                by_cases hb0 : 0 < r.back
                · have he := hyes ⟨hbq, hb0⟩
                  have Hhd := Lib.hid hd
                  clear hd
                  have Hhyes := Lib.hid hyes
                  clear hyes
                  have Hhno := Lib.hid hno
                  clear hno
                  have Hhe := Lib.hid he
                  clear he
                  have Hhbq := Lib.hid hbq
                  clear hbq
                  have Hhn64 := Lib.hid hn64
                  clear hn64
                  have Hhm64 := Lib.hid hm64
                  clear hm64
                  go_wp2_with fail
                  refine (Add_calls m n w4 Hhm64.out Hhn64.out).mono ?_
                  rintro e w' ⟨rfl, rfl⟩
                  go_wp2_with fail
                  exact ⟨⟨i + 1, by omega, by go_num, by rw [Hhe.out]⟩, by simp [intOf]; omega⟩
                · have he := hno (fun h => hb0 h.2)
                  have Hhd := Lib.hid hd
                  clear hd
                  have Hhyes := Lib.hid hyes
                  clear hyes
                  have Hhno := Lib.hid hno
                  clear hno
                  have Hhe := Lib.hid he
                  clear he
                  have Hhbq := Lib.hid hbq
                  clear hbq
                  have Hhn64 := Lib.hid hn64
                  clear hn64
                  have Hhm64 := Lib.hid hm64
                  clear hm64
                  go_wp2_with fail
                  exact ⟨⟨i + 1, by omega, by go_num, by rw [Hhe.out]⟩, by simp [intOf]; omega⟩
              · have hbq' : (r.backTo == (q : Int)) = false := by simp [hbq]
                have he := hno (fun h => hbq h.1)
                have Hhd := Lib.hid hd
                clear hd
                have Hhyes := Lib.hid hyes
                clear hyes
                have Hhno := Lib.hid hno
                clear hno
                have Hhe := Lib.hid he
                clear he
                have Hhbq := Lib.hid hbq
                clear hbq
                have Hhn64 := Lib.hid hn64
                clear hn64
                have Hhm64 := Lib.hid hm64
                clear hm64
                go_wp2_with fail
                exact ⟨⟨i + 1, by omega, by go_num, by rw [Hhe.out]⟩, by simp [intOf]; omega⟩
            · obtain rfl : i = rs.length := by omega
              have hbm := back_most (pl := pl) (supply := supply) Hhdis.out q rs.length (Nat.le_refl _)
              rw [List.take_of_length_le (by rw [Hhdl.out]; exact Nat.le_refl _)] at hbm
              have hbv := (Vols.backFrom pl rs (day pl rs supply).1).2 q
              obtain ⟨g3, hg3, _, _, hcl, -⟩ := own_cell Hhown4.out hqlt
              simp only [Option.some.injEq, Addr.mk.injEq, and_true] at hg3
              subst hg3
              generalize most pl rs supply q rs.length = m at *
              generalize nth (backFrom pl rs (day pl rs supply).1) q = x at *
              go_wp2_with fail
              exact ⟨⟨q + 1, by omega, by go_num⟩, by simp [intOf]; omega⟩
        · go_wp2_with fail
          go_ret
          exact ⟨rfl, (by ((repeat' (first | exact Below.refl _ _ | (refine Below.alloc ?_ ?_ _) | (refine Below.setCell ?_ ?_ _) | (refine Below.drew ?_) | (refine Below.trans ?_ (Below.mono (by assumption) ?_)))) <;> ((try simp only [World.size_alloc, World.size_setCell, World.size_drew] at *); omega)))⟩
end Go.Proofs.Ytjikehjhmjfhfaa
