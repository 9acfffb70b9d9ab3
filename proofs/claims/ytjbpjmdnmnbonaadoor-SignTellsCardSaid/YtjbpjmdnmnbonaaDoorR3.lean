/- The walks of the reference's constants, order and word. -/
import Derived.Test.YtjbpjmdnmnbonaaDoorR2
import Derived.Test.YtjbpjmdnmnbonaaDoorW4
set_option linter.unusedSimpArgs false
set_option linter.unusedVariables false
namespace Go.Proofs.YtjbpjmdnmnbonaaDoor
open Go.RowKit

theorem constants_calls (w : World) : Calls Tryd.prog 55 #[] w fun e w' => e = .returned (.slice (some ⟨w.heap.size, 0, none⟩) 8 8) ∧ w'.ownsRow w.heap.size 60 1 (.slice (some ⟨w.heap.size, 0, none⟩) 8 8) 8 (cells32 firstS) ∧ Below w.heap.size w w' := by
  go_enter Tryd.func55, Tryd.ntmps55
  go_wp2_with fail
  go_ret
  exact ⟨rfl, World.ownsRow_lit w (u32c firstS) 8 (Nat.le_refl _) (by decide) rfl, (by ((repeat' (first | exact Below.refl _ _ | (refine Below.alloc ?_ ?_ _) | (refine Below.setCell ?_ ?_ _) | (refine Below.drew ?_) | (refine Below.trans ?_ (Below.mono (by assumption) ?_)))) <;> ((try simp only [World.size_alloc, World.size_setCell, World.size_drew] at *); omega)))⟩

def ordC (v : List Nat) : Array Value := (v.map fun n : Nat => Value.int .i64 (n : Int)).toArray
theorem ordC_at (v : List Nat) (k : Nat) (h : k < v.length) : (ordC v)[k]? = some (.int .i64 (nt v k : Nat)) := by simp [ordC, nt, h]
set_option maxRecDepth 100000 in
set_option maxHeartbeats 1000000 in
theorem order_calls (r : Nat) (w : World) (hr : r < 10) : Calls Tryd.prog 68 #[.int .i64 r] w fun e w' => e = .returned (.slice (some ⟨w.heap.size, 0, none⟩) 16 16) ∧ w'.heap[w.heap.size]? = some (.cells (ordC (orderS r)) 3 (0, 0)) ∧ Below w.heap.size w w' := by
  have h : r = 0 ∨ r = 1 ∨ r = 2 ∨ r = 3 ∨ r = 4 ∨ r = 5 ∨ r = 6 ∨ r = 7 ∨ r = 8 ∨ r = 9 := by omega
  rcases h with rfl | rfl | rfl | rfl | rfl | rfl | rfl | rfl | rfl | rfl
  · rw [show ((0 : Nat) : Int) = 0 from rfl]
    go_enter Tryd.func68, Tryd.ntmps68
    go_wp2_with fail
    go_ret
    exact ⟨rfl, heap_alloc_new w _, (by ((repeat' (first | exact Below.refl _ _ | (refine Below.alloc ?_ ?_ _) | (refine Below.setCell ?_ ?_ _) | (refine Below.drew ?_) | (refine Below.trans ?_ (Below.mono (by assumption) ?_)))) <;> ((try simp only [World.size_alloc, World.size_setCell, World.size_drew] at *); omega)))⟩
  · rw [show ((1 : Nat) : Int) = 1 from rfl]
    go_enter Tryd.func68, Tryd.ntmps68
    go_wp2_with fail
    go_ret
    exact ⟨rfl, heap_alloc_new w _, (by ((repeat' (first | exact Below.refl _ _ | (refine Below.alloc ?_ ?_ _) | (refine Below.setCell ?_ ?_ _) | (refine Below.drew ?_) | (refine Below.trans ?_ (Below.mono (by assumption) ?_)))) <;> ((try simp only [World.size_alloc, World.size_setCell, World.size_drew] at *); omega)))⟩
  · rw [show ((2 : Nat) : Int) = 2 from rfl]
    go_enter Tryd.func68, Tryd.ntmps68
    go_wp2_with fail
    go_ret
    exact ⟨rfl, heap_alloc_new w _, (by ((repeat' (first | exact Below.refl _ _ | (refine Below.alloc ?_ ?_ _) | (refine Below.setCell ?_ ?_ _) | (refine Below.drew ?_) | (refine Below.trans ?_ (Below.mono (by assumption) ?_)))) <;> ((try simp only [World.size_alloc, World.size_setCell, World.size_drew] at *); omega)))⟩
  · rw [show ((3 : Nat) : Int) = 3 from rfl]
    go_enter Tryd.func68, Tryd.ntmps68
    go_wp2_with fail
    go_ret
    exact ⟨rfl, heap_alloc_new w _, (by ((repeat' (first | exact Below.refl _ _ | (refine Below.alloc ?_ ?_ _) | (refine Below.setCell ?_ ?_ _) | (refine Below.drew ?_) | (refine Below.trans ?_ (Below.mono (by assumption) ?_)))) <;> ((try simp only [World.size_alloc, World.size_setCell, World.size_drew] at *); omega)))⟩
  · rw [show ((4 : Nat) : Int) = 4 from rfl]
    go_enter Tryd.func68, Tryd.ntmps68
    go_wp2_with fail
    go_ret
    exact ⟨rfl, heap_alloc_new w _, (by ((repeat' (first | exact Below.refl _ _ | (refine Below.alloc ?_ ?_ _) | (refine Below.setCell ?_ ?_ _) | (refine Below.drew ?_) | (refine Below.trans ?_ (Below.mono (by assumption) ?_)))) <;> ((try simp only [World.size_alloc, World.size_setCell, World.size_drew] at *); omega)))⟩
  · rw [show ((5 : Nat) : Int) = 5 from rfl]
    go_enter Tryd.func68, Tryd.ntmps68
    go_wp2_with fail
    go_ret
    exact ⟨rfl, heap_alloc_new w _, (by ((repeat' (first | exact Below.refl _ _ | (refine Below.alloc ?_ ?_ _) | (refine Below.setCell ?_ ?_ _) | (refine Below.drew ?_) | (refine Below.trans ?_ (Below.mono (by assumption) ?_)))) <;> ((try simp only [World.size_alloc, World.size_setCell, World.size_drew] at *); omega)))⟩
  · rw [show ((6 : Nat) : Int) = 6 from rfl]
    go_enter Tryd.func68, Tryd.ntmps68
    go_wp2_with fail
    go_ret
    exact ⟨rfl, heap_alloc_new w _, (by ((repeat' (first | exact Below.refl _ _ | (refine Below.alloc ?_ ?_ _) | (refine Below.setCell ?_ ?_ _) | (refine Below.drew ?_) | (refine Below.trans ?_ (Below.mono (by assumption) ?_)))) <;> ((try simp only [World.size_alloc, World.size_setCell, World.size_drew] at *); omega)))⟩
  · rw [show ((7 : Nat) : Int) = 7 from rfl]
    go_enter Tryd.func68, Tryd.ntmps68
    go_wp2_with fail
    go_ret
    exact ⟨rfl, heap_alloc_new w _, (by ((repeat' (first | exact Below.refl _ _ | (refine Below.alloc ?_ ?_ _) | (refine Below.setCell ?_ ?_ _) | (refine Below.drew ?_) | (refine Below.trans ?_ (Below.mono (by assumption) ?_)))) <;> ((try simp only [World.size_alloc, World.size_setCell, World.size_drew] at *); omega)))⟩
  · rw [show ((8 : Nat) : Int) = 8 from rfl]
    go_enter Tryd.func68, Tryd.ntmps68
    go_wp2_with fail
    go_ret
    exact ⟨rfl, heap_alloc_new w _, (by ((repeat' (first | exact Below.refl _ _ | (refine Below.alloc ?_ ?_ _) | (refine Below.setCell ?_ ?_ _) | (refine Below.drew ?_) | (refine Below.trans ?_ (Below.mono (by assumption) ?_)))) <;> ((try simp only [World.size_alloc, World.size_setCell, World.size_drew] at *); omega)))⟩
  · rw [show ((9 : Nat) : Int) = 9 from rfl]
    go_enter Tryd.func68, Tryd.ntmps68
    go_wp2_with fail
    go_ret
    exact ⟨rfl, heap_alloc_new w _, (by ((repeat' (first | exact Below.refl _ _ | (refine Below.alloc ?_ ?_ _) | (refine Below.setCell ?_ ?_ _) | (refine Below.drew ?_) | (refine Below.trans ?_ (Below.mono (by assumption) ?_)))) <;> ((try simp only [World.size_alloc, World.size_setCell, World.size_drew] at *); omega)))⟩

def byteAt (l : List UInt8) (k : Nat) : Nat := (l[k]?.getD 0).toNat
theorem byteAt_lt (l : List UInt8) (k : Nat) : byteAt l k < 256 := (l[k]?.getD 0).toNat_lt
/-- the word that is read backwards, after j bytes -/
def wr (l : List UInt8) (a : Nat) : Nat → Nat
  | 0 => 0
  | j + 1 => wr l a j * 256 + byteAt l (a + (3 - j))
def wordR (l : List UInt8) (a : Nat) : Nat := wr l a 4
theorem wr_lt (l : List UInt8) (a : Nat) (j : Nat) : wr l a j < 256 ^ j := by
  induction j with
  | zero => simp [wr]
  | succ j ih =>
    have := byteAt_lt l (a + (3 - j))
    rw [wr, Nat.pow_succ]; omega
theorem or_byte (x b : Nat) (hx : x < 16777216) (hb : b < 256) : bits .or .u32 ((x : Int) * 256) (b : Int) = ((x * 256 + b : Nat) : Int) := by
  have e : (x : Int) * 256 = ((x * 256 : Nat) : Int) := by omega
  rw [e, u32_or_nat _ _ (by omega) (by omega)]
  have h2 : (x * 256 ||| b : Nat) = x * 256 + b := by
    have := Nat.two_pow_add_eq_or_of_lt (i := 8) (b := b) (by omega) x
    rw [Nat.mul_comm x 256]
    simp only [Nat.reducePow] at this
    rw [this]
  rw [h2]
set_option maxRecDepth 100000 in
set_option maxHeartbeats 1000000 in
theorem word_calls (l : List UInt8) (a : Nat) (w : World) (hl : l.length ≤ 4611686018427387904) (ha : a ≤ 4611686018427387904) :
    Calls Tryd.prog 67 #[.string ⟨l.toArray⟩, .int .i64 a] w fun e w' => e = .returned (.int .u32 (wordR l a : Nat)) ∧ w = w' := by
  have hsz := str_size l
  go_enter Tryd.func67, Tryd.ntmps67
  go_wp2_with fail
  go_loop [5, 6] (fun s5 s6 => ∃ j : Nat, j ≤ 4 ∧ s6 = .int .i64 (3 - (j : Int)) ∧ s5 = .int .u32 (wr l a j : Nat)) (fun _ s6 => (intOf s6 + 1).toNat)
  case atStart => exact ⟨0, by omega, rfl, rfl⟩
  case round =>
    obtain ⟨j, hj, rfl, rfl⟩ := hrel
    have hcases : j = 0 ∨ j = 1 ∨ j = 2 ∨ j = 3 ∨ j = 4 := by omega
    rcases hcases with rfl | rfl | rfl | rfl | rfl
    · rw [show (3 - ((0 : Nat) : Int)) = 3 from rfl]
      have hx := wr_lt l a 0
      have hnx : wr l a 1 = wr l a 0 * 256 + byteAt l (a + 3) := rfl
      obtain ⟨x, hxe⟩ : ∃ x, x = wr l a 0 := ⟨_, rfl⟩
      obtain ⟨b, hbe⟩ : ∃ x, x = byteAt l (a + 3) := ⟨_, rfl⟩
      have hb : b < 256 := by rw [hbe]; exact byteAt_lt _ _
      rw [← hxe] at hx hnx ⊢
      rw [← hbe] at hnx
      have hx' : x < 16777216 := by omega
      have hor := or_byte x b hx' hb
      by_cases hin : a + 3 < l.length
      · have hin' : (a : Int) + 3 < (l.length : Int) := by omega
        have hix := fun w : World => str_index (P := Tryd.prog) Tryd.underlying9 l (a + 3) hin w
        rw [show (((l[a + 3]?.getD 0).toNat : Nat) : Int) = (b : Int) by rw [hbe]; rfl, show (((a + 3 : Nat) : Int)) = (a : Int) + 3 by omega] at hix
        have Hhxe := Lib.hid hxe
        clear hxe
        have Hhbe := Lib.hid hbe
        clear hbe
        have Hhnx := Lib.hid hnx
        clear hnx
        go_wp2_with fail
        all_goals
          go_round
          case rel => exact ⟨1, by omega, rfl, by rw [Hhnx.out]; push_cast; rfl⟩
          case measure => simp [intOf]
      · have hin' : ¬ (a : Int) + 3 < (l.length : Int) := by omega
        have hb0 : b = 0 := by rw [hbe, byteAt, List.getElem?_eq_none (by omega)]; rfl
        have hnx2 : wr l a 1 = x * 256 := by rw [hnx, hb0]; rfl
        clear hor hnx hb hb0
        have Hhxe := Lib.hid hxe
        clear hxe
        have Hhbe := Lib.hid hbe
        clear hbe
        have Hhnx2 := Lib.hid hnx2
        clear hnx2
        go_wp2_with fail
        all_goals
          go_round
          case rel => exact ⟨1, by omega, rfl, by rw [Hhnx2.out]; push_cast; rfl⟩
          case measure => simp [intOf]
    · rw [show (3 - ((1 : Nat) : Int)) = 2 from rfl]
      have hx := wr_lt l a 1
      have hnx : wr l a 2 = wr l a 1 * 256 + byteAt l (a + 2) := rfl
      obtain ⟨x, hxe⟩ : ∃ x, x = wr l a 1 := ⟨_, rfl⟩
      obtain ⟨b, hbe⟩ : ∃ x, x = byteAt l (a + 2) := ⟨_, rfl⟩
      have hb : b < 256 := by rw [hbe]; exact byteAt_lt _ _
      rw [← hxe] at hx hnx ⊢
      rw [← hbe] at hnx
      have hx' : x < 16777216 := by omega
      have hor := or_byte x b hx' hb
      by_cases hin : a + 2 < l.length
      · have hin' : (a : Int) + 2 < (l.length : Int) := by omega
        have hix := fun w : World => str_index (P := Tryd.prog) Tryd.underlying9 l (a + 2) hin w
        rw [show (((l[a + 2]?.getD 0).toNat : Nat) : Int) = (b : Int) by rw [hbe]; rfl, show (((a + 2 : Nat) : Int)) = (a : Int) + 2 by omega] at hix
        have Hhxe := Lib.hid hxe
        clear hxe
        have Hhbe := Lib.hid hbe
        clear hbe
        have Hhnx := Lib.hid hnx
        clear hnx
        go_wp2_with fail
        all_goals
          go_round
          case rel => exact ⟨2, by omega, rfl, by rw [Hhnx.out]; push_cast; rfl⟩
          case measure => simp [intOf]
      · have hin' : ¬ (a : Int) + 2 < (l.length : Int) := by omega
        have hb0 : b = 0 := by rw [hbe, byteAt, List.getElem?_eq_none (by omega)]; rfl
        have hnx2 : wr l a 2 = x * 256 := by rw [hnx, hb0]; rfl
        clear hor hnx hb hb0
        have Hhxe := Lib.hid hxe
        clear hxe
        have Hhbe := Lib.hid hbe
        clear hbe
        have Hhnx2 := Lib.hid hnx2
        clear hnx2
        go_wp2_with fail
        all_goals
          go_round
          case rel => exact ⟨2, by omega, rfl, by rw [Hhnx2.out]; push_cast; rfl⟩
          case measure => simp [intOf]
    · rw [show (3 - ((2 : Nat) : Int)) = 1 from rfl]
      have hx := wr_lt l a 2
      have hnx : wr l a 3 = wr l a 2 * 256 + byteAt l (a + 1) := rfl
      obtain ⟨x, hxe⟩ : ∃ x, x = wr l a 2 := ⟨_, rfl⟩
      obtain ⟨b, hbe⟩ : ∃ x, x = byteAt l (a + 1) := ⟨_, rfl⟩
      have hb : b < 256 := by rw [hbe]; exact byteAt_lt _ _
      rw [← hxe] at hx hnx ⊢
      rw [← hbe] at hnx
      have hx' : x < 16777216 := by omega
      have hor := or_byte x b hx' hb
      by_cases hin : a + 1 < l.length
      · have hin' : (a : Int) + 1 < (l.length : Int) := by omega
        have hix := fun w : World => str_index (P := Tryd.prog) Tryd.underlying9 l (a + 1) hin w
        rw [show (((l[a + 1]?.getD 0).toNat : Nat) : Int) = (b : Int) by rw [hbe]; rfl, show (((a + 1 : Nat) : Int)) = (a : Int) + 1 by omega] at hix
        have Hhxe := Lib.hid hxe
        clear hxe
        have Hhbe := Lib.hid hbe
        clear hbe
        have Hhnx := Lib.hid hnx
        clear hnx
        go_wp2_with fail
        all_goals
          go_round
          case rel => exact ⟨3, by omega, rfl, by rw [Hhnx.out]; push_cast; rfl⟩
          case measure => simp [intOf]
      · have hin' : ¬ (a : Int) + 1 < (l.length : Int) := by omega
        have hb0 : b = 0 := by rw [hbe, byteAt, List.getElem?_eq_none (by omega)]; rfl
        have hnx2 : wr l a 3 = x * 256 := by rw [hnx, hb0]; rfl
        clear hor hnx hb hb0
        have Hhxe := Lib.hid hxe
        clear hxe
        have Hhbe := Lib.hid hbe
        clear hbe
        have Hhnx2 := Lib.hid hnx2
        clear hnx2
        go_wp2_with fail
        all_goals
          go_round
          case rel => exact ⟨3, by omega, rfl, by rw [Hhnx2.out]; push_cast; rfl⟩
          case measure => simp [intOf]
    · rw [show (3 - ((3 : Nat) : Int)) = 0 from rfl]
      have hx := wr_lt l a 3
      have hnx : wr l a 4 = wr l a 3 * 256 + byteAt l (a + 0) := rfl
      obtain ⟨x, hxe⟩ : ∃ x, x = wr l a 3 := ⟨_, rfl⟩
      obtain ⟨b, hbe⟩ : ∃ x, x = byteAt l (a + 0) := ⟨_, rfl⟩
      have hb : b < 256 := by rw [hbe]; exact byteAt_lt _ _
      rw [← hxe] at hx hnx ⊢
      rw [← hbe] at hnx
      have hx' : x < 16777216 := by omega
      have hor := or_byte x b hx' hb
      by_cases hin : a < l.length
      · have hin' : (a : Int) < (l.length : Int) := by omega
        have hix := fun w : World => str_index (P := Tryd.prog) Tryd.underlying9 l (a) hin w
        rw [show (((l[a]?.getD 0).toNat : Nat) : Int) = (b : Int) by rw [hbe]; rfl] at hix
        have Hhxe := Lib.hid hxe
        clear hxe
        have Hhbe := Lib.hid hbe
        clear hbe
        have Hhnx := Lib.hid hnx
        clear hnx
        go_wp2_with fail
        all_goals
          go_round
          case rel => exact ⟨4, by omega, rfl, by rw [Hhnx.out]; push_cast; rfl⟩
          case measure => simp [intOf]
      · have hin' : ¬ (a : Int) < (l.length : Int) := by omega
        have hb0 : b = 0 := by rw [hbe, byteAt, List.getElem?_eq_none (by omega)]; rfl
        have hnx2 : wr l a 4 = x * 256 := by rw [hnx, hb0]; rfl
        clear hor hnx hb hb0
        have Hhxe := Lib.hid hxe
        clear hxe
        have Hhbe := Lib.hid hbe
        clear hbe
        have Hhnx2 := Lib.hid hnx2
        clear hnx2
        go_wp2_with fail
        all_goals
          go_round
          case rel => exact ⟨4, by omega, rfl, by rw [Hhnx2.out]; push_cast; rfl⟩
          case measure => simp [intOf]
    · rw [show (3 - ((4 : Nat) : Int)) = -1 from rfl]
      go_wp2_with fail
      go_ret
      exact ⟨rfl, rfl⟩
end Go.Proofs.YtjbpjmdnmnbonaaDoor
