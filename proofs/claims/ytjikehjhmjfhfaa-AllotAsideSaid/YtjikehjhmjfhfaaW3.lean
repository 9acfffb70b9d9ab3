/- The walk of Reach, of the program and of the reference. -/
import Derived.Test.YtjikehjhmjfhfaaW1
import Derived.Test.YtjikehjhmjfhfaaPlain
namespace Go.Proofs.Ytjikehjhmjfhfaa
open Go.RowKit

/-- a slice value reads as the places -/
def PlacesAt (w : World) (oa : Option Addr) (pl : List Pl) : Prop :=
  (∀ x ∈ pl, In64 x.down ∧ In64 x.delay) ∧
  (0 < pl.length → ∃ b off, oa = some ⟨b, off, none⟩ ∧ b < w.heap.size ∧ ∀ k (h : k < pl.length), w.cell? ⟨b, off + k * 12 + 8, none⟩ = some (.int .i64 pl[k].down) ∧ w.cell? ⟨b, off + k * 12 + 9, none⟩ = some (.int .i64 pl[k].delay))

theorem PlacesAt.below {w w' : World} {oa : Option Addr} {l : List Pl} {B : Nat} (h : PlacesAt w oa l) (hb : Below B w w') (hB : w.heap.size ≤ B) : PlacesAt w' oa l := by
  refine ⟨h.1, fun h0 => ?_⟩
  obtain ⟨b, off, rfl, hb1, hc1⟩ := h.2 h0
  refine ⟨b, off, rfl, Nat.lt_of_lt_of_le hb1 hb.size, fun k hk => ?_⟩
  have := hc1 k hk
  refine ⟨?_, ?_⟩
  · rw [← this.1]; exact hb.cell (p := ⟨b, _, none⟩) (Nat.lt_of_lt_of_le hb1 hB)
  · rw [← this.2]; exact hb.cell (p := ⟨b, _, none⟩) (Nat.lt_of_lt_of_le hb1 hB)

/-- a basin's value, of which the places are known -/
def BasinAt (w : World) (v : Value) (pl : List Pl) : Prop :=
  pl.length ≤ 9223372036854775807 ∧ ∃ x0 x1 x2 oa cap x4 x5 x6 x7 x8 x9 x10, v = .agg #[x0, x1, x2, .slice oa pl.length cap, x4, x5, x6, x7, x8, x9, x10] ∧ PlacesAt w oa pl

theorem BasinAt.below {w w' : World} {v : Value} {l : List Pl} {B : Nat} (h : BasinAt w v l) (hb : Below B w w') (hB : w.heap.size ≤ B) : BasinAt w' v l := by
  obtain ⟨hm, x0, x1, x2, oa, cap, x4, x5, x6, x7, x8, x9, x10, rfl, hp⟩ := h
  exact ⟨hm, x0, x1, x2, oa, cap, x4, x5, x6, x7, x8, x9, x10, rfl, hp.below hb hB⟩

def isPlace (pl : List Pl) (p : Int) : Bool := decide (0 ≤ p) && decide (p < pl.length)

theorem is_calls (v : Value) (pl : List Pl) (p : Int) (w : World) (h : BasinAt w v pl) :
    Calls Try.prog 23 #[v, .int .i64 p] w fun e w' => e = .returned (.bool (isPlace pl p)) ∧ Below w.heap.size w w' := by
  obtain ⟨hm, x0, x1, x2, oa, cap, x4, x5, x6, x7, x8, x9, x10, rfl, hp⟩ := h
  clear hp
  have hx : isPlace pl p = (decide (0 ≤ p) && decide (p < pl.length)) := rfl
  have HX := Lib.hid hx
  clear hx
  go_enter Try.func23, Try.ntmps23
  go_wp2
  all_goals go_ret
  all_goals refine ⟨ret_bool (by rw [HX.out]; simp; try omega), (Below.refl _ _).alloc (Nat.le_refl _) _⟩

set_option maxHeartbeats 400000 in
theorem Index_calls (v : Value) (l : List Int) (n : Int) (w : World) (h : IntsAt w v l) :
    Calls Try.prog 34 #[v, .int .i64 n] w fun e w' => (∃ r : Int, e = .returned (.int .i64 r) ∧ (0 ≤ r ↔ has l n = true)) ∧ w = w' := by
  obtain ⟨oa, cap, rfl, hm, hr, hc⟩ := h
  clear hr
  have HC := Lib.hid hc
  clear hc
  go_enter Try.func34, Try.ntmps34
  go_wp2
  go_loop [8] (fun i => ∃ k : Nat, k ≤ l.length ∧ i = .int .i64 k ∧ has (l.take k) n = false) (fun i => l.length - (intOf i).toNat)
  case atStart => exact ⟨0, by omega, rfl, by simp [has]⟩
  case round =>
    obtain ⟨k, hk, rfl, hh⟩ := hrel
    have HH := Lib.hid hh
    clear hh
    by_cases hlt : k < l.length
    · obtain ⟨b, off, rfl, hb, hcell⟩ := HC.out (by omega)
      have hcell := hcell k hlt
      clear hb
      go_wp2
      · have ht : (n == nth l k) = true := by assumption
        go_ret
        exact ⟨⟨(k : Int), rfl, by rw [has_of l k hlt n (by rw [← ht]; exact BEq.comm)]; simp⟩, rfl⟩
      · have ht : (n == nth l k) = false := by assumption
        go_round
        case rel => exact ⟨k + 1, by omega, by go_num, has_take l k hlt n (by rw [← ht]; exact BEq.comm) HH.out⟩
        case measure => simp [intOf]; omega
    · go_wp2
      go_ret
      have hh := HH.out
      rw [List.take_of_length_le (by omega)] at hh
      exact ⟨⟨-1, rfl, by rw [hh]; simp⟩, rfl⟩

theorem Contains_calls (v : Value) (l : List Int) (n : Int) (w : World) (h : IntsAt w v l) :
    Calls Try.prog 24 #[v, .int .i64 n] w fun e w' => e = .returned (.bool (has l n)) ∧ w = w' := by
  go_enter Try.func24, Try.ntmps24
  go_wp2_with fail
  refine (Index_calls v l n w h).mono ?_
  rintro e w' ⟨⟨r, rfl, hr⟩, rfl⟩
  have HR := Lib.hid hr
  clear hr
  go_wp2_with fail
  go_ret
  refine ⟨ret_bool ?_, rfl⟩
  have := HR.out
  rw [Bool.eq_iff_iff, ← this]
  simp
end Go.Proofs.Ytjikehjhmjfhfaa
