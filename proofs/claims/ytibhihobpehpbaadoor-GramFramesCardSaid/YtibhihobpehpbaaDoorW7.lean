/- The walks of the reference's readers: Open, fail, Int, Num, Left, Done, More. -/
import Derived.Test.YtibhihobpehpbaaDoorW6
import Derived.Deep.RegionHeld3
import Derived.Deep.QuietTactic
import Derived.BigQuiet
import Derived.IntWalk
set_option linter.unusedSimpArgs false
set_option linter.unusedVariables false
namespace Go.Proofs.YtibhihobpehpbaaDoor
open Go.RowKit

/-- a reader of the reference: what is left, and whether it failed -/
def QAt (w : World) (b : Nat) (s : List UInt8) (bad : Bool) : Prop := w.heap[b]? = some (.cells #[.string ⟨s.toArray⟩, .bool bad] 88)

theorem QAt.cells {w : World} {b : Nat} {s : List UInt8} {bad : Bool} (h : QAt w b s bad) :
    w.cell? ⟨b, 0, none⟩ = some (.string ⟨s.toArray⟩) ∧ w.cell? ⟨b, 1, none⟩ = some (.bool bad) ∧ w.frozen? ⟨b, 0, none⟩ = false ∧ w.frozen? ⟨b, 1, none⟩ = false ∧ b < w.heap.size := by
  unfold QAt at h
  exact ⟨by simp [World.cell?, h], by simp [World.cell?, h], by simp [World.frozen?, h], by simp [World.frozen?, h], (Array.getElem?_eq_some_iff.1 h).1⟩
theorem QAt.set0 {w : World} {b : Nat} {s : List UInt8} {bad : Bool} (h : QAt w b s bad) (s' : List UInt8) : QAt (w.setCell ⟨b, 0, none⟩ (.string ⟨s'.toArray⟩)) b s' bad := by
  unfold QAt at *
  exact heap_setCell_same w b 0 _ 88 _ h
theorem QAt.set1 {w : World} {b : Nat} {s : List UInt8} {bad : Bool} (h : QAt w b s bad) (bad' : Bool) : QAt (w.setCell ⟨b, 1, none⟩ (.bool bad')) b s bad' := by
  unfold QAt at *
  exact heap_setCell_same w b 1 _ 88 _ h
theorem QAt.below {w w' : World} {b : Nat} {s : List UInt8} {bad : Bool} {B : Nat} (h : QAt w b s bad) (hb : Below B w w') (hB : b < B) : QAt w' b s bad := by
  unfold QAt at *
  rw [hb.block b hB]; exact h
theorem ReaderAt.below {w w' : World} {b : Nat} {s : List UInt8} {bad : Bool} {B : Nat} (h : ReaderAt w b s bad) (hb : Below B w w') (hB : b < B) : ReaderAt w' b s bad := by
  unfold ReaderAt at *
  rw [hb.block b hB]; exact h

theorem OpenR_calls (s : ByteArray) (w : World) :
    Calls Tryd.prog 30 #[.string s] w fun e w' => e = .returned (.pointer (some ⟨w.heap.size, 0, none⟩)) ∧ QAt w' w.heap.size s.data.toList false ∧ Below w.heap.size w w' := by
  go_enter Tryd.func30, Tryd.ntmps30
  go_wp2_with fail
  go_ret
  exact ⟨rfl, heap_alloc_new w _, (by ((repeat' (first | exact Below.refl _ _ | (refine Below.alloc ?_ ?_ _) | (refine Below.setCell ?_ ?_ _) | (refine Below.drew ?_) | (refine Below.trans ?_ (Below.mono (by assumption) ?_)))) <;> ((try simp only [World.size_alloc, World.size_setCell, World.size_drew] at *); omega)))⟩

theorem failR_calls (b : Nat) (s : List UInt8) (bad : Bool) (w : World) (h : QAt w b s bad) :
    Calls Tryd.prog 53 #[.pointer (some ⟨b, 0, none⟩)] w fun e w' => e = .returned (.tuple #[]) ∧ QAt w' b [] true ∧ w.grownBy w' (some b) := by
  obtain ⟨c0, c1, f0, f1, hlt⟩ := h.cells
  have Hh := Lib.hid h
  clear h
  go_enter Tryd.func53, Tryd.ntmps53
  go_wp2_with fail
  go_end0
  have h2 : QAt (w.setCell ⟨b, 0, none⟩ (.string ⟨#[]⟩)) b [] bad := Hh.out.set0 []
  have h3 := h2.set1 true
  have g1 : w.grownBy (w.setCell ⟨b, 0, none⟩ (.string ⟨#[]⟩)) (some b) := grownBy_setCell (grownBy_refl w _) rfl _
  exact ⟨rfl, h3, grownBy_setCell g1 rfl _⟩

theorem DoneR_calls (b : Nat) (s : List UInt8) (bad : Bool) (w : World) (h : QAt w b s bad) :
    Calls Tryd.prog 33 #[.pointer (some ⟨b, 0, none⟩)] w fun e w' => e = .returned (.bool (!bad && s.isEmpty)) ∧ w = w' := by
  obtain ⟨c0, c1, f0, f1, hlt⟩ := h.cells
  cases bad
  · cases s with
    | nil =>
      go_enter Tryd.func33, Tryd.ntmps33
      go_wp2_with fail
      go_ret
      exact ⟨rfl, rfl⟩
    | cons x s =>
      go_enter Tryd.func33, Tryd.ntmps33
      go_wp2_with fail
      go_ret
      exact ⟨rfl, rfl⟩
  · go_enter Tryd.func33, Tryd.ntmps33
    go_wp2_with fail
    go_ret
    exact ⟨rfl, rfl⟩
/-- the bytes of a number that has so many bytes are these bytes -/
theorem digs_num (neg : Bool) : ∀ (n : Nat) (l : List UInt8), l.length = n → digs neg (num neg l) n n = l
  | 0, l, h => by
    obtain rfl := List.eq_nil_of_length_eq_zero h
    simp [digs]
  | n + 1, l, h => by
    obtain ⟨l', d, rfl⟩ : ∃ l' d, l = l' ++ [d] := ⟨l.dropLast, l.getLast (by intro e; simp [e] at h), (List.dropLast_concat_getLast _).symm⟩
    have hl : l'.length = n := by simpa using h
    have hd : d.toNat < 256 := d.toNat_lt
    have hn : num neg (l' ++ [d]) = num neg l' * 256 + (if neg then 255 - d.toNat else d.toNat) := by simp [num]
    have hv : (if neg then 255 - d.toNat else d.toNat) < 256 := by split <;> omega
    have hdig : dig neg (num neg (l' ++ [d])) 0 = d := by
      rw [hn]
      apply UInt8.toNat_inj.1
      cases neg
      · simp only [dig, Bool.false_eq_true, if_false] at hv ⊢
        simp
      · simp only [dig, if_true] at hv ⊢
        simp; omega
    have hq : num neg (l' ++ [d]) / 256 = num neg l' := by rw [hn]; omega
    have hstep : digs neg (num neg (l' ++ [d])) (n + 1) (n + 1) = digs neg (num neg l') n n ++ [dig neg (num neg (l' ++ [d])) 0] := by
      rw [digs_snoc neg _ (n + 1) n (t := 0) (by omega)]
      congr 1
      unfold digs
      apply List.map_congr_left
      intro t ht
      simp at ht
      have e : n + 1 - 1 - t = (n - 1 - t) + 1 := by omega
      rw [e]
      unfold dig
      rw [Nat.pow_succ, Nat.mul_comm, ← Nat.div_div_eq_div_mul, hq]
    rw [hstep, digs_num neg n l' hl, hdig]

theorem encInt_num (c : UInt8) (t : List UInt8) (k : Nat) (hk : cnt8 c = k) (hk8 : k ≤ 8) (ht : k ≤ t.length) (n : Int) (hn : (decide (n < 0)) = decide (c.toNat < 128)) (hm : mag n = num (decide (c.toNat < 128)) (t.take k)) (h8 : sz (mag n) ≤ 8) :
    encInt n = c :: t.take k ↔ sz (mag n) = k := by
  have hc : c.toNat < 256 := c.toNat_lt
  constructor
  · intro h
    have h1 := (List.cons.inj h).1
    have h2 := congrArg UInt8.toNat h1
    unfold cnt8 at hk
    by_cases hneg : c.toNat < 128
    · simp [hneg] at hn
      rw [if_pos hneg] at hk
      rw [if_pos hn] at h2
      simp at h2
      omega
    · simp [hneg] at hn
      rw [if_neg hneg] at hk
      rw [if_neg (by omega)] at h2
      simp at h2
      omega
  · intro h
    unfold encInt
    simp only
    rw [h, hn, hm, digs_num _ k (t.take k) (by simp; omega)]
    congr 1
    unfold cnt8 at hk
    apply UInt8.toNat_inj.1
    by_cases hneg : c.toNat < 128
    · simp [hneg] at hn
      rw [if_pos hneg] at hk
      rw [if_pos hn]
      simp
      omega
    · simp [hneg] at hn
      rw [if_neg hneg] at hk
      rw [if_neg (by omega)]
      simp
      omega
end Go.Proofs.YtibhihobpehpbaaDoor
