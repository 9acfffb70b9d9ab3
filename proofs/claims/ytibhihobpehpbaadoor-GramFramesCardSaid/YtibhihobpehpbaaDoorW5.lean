/- The walks of the readers. -/
import Derived.Test.YtibhihobpehpbaaDoorW4
set_option linter.unusedSimpArgs false
set_option linter.unusedVariables false
namespace Go.Proofs.YtibhihobpehpbaaDoor
open Go.RowKit

/-- a reader of the program: what is left, and whether it failed -/
def ReaderAt (w : World) (b : Nat) (s : List UInt8) (bad : Bool) : Prop := w.heap[b]? = some (.cells #[.string ⟨s.toArray⟩, .bool bad] 79)

theorem ReaderAt.cells {w : World} {b : Nat} {s : List UInt8} {bad : Bool} (h : ReaderAt w b s bad) :
    w.cell? ⟨b, 0, none⟩ = some (.string ⟨s.toArray⟩) ∧ w.cell? ⟨b, 1, none⟩ = some (.bool bad) ∧ w.frozen? ⟨b, 0, none⟩ = false ∧ w.frozen? ⟨b, 1, none⟩ = false ∧ b < w.heap.size := by
  unfold ReaderAt at h
  exact ⟨by simp [World.cell?, h], by simp [World.cell?, h], by simp [World.frozen?, h], by simp [World.frozen?, h], (Array.getElem?_eq_some_iff.1 h).1⟩

theorem ReaderAt.set0 {w : World} {b : Nat} {s : List UInt8} {bad : Bool} (h : ReaderAt w b s bad) (s' : List UInt8) : ReaderAt (w.setCell ⟨b, 0, none⟩ (.string ⟨s'.toArray⟩)) b s' bad := by
  unfold ReaderAt at *
  exact heap_setCell_same w b 0 _ 79 _ h
theorem ReaderAt.set1 {w : World} {b : Nat} {s : List UInt8} {bad : Bool} (h : ReaderAt w b s bad) (bad' : Bool) : ReaderAt (w.setCell ⟨b, 1, none⟩ (.bool bad')) b s bad' := by
  unfold ReaderAt at *
  exact heap_setCell_same w b 1 _ 79 _ h

theorem Below.grown {w w' : World} {K : Nat} (h : Below K w w') (hK : w.heap.size ≤ K) (g : Option Nat) : w.grownBy w' g :=
  ⟨h.os, h.tape, h.output, h.size, fun k hk _ => h.block k (by omega)⟩

theorem Open_calls (s : ByteArray) (w : World) :
    Calls Tryd.prog 25 #[.string s] w fun e w' => e = .returned (.pointer (some ⟨w.heap.size, 0, none⟩)) ∧ ReaderAt w' w.heap.size s.data.toList false ∧ Below w.heap.size w w' := by
  go_enter Tryd.func25, Tryd.ntmps25
  go_wp2_with fail
  go_ret
  exact ⟨rfl, heap_alloc_new w _, (by ((repeat' (first | exact Below.refl _ _ | (refine Below.alloc ?_ ?_ _) | (refine Below.setCell ?_ ?_ _) | (refine Below.drew ?_) | (refine Below.trans ?_ (Below.mono (by assumption) ?_)))) <;> ((try simp only [World.size_alloc, World.size_setCell, World.size_drew] at *); omega)))⟩

theorem fail_calls (b : Nat) (s : List UInt8) (bad : Bool) (w : World) (h : ReaderAt w b s bad) :
    Calls Tryd.prog 50 #[.pointer (some ⟨b, 0, none⟩)] w fun e w' => e = .returned (.tuple #[]) ∧ ReaderAt w' b [] true ∧ w.grownBy w' (some b) := by
  obtain ⟨c0, c1, f0, f1, hlt⟩ := h.cells
  have Hh := Lib.hid h
  clear h
  go_enter Tryd.func50, Tryd.ntmps50
  go_wp2_with fail
  go_end0
  have h2 : ReaderAt (w.setCell ⟨b, 0, none⟩ (.string ⟨#[]⟩)) b [] bad := Hh.out.set0 []
  have h3 := h2.set1 true
  have g1 : w.grownBy (w.setCell ⟨b, 0, none⟩ (.string ⟨#[]⟩)) (some b) := grownBy_setCell (grownBy_refl w _) rfl _
  exact ⟨rfl, h3, grownBy_setCell g1 rfl _⟩

/-- reading a byte -/
theorem byte_calls (b : Nat) (s : List UInt8) (bad : Bool) (w : World) (h : ReaderAt w b s bad) :
    Calls Tryd.prog 49 #[.pointer (some ⟨b, 0, none⟩)] w fun e w' =>
      (s = [] → e = .returned (.tuple #[.int .u8 0, .bool false]) ∧ ReaderAt w' b [] true) ∧
      (∀ x t, s = x :: t → e = .returned (.tuple #[.int .u8 (x.toNat : Int), .bool true]) ∧ ReaderAt w' b t bad) ∧ w.grownBy w' (some b) := by
  obtain ⟨c0, c1, f0, f1, hlt⟩ := h.cells
  have Hh := Lib.hid h
  clear h
  go_enter Tryd.func49, Tryd.ntmps49
  rcases s with _ | ⟨x, s⟩
  · go_wp2_with fail
    refine (fail_calls b [] bad w Hh.out).mono ?_
    rintro e w1 ⟨rfl, hr1, hg1⟩
    go_wp2_with fail
    go_ret2
    exact ⟨⟨rfl, hr1⟩, hg1⟩
  · go_wp2_with fail
    go_ret2
    rw [tail_extract]
    refine ⟨fun e => by simp at e, fun x' t' e => ?_, grownBy_setCell (grownBy_refl w _) rfl _⟩
    obtain ⟨rfl, rfl⟩ := List.cons.inj e
    exact ⟨rfl, Hh.out.set0 s⟩
end Go.Proofs.YtibhihobpehpbaaDoor
