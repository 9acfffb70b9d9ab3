/- The walks of Text, of the program and of the reference. -/
import Derived.Test.YtjbpjmdnmnbonaaDoorW2
set_option linter.unusedSimpArgs false
set_option linter.unusedVariables false
namespace Go.Proofs.YtjbpjmdnmnbonaaDoor
open Go.RowKit

def esc (c : UInt8) : List UInt8 := if c = 0 then [0, 255] else [c]
def encText (l : List UInt8) : List UInt8 := l.flatMap esc ++ [0, 1]

theorem replaceK_one (c : UInt8) (new : List UInt8) : ∀ s : List UInt8, Lib.replaceK [c] new (Lib.count s [c]) s = s.flatMap (fun b => if b = c then new else [b])
  | [] => by
    rw [Lib.count_one]; simp [Lib.replaceK]
  | b :: l => by
    have ih := replaceK_one c new l
    by_cases h : b = c
    · subst h
      have hix : Lib.index (b :: l) [b] = ((0 : Nat) : Int) := by rw [Lib.index]; simp [List.isPrefixOf]
      rw [Lib.count_cons_eq, Nat.add_comm, Lib.replaceK_hit _ _ _ _ 0 hix]
      simp [ih]
    · rw [Lib.count_cons_ne b c l h]
      rcases hk : Lib.count l [c] with _ | k
      · rw [hk] at ih
        simp only [Lib.replaceK] at ih ⊢
        simp [h, ← ih]
      · obtain ⟨j, hj⟩ := Lib.index_of_count (s := l) (old := [c]) (by omega)
        have hp : ([c] : List UInt8).isPrefixOf (b :: l) = false := by simp [List.isPrefixOf, Ne.symm h]
        have hix : Lib.index (b :: l) [c] = ((j + 1 : Nat) : Int) := by
          rw [Lib.index, hp, hj]
          simp
        rw [hk, Lib.replaceK_hit _ _ _ _ j hj] at ih
        rw [Lib.replaceK_hit _ _ _ _ (j + 1) hix]
        simp only [List.flatMap_cons, if_neg h, ← ih]
        simp [Nat.add_right_comm]

theorem replaceAll_zero (l : List UInt8) : Lib.replaceAll l [0] [0, 255] = l.flatMap esc := by
  unfold Lib.replaceAll Lib.replace Lib.replaceNum
  rw [if_neg (by decide), if_pos (.inl (by omega)), replaceK_one]
  rfl

theorem encText_le (l : List UInt8) : (l.flatMap esc).length ≤ 2 * l.length := by
  induction l with
  | nil => simp
  | cons b l ih =>
    simp only [List.flatMap_cons, List.length_append, List.length_cons]
    have : (esc b).length ≤ 2 := by unfold esc; split <;> simp
    omega

theorem Text_calls (s : ByteArray) (m : Int) (w : World) (hs : s.size ≤ 1000000) (hm : w.cell? ⟨4, 0, none⟩ = some (.int .i64 m)) :
    Calls Tryd.prog 27 #[.string s] w fun e w' => e = .returned (.string ⟨(encText s.data.toList).toArray⟩) ∧ Below w.heap.size w w' := by
  go_enter Tryd.func27, Tryd.ntmps27
  go_wp2_with fail
  have hc := Lib.countB_le ⟨#[0]⟩ (by decide) s.size s (Nat.le_refl _)
  refine (Tryd.strings_ReplaceAll s ⟨#[0]⟩ ⟨#[0, 255]⟩ m w (by omega) hm (by decide) (by have : (ByteArray.mk #[0, 255]).size = 2 := rfl; rw [this]; omega)).mono ?_
  rintro e w1 ⟨rfl, hB⟩
  have hl := encText_le s.data.toList
  have hrep : Lib.replaceAll s.data.toList (ByteArray.mk #[0]).data.toList (ByteArray.mk #[0, 255]).data.toList = s.data.toList.flatMap esc := replaceAll_zero _
  rw [hrep]
  have hcat := run_string_add_sum (P := Tryd.prog) (w := w1) ⟨(s.data.toList.flatMap esc).toArray⟩ ⟨#[0, 1]⟩ (by
    have h2 : (ByteArray.mk #[0, 1]).size = 2 := rfl
    have h3 : (ByteArray.mk (s.data.toList.flatMap esc).toArray).size = (s.data.toList.flatMap esc).length := by simp [ByteArray.size]
    have h4 := len_data s
    rw [h2, h3]
    omega)
  have hcat2 : (ByteArray.mk (s.data.toList.flatMap esc).toArray) ++ (ByteArray.mk #[0, 1]) = ⟨(encText s.data.toList).toArray⟩ := by
    apply ByteArray.ext
    simp [encText]
  rw [hcat2] at hcat
  go_wp2_with fail
  go_ret
  exact ⟨rfl, (by ((repeat' (first | exact Below.refl _ _ | (refine Below.alloc ?_ ?_ _) | (refine Below.setCell ?_ ?_ _) | (refine Below.drew ?_) | (refine Below.trans ?_ (Below.mono (by assumption) ?_)))) <;> ((try simp only [World.size_alloc, World.size_setCell, World.size_drew] at *); omega)))⟩

/-- the escaped form of the first j bytes -/
def escT (s : ByteArray) (j : Nat) : List UInt8 := (s.data.toList.take j).flatMap esc
theorem escT_le (s : ByteArray) (j : Nat) : (escT s j).length ≤ 2 * j := by
  have := encText_le (s.data.toList.take j)
  rw [List.length_take] at this
  unfold escT; omega
theorem escT_zero (s : ByteArray) : escT s 0 = [] := by simp [escT]
theorem escT_succ (s : ByteArray) (j : Nat) (h : j < s.size) : escT s (j + 1) = escT s j ++ esc s[j] := by
  have hl : j < s.data.toList.length := by rw [len_data]; exact h
  unfold escT
  rw [List.take_succ_eq_append_getElem hl, List.flatMap_append]
  simp [ByteArray.getElem_eq_getElem_data]
theorem escT_full (s : ByteArray) : escT s s.size ++ [0, 1] = encText s.data.toList := by
  unfold escT encText
  rw [List.take_of_length_le (by rw [len_data]; exact Nat.le_refl _)]

theorem refText_calls (s : ByteArray) (w : World) (hs : s.size ≤ 1000000) :
    Calls Tryd.prog 29 #[.string s] w fun e w' => e = .returned (.string ⟨(encText s.data.toList).toArray⟩) ∧ Below w.heap.size w w' := by
  go_enter Tryd.func29, Tryd.ntmps29
  go_wp2_with fail
  go_loopw [3, 4] (fun s3 s4 wr => ∃ j : Nat, j ≤ s.size ∧ s4 = .int .i64 j ∧ (wr.ownsRow w.heap.size 5 1 s3 (escT s j).length (Lib.byteCells (escT s j))) ∧ Below w.heap.size w wr) (fun _ s4 _ => s.size - (intOf s4).toNat)
  case atStart => exact ⟨0, by omega, rfl, by rw [escT_zero]; exact World.ownsRow_nil _ _ _ _, Below.refl _ _⟩
  case round =>
    obtain ⟨j, hj, rfl, hown, hB⟩ := hrel
    have hsz := hB.size
    have hle := escT_le s j
    by_cases hjk : j < s.size
    · have hsucc := escT_succ s j hjk
      generalize escT s j = l at *
      have Hhown := Lib.hid hown
      clear hown
      have Hhsucc := Lib.hid hsucc
      clear hsucc
      by_cases hz : s[j].toNat = 0
      · go_wp2_with (at_builtin; refine append_byte rfl _ _ rfl w.heap.size u3 l.length _ rfl (Hhown.out.alloc _) wr.heap.size 0 rfl (by simp) (by omega) (by simp; omega) ?_)
        intro v5 w5 hown5 hg5 hB5
        have Hhown5 := Lib.hid hown5
        clear hown5
        have hsz5 := hB5.size
        simp only [World.size_alloc] at hsz5
        go_wp2_with (at_builtin; refine append_byte rfl _ _ rfl w.heap.size v5 (l.length + 1) _ rfl (Hhown5.out.alloc _) w5.heap.size 255 rfl (by simp) (by omega) (by simp; omega) ?_)
        intro v6 w6 hown6 hg6 hB6
        have Hhown6 := Lib.hid hown6
        clear hown6
        go_wp2_with fail
        refine ⟨⟨j + 1, by omega, by go_num, ?_, (by ((repeat' (first | exact Below.refl _ _ | (refine Below.alloc ?_ ?_ _) | (refine Below.setCell ?_ ?_ _) | (refine Below.drew ?_) | (refine Below.trans ?_ (Below.mono (by assumption) ?_)))) <;> ((try simp only [World.size_alloc, World.size_setCell, World.size_drew] at *); omega)))⟩, by simp [intOf]; omega⟩
        have h0 : s[j] = 0 := by apply UInt8.toNat_inj.1; simpa using hz
        rw [Hhsucc.out, esc, if_pos h0, Lib.byteCells_append]
        simpa [Lib.byteCells] using Hhown6.out
      · go_wp2_with (at_builtin; refine append_byte rfl _ _ rfl w.heap.size u3 l.length _ rfl (Hhown.out.alloc _) wr.heap.size (s[j].toNat : Int) rfl (by simp) (by omega) (by simp; omega) ?_)
        intro v5 w5 hown5 hg5 hB5
        have Hhown5 := Lib.hid hown5
        clear hown5
        go_wp2_with fail
        refine ⟨⟨j + 1, by omega, by go_num, ?_, (by ((repeat' (first | exact Below.refl _ _ | (refine Below.alloc ?_ ?_ _) | (refine Below.setCell ?_ ?_ _) | (refine Below.drew ?_) | (refine Below.trans ?_ (Below.mono (by assumption) ?_)))) <;> ((try simp only [World.size_alloc, World.size_setCell, World.size_drew] at *); omega)))⟩, by simp [intOf]; omega⟩
        have h0 : ¬ s[j] = 0 := fun e => hz (by rw [e]; rfl)
        rw [Hhsucc.out, esc, if_neg h0, Lib.byteCells_append]
        simpa [Lib.byteCells] using Hhown5.out
    · have hje : j = s.size := by omega
      subst hje
      have hf := escT_full s
      generalize escT s s.size = l at *
      have Hhown := Lib.hid hown
      clear hown
      go_wp2_with (at_builtin; refine append_bytes rfl _ _ rfl w.heap.size u3 l.length _ rfl (Hhown.out.alloc _) wr.heap.size _ 2 [0, 1] rfl (World.ownsRow_lit wr #[.int .u8 0, .int .u8 1] 2 (by omega) (by decide) rfl) (by omega) (by simp; omega) ?_)
      intro v5 w5 hown5 hg5 hB5
      have hk := own_string (n := l.length + 2) (l := encText s.data.toList) (v := v5) (w := w5) (base := w.heap.size) (by rw [← hf, Lib.byteCells_append]; exact hown5)
      have Hhown5 := Lib.hid hown5
      clear hown5
      have Hhf := Lib.hid hf
      clear hf
      go_wp2_with fail
      go_ret
      exact ⟨rfl, (by ((repeat' (first | exact Below.refl _ _ | (refine Below.alloc ?_ ?_ _) | (refine Below.setCell ?_ ?_ _) | (refine Below.drew ?_) | (refine Below.trans ?_ (Below.mono (by assumption) ?_)))) <;> ((try simp only [World.size_alloc, World.size_setCell, World.size_drew] at *); omega)))⟩
end Go.Proofs.YtjbpjmdnmnbonaaDoor
