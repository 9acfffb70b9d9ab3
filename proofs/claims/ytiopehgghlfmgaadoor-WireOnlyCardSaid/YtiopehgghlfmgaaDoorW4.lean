/- The walks of Nums and Texts, of the program and of the reference. -/
import Derived.Test.YtiopehgghlfmgaaDoorW3
set_option linter.unusedSimpArgs false
set_option linter.unusedVariables false
namespace Go.Proofs.YtiopehgghlfmgaaDoor
open Go.RowKit

def encNums (l : List Int) : List UInt8 := l.flatMap (fun x => 1 :: encInt x) ++ [0]
def encTexts (l : List ByteArray) : List UInt8 := l.flatMap (fun x => 1 :: encText x.data.toList) ++ [0]

/-- the encoding of the first j elements -/
def numsT (l : List Int) (j : Nat) : List UInt8 := (l.take j).flatMap (fun x => 1 :: encInt x)
def textsT (l : List ByteArray) (j : Nat) : List UInt8 := (l.take j).flatMap (fun x => 1 :: encText x.data.toList)

theorem encInt_len (n : Int) (h : In64 n) : (encInt n).length ≤ 9 := by
  have := sz_le (mag n) (by have := mag_le h; omega)
  simp [encInt, digs]; omega
theorem numsT_le (l : List Int) (h : ∀ x ∈ l, In64 x) (j : Nat) : (numsT l j).length ≤ 10 * j := by
  have : ∀ l : List Int, (∀ x ∈ l, In64 x) → (l.flatMap (fun x => 1 :: encInt x)).length ≤ 10 * l.length := by
    intro l
    induction l with
    | nil => simp
    | cons a l ih =>
      intro h
      have h1 := encInt_len a (h a (by simp))
      have h2 := ih (fun x hx => h x (by simp [hx]))
      simp only [List.flatMap_cons, List.length_append, List.length_cons]
      omega
  have := this (l.take j) (fun x hx => h x (List.mem_of_mem_take hx))
  rw [List.length_take] at this
  unfold numsT; omega
theorem numsT_zero (l : List Int) : numsT l 0 = [] := by simp [numsT]
theorem numsT_succ (l : List Int) (j : Nat) (h : j < l.length) : numsT l (j + 1) = numsT l j ++ 1 :: encInt (nth l j) := by
  unfold numsT
  rw [List.take_succ_eq_append_getElem h, List.flatMap_append, nth_eq l j h]
  simp
theorem numsT_full (l : List Int) : numsT l l.length ++ [0] = encNums l := by
  unfold numsT encNums
  rw [List.take_of_length_le (Nat.le_refl _)]

theorem builder_below {w w' : World} {B : Nat} {b : Nat} {p : Value} {bs : List Value} {K : Nat} (h : Lib.BuilderAt 69 5 B b p bs w) (hb : Below K w w') (hK : w.heap.size ≤ K) : Lib.BuilderAt 69 5 B b p bs w' := by
  have hlt := h.lt
  obtain ⟨h1, v, h2, h3, h4⟩ := h
  exact ⟨h1, v, by rw [hb.block b (by omega)]; exact h2, ownsRow_below h3 hb hK, h4⟩
theorem builder_new (w : World) : Lib.IsBuilder 69 5 w.heap.size w.heap.size (Lib.byteCells []) (w.alloc (.cells #[.pointer none, .slice none 0 0] 69)) :=
  .inl ⟨Nat.le_refl _, .slice none 0 0, heap_alloc_new w _, World.ownsRow_nil _ _ _ _, by simp [Value.ownBlock]⟩
theorem builder_str {w : World} {B b : Nat} {p : Value} {bs : List UInt8} {s : List UInt8} (h : Lib.BuilderAt 69 5 B b p (Lib.byteCells bs ++ Lib.strCells ⟨s.toArray⟩) w) : Lib.BuilderAt 69 5 B b p (Lib.byteCells (bs ++ s)) w := by
  rw [Lib.byteCells_append]; exact h
theorem builder_byte {w : World} {B b : Nat} {p : Value} {bs : List UInt8} {c : UInt8} (h : Lib.BuilderAt 69 5 B b p (Lib.byteCells bs ++ [.int .u8 (c.toNat : Int)]) w) : Lib.BuilderAt 69 5 B b p (Lib.byteCells (bs ++ [c])) w := by
  rw [Lib.byteCells_append]; exact h
theorem str_size (l : List UInt8) : (ByteArray.mk l.toArray).size = l.length := by simp [ByteArray.size]

theorem listInt_calls (v : Value) (l : List Int) (w : World) (h : IntsAt w v l) (hl : l.length ≤ 1000000) :
    Calls Tryd.prog 45 #[v, .func (.func 10) #[] #[]] w fun e w' => e = .returned (.string ⟨(encNums l).toArray⟩) ∧ Below w.heap.size w w' := by
  have h0 := h
  obtain ⟨oa, cap, rfl, hm, hr, -⟩ := h
  have Hh0 := Lib.hid h0
  clear h0
  have Hhr := Lib.hid hr
  clear hr
  go_enter Tryd.func45, Tryd.ntmps45
  go_wp2_with fail
  go_loopw [10] (fun s10 wr => ∃ j : Nat, j ≤ l.length ∧ s10 = .int .i64 j ∧ Lib.IsBuilder 69 5 w.heap.size w.heap.size (Lib.byteCells (numsT l j)) wr ∧ Below w.heap.size w wr) (fun s10 _ => l.length - (intOf s10).toNat)
  case atStart => exact ⟨0, by omega, rfl, by rw [numsT_zero]; exact builder_new w, (by ((repeat' (first | exact Below.refl _ _ | (refine Below.alloc ?_ ?_ _) | (refine Below.setCell ?_ ?_ _) | (refine Below.drew ?_) | (refine Below.trans ?_ (Below.mono (by assumption) ?_)))) <;> ((try simp only [World.size_alloc, World.size_setCell, World.size_drew] at *); omega)))⟩
  case round =>
    obtain ⟨j, hj, rfl, hbd, hB⟩ := hrel
    have hsz := hB.size
    have hle := numsT_le l Hhr.out j
    have hlen : (Lib.byteCells (numsT l j)).length = (numsT l j).length := Lib.byteCells_length _
    by_cases hjk : j < l.length
    · have hsucc := numsT_succ l j hjk
      have hx := Hhr.out (nth l j) (by rw [nth_eq l j hjk]; exact List.getElem_mem hjk)
      have hel := encInt_len _ hx
      obtain ⟨-, b, off, rfl, hbs, hc⟩ := (Hh0.out.below hB (Nat.le_refl _)).at' hjk
      generalize nth l j = x at *
      generalize numsT l j = t at *
      have Hhbd := Lib.hid hbd
      clear hbd
      have Hhsucc := Lib.hid hsucc
      clear hsucc
      have Hhx := Lib.hid hx
      clear hx
      go_wp2_with fail
      refine (Tryd.Builder_WriteByte w.heap.size w.heap.size (Lib.byteCells t) 1 wr Hhbd.out (by omega) hsz).mono ?_
      rintro e w2 ⟨rfl, hbd2, hB2⟩
      have hbd3 := builder_byte (c := 1) hbd2
      have hsz2 := hB2.size
      have Hhbd2 := Lib.hid hbd2
      clear hbd2
      have Hhbd3 := Lib.hid hbd3
      clear hbd3
      go_wp2_with fail
      refine (Int_calls x w2 Hhx.out).mono ?_
      rintro e w3 ⟨rfl, hB3⟩
      have hsz3 := hB3.size
      have hbd4 := builder_below Hhbd3.out hB3 (Nat.le_refl _)
      have hlen2 : (Lib.byteCells (t ++ [1])).length = t.length + 1 := by rw [Lib.byteCells_length]; simp
      have hss := str_size (encInt x)
      clear Hhbd3 Hhbd2 Hhbd
      have Hhbd4 := Lib.hid hbd4
      clear hbd4
      go_wp2_with fail
      refine (Tryd.Builder_WriteString w.heap.size w.heap.size (Lib.byteCells (t ++ [1])) ⟨(encInt x).toArray⟩ w3 (.inr Hhbd4.out) (by omega) (by omega)).mono ?_
      rintro e w4 ⟨rfl, hbd5, hB4⟩
      have hbd6 := builder_str hbd5
      have hsz4 := hB4.size
      have Hhbd5 := Lib.hid hbd5
      clear hbd5
      have Hhbd6 := Lib.hid hbd6
      clear hbd6
      go_wp2_with fail
      refine ⟨⟨j + 1, by omega, by go_num, ?_, (by ((repeat' (first | exact Below.refl _ _ | (refine Below.alloc ?_ ?_ _) | (refine Below.setCell ?_ ?_ _) | (refine Below.drew ?_) | (refine Below.trans ?_ (Below.mono (by assumption) ?_)))) <;> ((try simp only [World.size_alloc, World.size_setCell, World.size_drew] at *); omega)))⟩, by simp [intOf]; omega⟩
      rw [Hhsucc.out]
      have := Hhbd6.out
      rw [List.append_assoc] at this
      exact .inr this
    · have hje : j = l.length := by omega
      subst hje
      have hf := numsT_full l
      generalize numsT l l.length = t at *
      have Hhbd := Lib.hid hbd
      clear hbd
      go_wp2_with fail
      refine (Tryd.Builder_WriteByte w.heap.size w.heap.size (Lib.byteCells t) 0 wr Hhbd.out (by omega) hsz).mono ?_
      rintro e w2 ⟨rfl, hbd2, hB2⟩
      have hbd3 := builder_byte (c := 0) hbd2
      have hsz2 := hB2.size
      rw [hf] at hbd3
      have Hhbd2 := Lib.hid hbd2
      clear hbd2
      have Hhbd3 := Lib.hid hbd3
      clear hbd3
      have Hhf := Lib.hid hf
      clear hf
      go_wp2_with fail
      refine (Tryd.Builder_String_any w.heap.size w.heap.size _ w2 (.inr Hhbd3.out) (by omega)).mono ?_
      rintro e w4 ⟨rfl, hB4⟩
      go_wp2_with fail
      go_ret
      exact ⟨rfl, (by ((repeat' (first | exact Below.refl _ _ | (refine Below.alloc ?_ ?_ _) | (refine Below.setCell ?_ ?_ _) | (refine Below.drew ?_) | (refine Below.trans ?_ (Below.mono (by assumption) ?_)))) <;> ((try simp only [World.size_alloc, World.size_setCell, World.size_drew] at *); omega)))⟩

theorem Nums_calls (v : Value) (l : List Int) (w : World) (h : IntsAt w v l) (hl : l.length ≤ 1000000) :
    Calls Tryd.prog 16 #[v] w fun e w' => e = .returned (.string ⟨(encNums l).toArray⟩) ∧ Below w.heap.size w w' := by
  go_enter Tryd.func16, Tryd.ntmps16
  go_wp2_with fail
  refine (listInt_calls v l w h hl).mono ?_
  rintro e w1 ⟨rfl, hB⟩
  go_wp2_with fail
  go_ret
  exact ⟨rfl, (by ((repeat' (first | exact Below.refl _ _ | (refine Below.alloc ?_ ?_ _) | (refine Below.setCell ?_ ?_ _) | (refine Below.drew ?_) | (refine Below.trans ?_ (Below.mono (by assumption) ?_)))) <;> ((try simp only [World.size_alloc, World.size_setCell, World.size_drew] at *); omega)))⟩

theorem encText_len (s : ByteArray) (h : s.size ≤ 1000000) : (encText s.data.toList).length ≤ 2000002 := by
  have := encText_le s.data.toList
  rw [len_data] at this
  unfold encText
  rw [List.length_append]
  simp only [List.length_cons, List.length_nil]
  omega
theorem textsT_le (l : List ByteArray) (h : ∀ x ∈ l, x.size ≤ 1000000) (j : Nat) : (textsT l j).length ≤ 2000003 * j := by
  have : ∀ l : List ByteArray, (∀ x ∈ l, x.size ≤ 1000000) → (l.flatMap (fun x => 1 :: encText x.data.toList)).length ≤ 2000003 * l.length := by
    intro l
    induction l with
    | nil => simp
    | cons a l ih =>
      intro h
      have h1 := encText_len a (h a (by simp))
      have h2 := ih (fun x hx => h x (by simp [hx]))
      simp only [List.flatMap_cons, List.length_append, List.length_cons]
      omega
  have := this (l.take j) (fun x hx => h x (List.mem_of_mem_take hx))
  rw [List.length_take] at this
  unfold textsT; omega
theorem textsT_zero (l : List ByteArray) : textsT l 0 = [] := by simp [textsT]
theorem textsT_succ (l : List ByteArray) (j : Nat) (h : j < l.length) : textsT l (j + 1) = textsT l j ++ 1 :: encText l[j].data.toList := by
  unfold textsT
  rw [List.take_succ_eq_append_getElem h, List.flatMap_append]
  simp
theorem textsT_full (l : List ByteArray) : textsT l l.length ++ [0] = encTexts l := by
  unfold textsT encTexts
  rw [List.take_of_length_le (Nat.le_refl _)]

theorem listText_calls (v : Value) (l : List ByteArray) (m : Int) (w : World) (h : StrsAt w v l) (hl : l.length ≤ 1000000) (hr : ∀ x ∈ l, x.size ≤ 1000000) (hm : w.cell? ⟨0, 0, none⟩ = some (.int .i64 m)) :
    Calls Tryd.prog 46 #[v, .func (.func 14) #[] #[]] w fun e w' => e = .returned (.string ⟨(encTexts l).toArray⟩) ∧ Below w.heap.size w w' := by
  have h0 := h
  obtain ⟨oa, cap, rfl, hm0, -, -⟩ := h
  have hw0 : 0 < w.heap.size := World.block_lt_of_cell? w _ hm
  have Hh0 := Lib.hid h0
  clear h0
  have Hhr := Lib.hid hr
  clear hr
  have Hhm := Lib.hid hm
  clear hm
  go_enter Tryd.func46, Tryd.ntmps46
  go_wp2_with fail
  go_loopw [10] (fun s10 wr => ∃ j : Nat, j ≤ l.length ∧ s10 = .int .i64 j ∧ Lib.IsBuilder 69 5 w.heap.size w.heap.size (Lib.byteCells (textsT l j)) wr ∧ Below w.heap.size w wr) (fun s10 _ => l.length - (intOf s10).toNat)
  case atStart => exact ⟨0, by omega, rfl, by rw [textsT_zero]; exact builder_new w, (by ((repeat' (first | exact Below.refl _ _ | (refine Below.alloc ?_ ?_ _) | (refine Below.setCell ?_ ?_ _) | (refine Below.drew ?_) | (refine Below.trans ?_ (Below.mono (by assumption) ?_)))) <;> ((try simp only [World.size_alloc, World.size_setCell, World.size_drew] at *); omega)))⟩
  case round =>
    obtain ⟨j, hj, rfl, hbd, hB⟩ := hrel
    have hsz := hB.size
    have hle := textsT_le l Hhr.out j
    have hlen : (Lib.byteCells (textsT l j)).length = (textsT l j).length := Lib.byteCells_length _
    by_cases hjk : j < l.length
    · have hsucc := textsT_succ l j hjk
      have hx := Hhr.out l[j] (List.getElem_mem hjk)
      have hel := encText_len _ hx
      obtain ⟨-, b, off, rfl, hbs, hc⟩ := (Hh0.out.below hB (Nat.le_refl _)).at' hjk
      generalize l[j] = x at *
      generalize textsT l j = t at *
      have Hhbd := Lib.hid hbd
      clear hbd
      have Hhsucc := Lib.hid hsucc
      clear hsucc
      have Hhx := Lib.hid hx
      clear hx
      go_wp2_with fail
      refine (Tryd.Builder_WriteByte w.heap.size w.heap.size (Lib.byteCells t) 1 wr Hhbd.out (by omega) hsz).mono ?_
      rintro e w2 ⟨rfl, hbd2, hB2⟩
      have hbd3 := builder_byte (c := 1) hbd2
      have hsz2 := hB2.size
      have hm2 := ((hB.trans hB2).cell (p := ⟨0, 0, none⟩) hw0).trans Hhm.out
      have Hhbd2 := Lib.hid hbd2
      clear hbd2
      have Hhbd3 := Lib.hid hbd3
      clear hbd3
      have Hhm2 := Lib.hid hm2
      clear hm2
      go_wp2_with fail
      refine (Text_calls x m w2 Hhx.out Hhm2.out).mono ?_
      rintro e w3 ⟨rfl, hB3⟩
      have hsz3 := hB3.size
      have hbd4 := builder_below Hhbd3.out hB3 (Nat.le_refl _)
      have hlen2 : (Lib.byteCells (t ++ [1])).length = t.length + 1 := by rw [Lib.byteCells_length]; simp
      have hss := str_size (encText x.data.toList)
      clear Hhbd3 Hhbd2 Hhbd
      have Hhbd4 := Lib.hid hbd4
      clear hbd4
      go_wp2_with fail
      refine (Tryd.Builder_WriteString w.heap.size w.heap.size (Lib.byteCells (t ++ [1])) ⟨(encText x.data.toList).toArray⟩ w3 (.inr Hhbd4.out) (by omega) (by omega)).mono ?_
      rintro e w4 ⟨rfl, hbd5, hB4⟩
      have hbd6 := builder_str hbd5
      have hsz4 := hB4.size
      have Hhbd5 := Lib.hid hbd5
      clear hbd5
      have Hhbd6 := Lib.hid hbd6
      clear hbd6
      go_wp2_with fail
      refine ⟨⟨j + 1, by omega, by go_num, ?_, (by ((repeat' (first | exact Below.refl _ _ | (refine Below.alloc ?_ ?_ _) | (refine Below.setCell ?_ ?_ _) | (refine Below.drew ?_) | (refine Below.trans ?_ (Below.mono (by assumption) ?_)))) <;> ((try simp only [World.size_alloc, World.size_setCell, World.size_drew] at *); omega)))⟩, by simp [intOf]; omega⟩
      rw [Hhsucc.out]
      have := Hhbd6.out
      rw [List.append_assoc] at this
      exact .inr this
    · have hje : j = l.length := by omega
      subst hje
      have hf := textsT_full l
      generalize textsT l l.length = t at *
      have Hhbd := Lib.hid hbd
      clear hbd
      go_wp2_with fail
      refine (Tryd.Builder_WriteByte w.heap.size w.heap.size (Lib.byteCells t) 0 wr Hhbd.out (by omega) hsz).mono ?_
      rintro e w2 ⟨rfl, hbd2, hB2⟩
      have hbd3 := builder_byte (c := 0) hbd2
      have hsz2 := hB2.size
      rw [hf] at hbd3
      have Hhbd2 := Lib.hid hbd2
      clear hbd2
      have Hhbd3 := Lib.hid hbd3
      clear hbd3
      have Hhf := Lib.hid hf
      clear hf
      go_wp2_with fail
      refine (Tryd.Builder_String_any w.heap.size w.heap.size _ w2 (.inr Hhbd3.out) (by omega)).mono ?_
      rintro e w4 ⟨rfl, hB4⟩
      go_wp2_with fail
      go_ret
      exact ⟨rfl, (by ((repeat' (first | exact Below.refl _ _ | (refine Below.alloc ?_ ?_ _) | (refine Below.setCell ?_ ?_ _) | (refine Below.drew ?_) | (refine Below.trans ?_ (Below.mono (by assumption) ?_)))) <;> ((try simp only [World.size_alloc, World.size_setCell, World.size_drew] at *); omega)))⟩

theorem Texts_calls (v : Value) (l : List ByteArray) (m : Int) (w : World) (h : StrsAt w v l) (hl : l.length ≤ 1000000) (hr : ∀ x ∈ l, x.size ≤ 1000000) (hm : w.cell? ⟨0, 0, none⟩ = some (.int .i64 m)) :
    Calls Tryd.prog 18 #[v] w fun e w' => e = .returned (.string ⟨(encTexts l).toArray⟩) ∧ Below w.heap.size w w' := by
  go_enter Tryd.func18, Tryd.ntmps18
  go_wp2_with fail
  refine (listText_calls v l m w h hl hr hm).mono ?_
  rintro e w1 ⟨rfl, hB⟩
  go_wp2_with fail
  go_ret
  exact ⟨rfl, (by ((repeat' (first | exact Below.refl _ _ | (refine Below.alloc ?_ ?_ _) | (refine Below.setCell ?_ ?_ _) | (refine Below.drew ?_) | (refine Below.trans ?_ (Below.mono (by assumption) ?_)))) <;> ((try simp only [World.size_alloc, World.size_setCell, World.size_drew] at *); omega)))⟩

theorem cat_run (a b : List UInt8) (h : a.length + b.length ≤ 9223372036854775807) (w : World) : (Op.stringOp .add ⟨a.toArray⟩ ⟨b.toArray⟩).run Tryd.prog w = .ok (.string ⟨(a ++ b).toArray⟩) w := by
  rw [run_string_add_sum (P := Tryd.prog) (w := w) ⟨a.toArray⟩ ⟨b.toArray⟩ (by rw [str_size, str_size]; exact h)]
  have e : (ByteArray.mk a.toArray) ++ (ByteArray.mk b.toArray) = ⟨(a ++ b).toArray⟩ := by apply ByteArray.ext; simp
  rw [e]

theorem refNums_calls (v : Value) (l : List Int) (w : World) (h : IntsAt w v l) (hl : l.length ≤ 1000000) :
    Calls Tryd.prog 17 #[v] w fun e w' => e = .returned (.string ⟨(encNums l).toArray⟩) ∧ Below w.heap.size w w' := by
  have h0 := h
  obtain ⟨oa, cap, rfl, hm, hr, -⟩ := h
  have Hh0 := Lib.hid h0
  clear h0
  have Hhr := Lib.hid hr
  clear hr
  go_enter Tryd.func17, Tryd.ntmps17
  go_wp2_with fail
  go_loopw [3, 4] (fun s3 s4 wr => ∃ j : Nat, j ≤ l.length ∧ s4 = .int .i64 j ∧ s3 = .string ⟨(numsT l j).toArray⟩ ∧ Below w.heap.size w wr) (fun _ s4 _ => l.length - (intOf s4).toNat)
  case atStart => exact ⟨0, by omega, rfl, by rw [numsT_zero], Below.refl _ _⟩
  case round =>
    obtain ⟨j, hj, rfl, rfl, hB⟩ := hrel
    have hsz := hB.size
    have hle := numsT_le l Hhr.out j
    by_cases hjk : j < l.length
    · have hsucc := numsT_succ l j hjk
      have hx := Hhr.out (nth l j) (by rw [nth_eq l j hjk]; exact List.getElem_mem hjk)
      have hel := encInt_len _ hx
      obtain ⟨-, b, off, rfl, hbs, hc⟩ := (Hh0.out.below hB (Nat.le_refl _)).at' hjk
      generalize nth l j = x at *
      generalize numsT l j = t at *
      have hc1 := cat_run t [1] (by simp; omega)
      have hc2 := cat_run (t ++ [1]) (encInt x) (by simp; omega)
      have Hhsucc := Lib.hid hsucc
      clear hsucc
      have Hhx := Lib.hid hx
      clear hx
      go_wp2_with fail
      refine (refInt_calls x wr Hhx.out).mono ?_
      rintro e w3 ⟨rfl, hB3⟩
      have hsz3 := hB3.size
      go_wp2_with fail
      refine ⟨⟨j + 1, by omega, by go_num, by rw [Hhsucc.out], (by ((repeat' (first | exact Below.refl _ _ | (refine Below.alloc ?_ ?_ _) | (refine Below.setCell ?_ ?_ _) | (refine Below.drew ?_) | (refine Below.trans ?_ (Below.mono (by assumption) ?_)))) <;> ((try simp only [World.size_alloc, World.size_setCell, World.size_drew] at *); omega)))⟩, by simp [intOf]; omega⟩
    · have hje : j = l.length := by omega
      subst hje
      have hf := numsT_full l
      generalize numsT l l.length = t at *
      have hc1 := cat_run t [0] (by simp; omega)
      rw [hf] at hc1
      have Hhf := Lib.hid hf
      clear hf
      go_wp2_with fail
      go_ret
      exact ⟨rfl, (by ((repeat' (first | exact Below.refl _ _ | (refine Below.alloc ?_ ?_ _) | (refine Below.setCell ?_ ?_ _) | (refine Below.drew ?_) | (refine Below.trans ?_ (Below.mono (by assumption) ?_)))) <;> ((try simp only [World.size_alloc, World.size_setCell, World.size_drew] at *); omega)))⟩

theorem refTexts_calls (v : Value) (l : List ByteArray) (w : World) (h : StrsAt w v l) (hl : l.length ≤ 1000000) (hr : ∀ x ∈ l, x.size ≤ 1000000) :
    Calls Tryd.prog 19 #[v] w fun e w' => e = .returned (.string ⟨(encTexts l).toArray⟩) ∧ Below w.heap.size w w' := by
  have h0 := h
  obtain ⟨oa, cap, rfl, hm, -, -⟩ := h
  have Hh0 := Lib.hid h0
  clear h0
  have Hhr := Lib.hid hr
  clear hr
  go_enter Tryd.func19, Tryd.ntmps19
  go_wp2_with fail
  go_loopw [3, 4] (fun s3 s4 wr => ∃ j : Nat, j ≤ l.length ∧ s4 = .int .i64 j ∧ s3 = .string ⟨(textsT l j).toArray⟩ ∧ Below w.heap.size w wr) (fun _ s4 _ => l.length - (intOf s4).toNat)
  case atStart => exact ⟨0, by omega, rfl, by rw [textsT_zero], Below.refl _ _⟩
  case round =>
    obtain ⟨j, hj, rfl, rfl, hB⟩ := hrel
    have hsz := hB.size
    have hle := textsT_le l Hhr.out j
    by_cases hjk : j < l.length
    · have hsucc := textsT_succ l j hjk
      have hx := Hhr.out l[j] (List.getElem_mem hjk)
      have hel := encText_len _ hx
      obtain ⟨-, b, off, rfl, hbs, hc⟩ := (Hh0.out.below hB (Nat.le_refl _)).at' hjk
      generalize l[j] = x at *
      generalize textsT l j = t at *
      have hc1 := cat_run t [1] (by simp; omega)
      have hc2 := cat_run (t ++ [1]) (encText x.data.toList) (by rw [List.length_append]; simp only [List.length_cons, List.length_nil]; omega)
      have Hhsucc := Lib.hid hsucc
      clear hsucc
      have Hhx := Lib.hid hx
      clear hx
      go_wp2_with fail
      refine (refText_calls x wr Hhx.out).mono ?_
      rintro e w3 ⟨rfl, hB3⟩
      have hsz3 := hB3.size
      go_wp2_with fail
      refine ⟨⟨j + 1, by omega, by go_num, by rw [Hhsucc.out], (by ((repeat' (first | exact Below.refl _ _ | (refine Below.alloc ?_ ?_ _) | (refine Below.setCell ?_ ?_ _) | (refine Below.drew ?_) | (refine Below.trans ?_ (Below.mono (by assumption) ?_)))) <;> ((try simp only [World.size_alloc, World.size_setCell, World.size_drew] at *); omega)))⟩, by simp [intOf]; omega⟩
    · have hje : j = l.length := by omega
      subst hje
      have hf := textsT_full l
      generalize textsT l l.length = t at *
      have hc1 := cat_run t [0] (by simp; omega)
      rw [hf] at hc1
      have Hhf := Lib.hid hf
      clear hf
      go_wp2_with fail
      go_ret
      exact ⟨rfl, (by ((repeat' (first | exact Below.refl _ _ | (refine Below.alloc ?_ ?_ _) | (refine Below.setCell ?_ ?_ _) | (refine Below.drew ?_) | (refine Below.trans ?_ (Below.mono (by assumption) ?_)))) <;> ((try simp only [World.size_alloc, World.size_setCell, World.size_drew] at *); omega)))⟩
end Go.Proofs.YtiopehgghlfmgaaDoor
