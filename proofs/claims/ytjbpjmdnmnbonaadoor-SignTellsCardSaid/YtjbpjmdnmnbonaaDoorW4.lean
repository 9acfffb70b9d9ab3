/- The walks of Nums and Texts, of the program and of the reference. -/
import Derived.Test.YtjbpjmdnmnbonaaDoorW3
set_option linter.unusedSimpArgs false
set_option linter.unusedVariables false
namespace Go.Proofs.YtjbpjmdnmnbonaaDoor
open Go.RowKit

def encNums (l : List Int) : List UInt8 := l.flatMap (fun x => 1 :: encInt x) ++ [0]
def encTexts (l : List ByteArray) : List UInt8 := l.flatMap (fun x => 1 :: encText x.data.toList) ++ [0]

/-- the encoding of the first j elements -/
def numsT (l : List Int) (j : Nat) : List UInt8 := (l.take j).flatMap (fun x => 1 :: encInt x)
def textsT (l : List ByteArray) (j : Nat) : List UInt8 := (l.take j).flatMap (fun x => 1 :: encText x.data.toList)

theorem encInt_len (n : Int) (h : In64 n) : (encInt n).length ≤ 9 := by
  have := sz_le (mag n) (by have := mag_le h; omega)
  simp [encInt, digs]; omega
theorem numsT_le (l : List Int) (h : ∀ x ∈ l, In64 x) (j : Nat) : (numsT l j).length ≤ 10 * j := by
  have : ∀ l : List Int, (∀ x ∈ l, In64 x) → (l.flatMap (fun x => 1 :: encInt x)).length ≤ 10 * l.length := by
    intro l
    induction l with
    | nil => simp
    | cons a l ih =>
      intro h
      have h1 := encInt_len a (h a (by simp))
      have h2 := ih (fun x hx => h x (by simp [hx]))
      simp only [List.flatMap_cons, List.length_append, List.length_cons]
      omega
  have := this (l.take j) (fun x hx => h x (List.mem_of_mem_take hx))
  rw [List.length_take] at this
  unfold numsT; omega
theorem numsT_zero (l : List Int) : numsT l 0 = [] := by simp [numsT]
theorem numsT_succ (l : List Int) (j : Nat) (h : j < l.length) : numsT l (j + 1) = numsT l j ++ 1 :: encInt (nth l j) := by
  unfold numsT
  rw [List.take_succ_eq_append_getElem h, List.flatMap_append, nth_eq l j h]
  simp
theorem numsT_full (l : List Int) : numsT l l.length ++ [0] = encNums l := by
  unfold numsT encNums
  rw [List.take_of_length_le (Nat.le_refl _)]

theorem builder_below {w w' : World} {B : Nat} {b : Nat} {p : Value} {bs : List Value} {K : Nat} (h : Lib.BuilderAt 68 5 B b p bs w) (hb : Below K w w') (hK : w.heap.size ≤ K) : Lib.BuilderAt 68 5 B b p bs w' := by
  have hlt := h.lt
  obtain ⟨h1, v, h2, h3, h4⟩ := h
  exact ⟨h1, v, by rw [hb.block b (by omega)]; exact h2, ownsRow_below h3 hb hK, h4⟩
theorem builder_new (w : World) : Lib.IsBuilder 68 5 w.heap.size w.heap.size (Lib.byteCells []) (w.alloc (.cells #[.pointer none, .slice none 0 0] 68)) :=
  .inl ⟨Nat.le_refl _, .slice none 0 0, heap_alloc_new w _, World.ownsRow_nil _ _ _ _, by simp [Value.ownBlock]⟩
theorem builder_str {w : World} {B b : Nat} {p : Value} {bs : List UInt8} {s : List UInt8} (h : Lib.BuilderAt 68 5 B b p (Lib.byteCells bs ++ Lib.strCells ⟨s.toArray⟩) w) : Lib.BuilderAt 68 5 B b p (Lib.byteCells (bs ++ s)) w := by
  rw [Lib.byteCells_append]; exact h
theorem builder_byte {w : World} {B b : Nat} {p : Value} {bs : List UInt8} {c : UInt8} (h : Lib.BuilderAt 68 5 B b p (Lib.byteCells bs ++ [.int .u8 (c.toNat : Int)]) w) : Lib.BuilderAt 68 5 B b p (Lib.byteCells (bs ++ [c])) w := by
  rw [Lib.byteCells_append]; exact h
theorem encText_len (s : ByteArray) (h : s.size ≤ 1000000) : (encText s.data.toList).length ≤ 2000002 := by
  have := encText_le s.data.toList
  rw [len_data] at this
  unfold encText
  rw [List.length_append]
  simp only [List.length_cons, List.length_nil]
  omega
theorem textsT_le (l : List ByteArray) (h : ∀ x ∈ l, x.size ≤ 1000000) (j : Nat) : (textsT l j).length ≤ 2000003 * j := by
  have : ∀ l : List ByteArray, (∀ x ∈ l, x.size ≤ 1000000) → (l.flatMap (fun x => 1 :: encText x.data.toList)).length ≤ 2000003 * l.length := by
    intro l
    induction l with
    | nil => simp
    | cons a l ih =>
      intro h
      have h1 := encText_len a (h a (by simp))
      have h2 := ih (fun x hx => h x (by simp [hx]))
      simp only [List.flatMap_cons, List.length_append, List.length_cons]
      omega
  have := this (l.take j) (fun x hx => h x (List.mem_of_mem_take hx))
  rw [List.length_take] at this
  unfold textsT; omega
theorem textsT_zero (l : List ByteArray) : textsT l 0 = [] := by simp [textsT]
theorem textsT_succ (l : List ByteArray) (j : Nat) (h : j < l.length) : textsT l (j + 1) = textsT l j ++ 1 :: encText l[j].data.toList := by
  unfold textsT
  rw [List.take_succ_eq_append_getElem h, List.flatMap_append]
  simp
theorem textsT_full (l : List ByteArray) : textsT l l.length ++ [0] = encTexts l := by
  unfold textsT encTexts
  rw [List.take_of_length_le (Nat.le_refl _)]

end Go.Proofs.YtjbpjmdnmnbonaaDoor
