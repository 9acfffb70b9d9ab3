/- Plain predicates on slices in memory, how they are carried from world to world, appends, strings. -/
import Derived.Test.YtjbpjmdnmnbonaaDoorRows
import Derived.WalkKit
import Derived.WalkSpells
import Derived.WalkLawsBesides
import Derived.Lib.Hide
import Derived.Laws.IdiomStrings
import Derived.Laws.BytesArg
import Derived.Laws.OwnMore
import Derived.Laws.AppendOwnNone
import Derived.Laws.BitsAllLaws
import Derived.Deep.QuietTactic
import Derived.BigQuiet
import Derived.IntWalk
import Derived.StillTailTactics
import Derived.Deep.RegionHeld3
set_option linter.unusedSimpArgs false
set_option linter.unusedVariables false
namespace Go.Proofs.YtjbpjmdnmnbonaaDoor
open Go.RowKit

theorem ret_bool {a b : Bool} (h : a = b) : Ending.returned (.bool a) = .returned (.bool b) := by rw [h]
theorem ret_int {k : IntKind} {a b : Int} (h : a = b) : Ending.returned (.int k a) = .returned (.int k b) := by rw [h]
/-- the range of an int -/
def In64 (x : Int) : Prop := -9223372036854775808 ≤ x ∧ x ≤ 9223372036854775807
/-- the element number k, 0 behind the end -/
def nth (l : List Int) (k : Nat) : Int := l[k]?.getD 0
theorem nth_eq (l : List Int) (k : Nat) (h : k < l.length) : nth l k = l[k] := by simp [nth, h]
/-- a slice value reads as the integers l -/
def IntsAt (w : World) (v : Value) (l : List Int) : Prop :=
  ∃ oa cap, v = .slice oa l.length cap ∧ l.length ≤ 9223372036854775807 ∧ (∀ x ∈ l, In64 x) ∧
   (0 < l.length → ∃ b off, oa = some ⟨b, off, none⟩ ∧ b < w.heap.size ∧ ∀ k, k < l.length → w.cell? ⟨b, off + k, none⟩ = some (.int .i64 (nth l k)))
theorem IntsAt.below {w w' : World} {v : Value} {l : List Int} {B : Nat} (h : IntsAt w v l) (hb : Below B w w') (hB : w.heap.size ≤ B) : IntsAt w' v l := by
  obtain ⟨oa, cap, rfl, hm, hr, hc⟩ := h
  refine ⟨oa, cap, rfl, hm, hr, fun h0 => ?_⟩
  obtain ⟨b, off, rfl, hb1, hc1⟩ := hc h0
  refine ⟨b, off, rfl, Nat.lt_of_lt_of_le hb1 hb.size, fun k hk => ?_⟩
  rw [← hc1 k hk]
  exact hb.cell (p := ⟨b, off + k, none⟩) (Nat.lt_of_lt_of_le hb1 hB)
theorem IntsAt.nil (w : World) (oa : Option Addr) (cap : Nat) : IntsAt w (.slice oa 0 cap) [] :=
  ⟨oa, cap, rfl, by simp, by simp, by simp⟩
theorem getD_in {l : List Int} (h : ∀ x ∈ l, In64 x) (k : Nat) : In64 (nth l k) := by
  by_cases hk : k < l.length
  · rw [nth_eq l k hk]; exact h _ (List.getElem_mem hk)
  · rw [nth, List.getElem?_eq_none (by omega)]; simp [In64]
theorem take_snoc' {α : Type} (l : List α) (k : Nat) (h : k < l.length) : l.take (k + 1) = l.take k ++ [l[k]] := by
  rw [List.take_succ_eq_append_getElem h]
/-- an owned row of integers reads as them -/
theorem IntsAt.of_owned {w : World} {base : Nat} {e : TypeId} {v : Value} {l : List Int} (h : w.ownsRow base e 1 v l.length (l.map (.int .i64))) (hr : ∀ x ∈ l, In64 x)
    (hm : l.length ≤ 9223372036854775807) : IntsAt w v l := by
  have hlt := h.lt
  have h2 := h.2
  rcases h2 with ⟨rfl, hn⟩ | ⟨g, cap, cur, rfl, hb, hg, hnc, hcm, hcs, htake⟩
  · have hn' := List.eq_nil_of_length_eq_zero hn
    subst hn'
    exact IntsAt.nil w none 0
  · refine ⟨_, cap, rfl, hm, hr, fun h0 => ⟨g, 0, rfl, (Array.getElem?_eq_some_iff.1 hg).1, fun k hk => ?_⟩⟩
    have := h.cellAt (g := g) (cap := cap) k (by omega)
    rw [Nat.zero_add, this, nth_eq l k hk]
    simp [hk]
theorem IntsAt.in64 {w : World} {v : Value} {l : List Int} (h : IntsAt w v l) : ∀ x ∈ l, In64 x := by
  obtain ⟨_, _, _, _, hr, _⟩ := h
  exact hr
theorem ownsRow_base {w : World} {B B' : Nat} {e : TypeId} {size : Nat} {v : Value} {n : Nat} {xs : List Value} (h : w.ownsRow B e size v n xs) (hB : B' ≤ B) : w.ownsRow B' e size v n xs := by
  obtain ⟨h1, h2⟩ := h
  refine ⟨h1, ?_⟩
  rcases h2 with h2 | ⟨g, cap, cur, hv, hg, r⟩
  · exact .inl h2
  · exact .inr ⟨g, cap, cur, hv, Nat.le_trans hB hg, r⟩
theorem ownsRow_below {w w' : World} {B : Nat} {base : Nat} {e : TypeId} {size : Nat} {v : Value} {n : Nat} {xs : List Value} (h : w.ownsRow base e size v n xs) (hb : Below B w w') (hB : w.heap.size ≤ B) : w'.ownsRow base e size v n xs := by
  obtain ⟨h1, h2⟩ := h
  refine ⟨h1, ?_⟩
  rcases h2 with h2 | ⟨g, cap, cur, hv, hg, hh, r⟩
  · exact .inl h2
  · refine .inr ⟨g, cap, cur, hv, hg, ?_, r⟩
    rw [hb.block g (Nat.lt_of_lt_of_le (Array.getElem?_eq_some_iff.1 hh).1 hB)]
    exact hh
theorem own_open {w : World} {base : Nat} {e : TypeId} {v : Value} {n : Nat} {xs : List Value} (h : w.ownsRow base e 1 v n xs) : ∃ oa cap, v = .slice oa n cap := by
  rcases h.2 with ⟨rfl, rfl⟩ | ⟨g, cap, cur, rfl, _⟩
  · exact ⟨_, _, rfl⟩
  · exact ⟨_, _, rfl⟩
theorem ret_str {a b : List UInt8} (h : a = b) : Ending.returned (.string ⟨a.toArray⟩) = .returned (.string ⟨b.toArray⟩) := by rw [h]
/-- a slice value reads as the strings l -/
def StrsAt (w : World) (v : Value) (l : List ByteArray) : Prop :=
  ∃ oa cap, v = .slice oa l.length cap ∧ l.length ≤ 9223372036854775807 ∧ (∀ x ∈ l, x.size ≤ 9223372036854775807) ∧
   (0 < l.length → ∃ b off, oa = some ⟨b, off, none⟩ ∧ b < w.heap.size ∧ ∀ k (hk : k < l.length), w.cell? ⟨b, off + k, none⟩ = some (.string l[k]))
theorem StrsAt.below {w w' : World} {v : Value} {l : List ByteArray} {B : Nat} (h : StrsAt w v l) (hb : Below B w w') (hB : w.heap.size ≤ B) : StrsAt w' v l := by
  obtain ⟨oa, cap, rfl, hm, hr, hc⟩ := h
  refine ⟨oa, cap, rfl, hm, hr, fun h0 => ?_⟩
  obtain ⟨b, off, rfl, hb1, hc1⟩ := hc h0
  refine ⟨b, off, rfl, Nat.lt_of_lt_of_le hb1 hb.size, fun k hk => ?_⟩
  rw [← hc1 k hk]
  exact hb.cell (p := ⟨b, off + k, none⟩) (Nat.lt_of_lt_of_le hb1 hB)
theorem IntsAt.at' {w : World} {oa : Option Addr} {n cap : Nat} {l : List Int} (h : IntsAt w (.slice oa n cap) l) {k : Nat} (hk : k < l.length) :
    n = l.length ∧ ∃ b off, oa = some ⟨b, off, none⟩ ∧ b < w.heap.size ∧ w.cell? ⟨b, off + k, none⟩ = some (.int .i64 (nth l k)) := by
  obtain ⟨oa', cap', hv, _, _, hc⟩ := h
  obtain ⟨rfl, rfl, rfl⟩ := Value.slice.inj hv
  obtain ⟨b, off, rfl, hb, hc⟩ := hc (by omega)
  exact ⟨rfl, b, off, rfl, hb, hc k hk⟩
theorem StrsAt.at' {w : World} {oa : Option Addr} {n cap : Nat} {l : List ByteArray} (h : StrsAt w (.slice oa n cap) l) {k : Nat} (hk : k < l.length) :
    n = l.length ∧ ∃ b off, oa = some ⟨b, off, none⟩ ∧ b < w.heap.size ∧ w.cell? ⟨b, off + k, none⟩ = some (.string l[k]) := by
  obtain ⟨oa', cap', hv, _, _, hc⟩ := h
  obtain ⟨rfl, rfl, rfl⟩ := Value.slice.inj hv
  obtain ⟨b, off, rfl, hb, hc⟩ := hc (by omega)
  exact ⟨rfl, b, off, rfl, hb, hc k hk⟩
theorem grownBy_setCell {w wr : World} {g : Nat} (h : w.grownBy wr (some g)) {a : Addr} (ha : a.block = g) (u : Value) : w.grownBy (wr.setCell a u) (some g) := by
  refine ⟨h.os, h.tape, h.output, by rw [World.size_setCell]; exact h.size, fun k hk hne => ?_⟩
  rw [Below.heap_setCell _ _ _ _ (by intro e; subst e; rw [ha] at hne; exact hne rfl)]
  exact h.block k hk hne
theorem grownBy_refl (w : World) (g : Option Nat) : w.grownBy w g := ⟨rfl, rfl, rfl, Nat.le_refl _, fun _ _ _ => rfl⟩
theorem grownBy_trans {w1 w2 w3 : World} {g : Option Nat} (h : w1.grownBy w2 g) (h2 : w2.grownBy w3 g) : w1.grownBy w3 g :=
  ⟨h2.os.trans h.os, h2.tape.trans h.tape, h2.output.trans h.output, Nat.le_trans h.size h2.size, fun k hk hne => (h2.block k (Nat.lt_of_lt_of_le hk h.size) hne).trans (h.block k hk hne)⟩
theorem grownBy_below {w w' : World} {b B : Nat} (h : w.grownBy w' (some b)) (hb : B ≤ b) (hB : B ≤ w.heap.size) : Below B w w' :=
  ⟨h.os, h.tape, h.output, h.size, fun k hk => h.block k (by omega) (by intro e; simp at e; omega)⟩
theorem below_grown {w w' : World} {K : Nat} (h : Below K w w') (hK : w.heap.size ≤ K) (g : Option Nat) : w.grownBy w' g :=
  ⟨h.os, h.tape, h.output, h.size, fun k hk _ => h.block k (by omega)⟩
theorem grownBy_drew {w w' : World} {g : Option Nat} (h : w.grownBy w' g) : w.grownBy w'.drew g := ⟨h.os, h.tape, h.output, h.size, h.block⟩
theorem grownBy_drewN {w w' : World} {g : Option Nat} (h : w.grownBy w' g) (n : Nat) : w.grownBy (w'.drewN n) g := ⟨h.os, h.tape, h.output, h.size, h.block⟩
theorem grownBy_below_trans {w wr w2 : World} {g : Option Nat} {B : Nat} (h : w.grownBy wr g) (h2 : Below B wr w2) (hB : w.heap.size ≤ B) : w.grownBy w2 g :=
  ⟨h2.os.trans h.os, h2.tape.trans h.tape, h2.output.trans h.output, Nat.le_trans h.size h2.size, fun k hk hne => (h2.block k (by omega)).trans (h.block k hk hne)⟩
theorem ownsRow_grown {w w' : World} {b : Nat} {base : Nat} {e : TypeId} {size : Nat} {v : Value} {n : Nat} {xs : List Value} (h : w.ownsRow base e size v n xs) (hg : w.grownBy w' (some b)) (hb : b < base) : w'.ownsRow base e size v n xs := by
  obtain ⟨h1, h2⟩ := h
  refine ⟨h1, ?_⟩
  rcases h2 with h2 | ⟨g, cap, cur, hv, hg1, hh, r⟩
  · exact .inl h2
  · refine .inr ⟨g, cap, cur, hv, hg1, ?_, r⟩
    rw [hg.block g (Array.getElem?_eq_some_iff.1 hh).1 (by intro e; simp at e; omega)]
    exact hh
theorem below_drewN {w w' : World} {B : Nat} (h : Below B w w') (n : Nat) : Below B w (w'.drewN n) := ⟨h.os, h.tape, h.output, h.size, h.block⟩
theorem take_eq_succ {α : Type} {a b : List α} {k : Nat} (ha : k < a.length) (hb : k < b.length) (h : a.take k = b.take k) (e : a[k] = b[k]) : a.take (k + 1) = b.take (k + 1) := by
  rw [take_snoc' a k ha, take_snoc' b k hb, h, e]
theorem ne_of_at {α : Type} {a b : List α} {k : Nat} (ha : k < a.length) (hb : k < b.length) (e : a[k] ≠ b[k]) : a ≠ b := fun h => e (by subst h; rfl)
theorem bytes_eq {a b : ByteArray} : (a.toList == b.toList) = decide (a = b) := by
  rw [ByteArray.toList_eq, ByteArray.toList_eq]
  by_cases h : a = b
  · simp [h]
  · simp only [h, decide_false]
    rw [beq_eq_false_iff_ne]
    intro e
    apply h
    apply ByteArray.ext
    exact Array.toList_inj.1 e
theorem len_data (s : ByteArray) : s.data.toList.length = s.size := by rw [Array.length_toList]; rfl
theorem str_size (l : List UInt8) : (ByteArray.mk l.toArray).size = l.length := by simp [ByteArray.size]
theorem tail_extract (x : UInt8) (s : List UInt8) : (ByteArray.mk (x :: s).toArray).extract 1 (s.length + 1) = ⟨s.toArray⟩ := by
  apply ByteArray.ext
  simp [ByteArray.data_extract]
@[go_sem] theorem ba_get (l : List UInt8) (j : Nat) (h : j < (ByteArray.mk l.toArray).size) : (ByteArray.mk l.toArray)[j]'h = l[j]'(by rw [str_size] at h; exact h) := rfl
theorem drop_extract (t : List UInt8) (k : Nat) : (ByteArray.mk t.toArray).extract k t.length = ⟨(t.drop k).toArray⟩ := by
  apply ByteArray.ext
  simp [ByteArray.data_extract]
  rw [List.take_of_length_le (by simp)]
theorem take1_extract (c : UInt8) (t : List UInt8) (k : Nat) : (ByteArray.mk (c :: t).toArray).extract 0 (k + 1) = ⟨(c :: t.take k).toArray⟩ := by
  apply ByteArray.ext
  simp [ByteArray.data_extract]
theorem ret_u64 {a b : Int} (h : a = b) : Value.int .u64 a = .int .u64 b := by rw [h]
theorem ret_i64 {a b : Int} (h : a = b) : Value.int .i64 a = .int .i64 b := by rw [h]
theorem drop1 {s : List UInt8} {k : Nat} (h : k < s.length) : s.drop k = s[k] :: s.drop (k + 1) := by
  rw [List.drop_eq_getElem_cons (by omega)]
theorem drop2 {s : List UInt8} {k : Nat} (h : k + 1 < s.length) : s.drop k = s[k] :: s[k + 1] :: s.drop (k + 2) := by
  rw [List.drop_eq_getElem_cons (by omega), List.drop_eq_getElem_cons (by omega)]
theorem u8_ne {x c : UInt8} (h : x ≠ c) : ((x.toNat : Int) == (c.toNat : Int)) = false ∧ ((x.toNat : Int) != (c.toNat : Int)) = true := by
  have h2 : x.toNat ≠ c.toNat := fun e => h (UInt8.toNat_inj.1 e)
  constructor
  · simp; omega
  · simp; omega
def strV (l : List UInt8) : Value := .string ⟨l.toArray⟩
def bytesOf (l : List UInt8) : ByteArray := ⟨l.toArray⟩
theorem StrsAt.of_owned {w : World} {base : Nat} {e : TypeId} {v : Value} {l : List (List UInt8)} (h : w.ownsRow base e 1 v l.length (l.map strV)) (hr : ∀ x ∈ l, x.length ≤ 9223372036854775807)
    (hm : l.length ≤ 9223372036854775807) : StrsAt w v (l.map bytesOf) := by
  have hlt := h.lt
  have h2 := h.2
  rcases h2 with ⟨rfl, hn⟩ | ⟨g, cap, cur, rfl, hb, hg, hnc, hcm, hcs, htake⟩
  · have hn' := List.eq_nil_of_length_eq_zero hn
    subst hn'
    exact ⟨none, 0, rfl, by simp, by simp, by simp⟩
  · refine ⟨_, cap, by simp, by simpa using hm, ?_, fun h0 => ⟨g, 0, rfl, (Array.getElem?_eq_some_iff.1 hg).1, fun k hk => ?_⟩⟩
    · intro x hx
      simp only [List.mem_map] at hx
      obtain ⟨y, hy, rfl⟩ := hx
      have := hr y hy
      simpa [bytesOf, ByteArray.size] using this
    · simp only [List.length_map] at hk
      have := h.cellAt (g := g) (cap := cap) k (by omega)
      rw [Nat.zero_add, this]
      simp [hk, strV, bytesOf]
/-- a slice value reads as the bytes l -/
def U8sAt (w : World) (v : Value) (l : List UInt8) : Prop :=
  ∃ oa cap, v = .slice oa l.length cap ∧ l.length ≤ 9223372036854775807 ∧
   (0 < l.length → ∃ b off, oa = some ⟨b, off, none⟩ ∧ b < w.heap.size ∧ ∀ k (hk : k < l.length), w.cell? ⟨b, off + k, none⟩ = some (.int .u8 (l[k].toNat : Int)))
theorem U8sAt.below {w w' : World} {v : Value} {l : List UInt8} {B : Nat} (h : U8sAt w v l) (hb : Below B w w') (hB : w.heap.size ≤ B) : U8sAt w' v l := by
  obtain ⟨oa, cap, rfl, hm, hc⟩ := h
  refine ⟨oa, cap, rfl, hm, fun h0 => ?_⟩
  obtain ⟨b, off, rfl, hb1, hc1⟩ := hc h0
  refine ⟨b, off, rfl, Nat.lt_of_lt_of_le hb1 hb.size, fun k hk => ?_⟩
  rw [← hc1 k hk]
  exact hb.cell (p := ⟨b, off + k, none⟩) (Nat.lt_of_lt_of_le hb1 hB)
theorem U8sAt.at' {w : World} {oa : Option Addr} {n cap : Nat} {l : List UInt8} (h : U8sAt w (.slice oa n cap) l) {k : Nat} (hk : k < l.length) :
    n = l.length ∧ ∃ b off, oa = some ⟨b, off, none⟩ ∧ b < w.heap.size ∧ w.cell? ⟨b, off + k, none⟩ = some (.int .u8 (l[k].toNat : Int)) := by
  obtain ⟨oa', cap', hv, _, hc⟩ := h
  obtain ⟨rfl, rfl, rfl⟩ := Value.slice.inj hv
  obtain ⟨b, off, rfl, hb, hc⟩ := hc (by omega)
  exact ⟨rfl, b, off, rfl, hb, hc k hk⟩
/-- the result is true only if P -/
def BoolIf (P : Prop) (w : World) (e : Ending) (w' : World) : Prop := ∃ b, e = .returned (.bool b) ∧ (b = true → P) ∧ w = w'
/-- a bool that says whether P -/
def BoolIff (P : Prop) (w : World) (e : Ending) (w' : World) : Prop := ∃ b : Bool, e = .returned (.bool b) ∧ (b = true ↔ P) ∧ w = w'
theorem quiet_after {P : Program} {f : FuncId} {args : Array Value} {w : World} {a n : Nat} {v : Value}
    (h : Calls P f args (w.drewN (a + n)) fun e w' => e = .returned v ∧ w.drewN (a + n) = w') :
    Calls P f args (w.drewN (a + n)) fun e w'' => e = .returned v ∧ ∃ m, w'' = w.drewN (a + m) :=
  h.mono fun _ _ ⟨he, hm⟩ => ⟨he, n, hm.symm⟩
theorem quiet_first {P : Program} {f : FuncId} {args : Array Value} {w : World} {n : Nat} {v : Value}
    (h : Calls P f args (w.drewN n) fun e w' => e = .returned v ∧ w.drewN n = w') : Calls P f args (w.drewN n) fun e w'' => e = .returned v ∧ ∃ m, w'' = w.drewN m :=
  h.mono fun _ _ ⟨he, hm⟩ => ⟨he, n, hm.symm⟩
theorem drop_cons' {α : Type} (l : List α) (i : Nat) (h : i < l.length) : l.drop i = l[i] :: l.drop (i + 1) := by rw [List.drop_eq_getElem_cons h]
theorem block_drewN {w : World} {b n : Nat} {o : Obj} (h : w.heap[b]? = some o) : (w.drewN n).heap[b]? = some o := h
theorem block_below {w w' : World} {b B : Nat} {o : Obj} (h : w.heap[b]? = some o) (hb : Below B w w') (hB : b < B) : w'.heap[b]? = some o := by rw [hb.block b hB]; exact h
theorem head_extract (s : ByteArray) (k : Nat) (h : k ≤ s.size) : (s.extract 0 k).toList = s.data.toList.take k := by
  rw [ByteArray.toList_eq, ByteArray.data_extract]
  simp
theorem cat_run (a b : List UInt8) (h : a.length + b.length ≤ 9223372036854775807) (w : World) : (Op.stringOp .add ⟨a.toArray⟩ ⟨b.toArray⟩).run Tryd.prog w = .ok (.string ⟨(a ++ b).toArray⟩) w := by
  rw [run_string_add_sum (P := Tryd.prog) (w := w) ⟨a.toArray⟩ ⟨b.toArray⟩ (by rw [str_size, str_size]; exact h)]
  have e : (ByteArray.mk a.toArray) ++ (ByteArray.mk b.toArray) = ⟨(a ++ b).toArray⟩ := by apply ByteArray.ext; simp
  rw [e]
theorem info5 : (Tryd.prog.info? 5).map (fun i => (i.zero, i.size, i.bytes)) = some (some (.int .u8 0), 1, 1) := by kernel_rfl
/-- append of one byte to an owned row of bytes -/
theorem append_byte {ops : Array Oper} {rest : List Oper} {o : Oper} {a : Act} {Q : Exit → Act → World → Prop} {w : World} (hgd : o.guard = none) (s x : Operand)
    (ho : o.op = .call { callee := .builtin .append, args := #[s, x], argTypes := #[51, 51] }) (base : Nat) (v : Value) (n : Nat) (xs : List Value) (hs : a.eval s = v) (hown : w.ownsRow base 5 1 v n xs)
    (b : Nat) (y : Int) (hx : a.eval x = .slice (some ⟨b, 0, none⟩) 1 1) (hc : w.cell? ⟨b, 0, none⟩ = some (.int .u8 y)) (hn : n + 1 ≤ 17592186044416) (hbase : base ≤ w.heap.size)
    (h : ∀ v' w', w'.ownsRow base 5 1 v' (n + 1) (xs ++ [.int .u8 y]) → w.grownBy w' v.ownBlock → Below base w w' → wpList Tryd.prog ops Q rest (a.put o.dst v') w') : wpList Tryd.prog ops Q (o :: rest) a w := by
  obtain ⟨i0, hi, hz0, hz1, hz2⟩ := info_parts info5
  refine wpList_append_own w hgd s x 51 ho base 5 i0 (.int .u8 0) 1 1 Tryd.underlying51 hi hz0 hz1 hz2 rfl (by decide) v n xs hs hown ⟨b, 0, none⟩ 1 1 [.int .u8 y] hx rfl ?_ ?_ ?_ ?_ hbase ?_
  · intro j u hu
    cases j with
    | zero => simp at hu; subst hu; simpa [Addr.add] using hc
    | succ j => simp at hu
  · intro u hu; simp at hu; subst hu; rfl
  · unfold maxLen; omega
  · omega
  · intro v' w' h1 h2 _
    refine h v' w' h1 h2 ⟨h2.os, h2.tape, h2.output, h2.size, fun k hk => h2.block k (by omega) (fun e => ?_)⟩
    have := (hown.lt k e.symm).1
    omega
/-- string(b) of an owned row of bytes -/
theorem own_string {w : World} {base : Nat} {v : Value} {n : Nat} {l : List UInt8} (h : w.ownsRow base 5 1 v n (Lib.byteCells l)) : (convert 51 9 v).run Tryd.prog w = .ok (.string ⟨l.toArray⟩) w := by
  have hl := h.1
  rw [Lib.byteCells_length, Nat.mul_one] at hl
  rcases h.2 with ⟨rfl, hn⟩ | ⟨g, cap, cur, rfl, hb, hg, hnc, hcm, hcs, htake⟩
  · have : l = [] := List.eq_nil_of_length_eq_zero (by omega)
    subst this
    exact run_convert_bytes_nil w 51 5 Tryd.underlying51 Tryd.underlying5 0 0 9 Tryd.underlying9
  · subst hl
    refine run_convert_bytes_back w 51 9 5 ⟨g, 0, none⟩ cap l Tryd.underlying51 Tryd.underlying5 Tryd.underlying9 ?_
    intro j hj
    rw [show (⟨g, 0, none⟩ : Addr).add j = ⟨g, j, none⟩ by simp [Addr.add]; intro e; exact e.symm, h.cellAt j (by omega)]
    simp [Lib.byteCells, List.getElem?_eq_getElem hj]
/-- append of an owned row of bytes to another one -/
theorem append_bytes {ops : Array Oper} {rest : List Oper} {o : Oper} {a : Act} {Q : Exit → Act → World → Prop} {w : World} (hgd : o.guard = none) (s x : Operand)
    (ho : o.op = .call { callee := .builtin .append, args := #[s, x], argTypes := #[51, 51] }) (base : Nat) (v : Value) (n : Nat) (xs : List Value) (hs : a.eval s = v) (hown : w.ownsRow base 5 1 v n xs)
    (base2 : Nat) (u : Value) (k : Nat) (l : List UInt8) (hx : a.eval x = u) (hu : w.ownsRow base2 5 1 u k (Lib.byteCells l)) (hn : n + k ≤ 17592186044416) (hbase : base ≤ w.heap.size)
    (h : ∀ v' w', w'.ownsRow base 5 1 v' (n + k) (xs ++ Lib.byteCells l) → w.grownBy w' v.ownBlock → Below base w w' → wpList Tryd.prog ops Q rest (a.put o.dst v') w') : wpList Tryd.prog ops Q (o :: rest) a w := by
  obtain ⟨i0, hi, hz0, hz1, hz2⟩ := info_parts info5
  rcases hu.2 with ⟨rfl, hk⟩ | ⟨g, cap, cur, rfl, hb, hg, hnc, hcm, hcs, htake⟩
  · have hl : l = [] := by
      have := hu.1
      rw [Lib.byteCells_length] at this
      exact List.eq_nil_of_length_eq_zero (by omega)
    subst hl hk
    refine wpList_append_own_none hgd s x 51 ho base 5 i0 1 Tryd.underlying51 hi v n xs hs hown hx (h v w (by simpa [Lib.byteCells] using hown) ?_ (Below.refl _ _))
    exact ⟨rfl, rfl, rfl, Nat.le_refl _, fun _ _ _ => rfl⟩
  · refine wpList_append_own w hgd s x 51 ho base 5 i0 (.int .u8 0) 1 1 Tryd.underlying51 hi hz0 hz1 hz2 rfl (by decide) v n xs hs hown ⟨g, 0, none⟩ k cap (Lib.byteCells l) hx hu.1 ?_ ?_ ?_ ?_ hbase ?_
    · intro j u hj
      have hlt := (List.getElem?_eq_some_iff.1 hj).1
      have h2 := hu.1
      rw [show (⟨g, 0, none⟩ : Addr).add j = ⟨g, j, none⟩ by simp [Addr.add]; intro e; exact e.symm, hu.cellAt j (by omega)]
      exact hj
    · intro u hu; simp [Lib.byteCells] at hu; obtain ⟨y, _, rfl⟩ := hu; rfl
    · unfold maxLen; omega
    · omega
    · intro v' w' h1 h2 _
      refine h v' w' h1 h2 ⟨h2.os, h2.tape, h2.output, h2.size, fun k hk => h2.block k (by omega) (fun e => ?_)⟩
      have := (hown.lt k e.symm).1
      omega
theorem own_byte {w : World} {base : Nat} {oa : Option Addr} {n cap : Nat} {l : List UInt8} (h : w.ownsRow base 5 1 (.slice oa n cap) n (Lib.byteCells l)) {j : Nat} {x : UInt8} (hj : l[j]? = some x) :
    ∃ g, oa = some ⟨g, 0, none⟩ ∧ base ≤ g ∧ g < w.heap.size ∧ w.cell? ⟨g, j, none⟩ = some (.int .u8 (x.toNat : Int)) := by
  have hlen := h.1
  rw [Lib.byteCells_length] at hlen
  have hjl := (List.getElem?_eq_some_iff.1 hj).1
  rcases h.2 with ⟨hv, hn⟩ | ⟨g, cap', cur, hv, hb, hg, hnc, hcm, hcs, htake⟩
  · omega
  · simp only [Value.slice.injEq] at hv
    obtain ⟨rfl, _, rfl⟩ := hv
    refine ⟨g, rfl, hb, (Array.getElem?_eq_some_iff.1 hg).1, ?_⟩
    rw [h.cellAt j (by omega)]
    simp [Lib.byteCells, hj]
theorem info3 : (Tryd.prog.info? 3).map (fun i => (i.zero, i.size, i.bytes)) = some (some (.int .i64 0), 1, 8) := by kernel_rfl
/-- append of one int to an owned row of ints -/
theorem append_int {ops : Array Oper} {rest : List Oper} {o : Oper} {a : Act} {Q : Exit → Act → World → Prop} {w : World} (hgd : o.guard = none) (s x : Operand)
    (ho : o.op = .call { callee := .builtin .append, args := #[s, x], argTypes := #[79, 79] }) (base : Nat) (v : Value) (n : Nat) (xs : List Value) (hs : a.eval s = v) (hown : w.ownsRow base 3 1 v n xs)
    (b : Nat) (y : Int) (hx : a.eval x = .slice (some ⟨b, 0, none⟩) 1 1) (hc : w.cell? ⟨b, 0, none⟩ = some (.int .i64 y)) (hn : n + 1 ≤ 1000000000) (hbase : base ≤ w.heap.size)
    (h : ∀ v' w', w'.ownsRow base 3 1 v' (n + 1) (xs ++ [.int .i64 y]) → w.grownBy w' v.ownBlock → Below base w w' → wpList Tryd.prog ops Q rest (a.put o.dst v') w') : wpList Tryd.prog ops Q (o :: rest) a w := by
  obtain ⟨i0, hi, hz0, hz1, hz2⟩ := info_parts info3
  refine wpList_append_own w hgd s x 79 ho base 3 i0 (.int .i64 0) 1 8 Tryd.underlying79 hi hz0 hz1 hz2 rfl (by decide) v n xs hs hown ⟨b, 0, none⟩ 1 1 [.int .i64 y] hx rfl ?_ ?_ ?_ ?_ hbase ?_
  · intro j u hu
    cases j with
    | zero => simp at hu; subst hu; simpa [Addr.add] using hc
    | succ j => simp at hu
  · intro u hu; simp at hu; subst hu; rfl
  · unfold maxLen; omega
  · omega
  · intro v' w' h1 h2 _
    refine h v' w' h1 h2 ⟨h2.os, h2.tape, h2.output, h2.size, fun k hk => h2.block k (by omega) (fun e => ?_)⟩
    have := (hown.lt k e.symm).1
    omega
theorem info9 : (Tryd.prog.info? 9).map (fun i => (i.zero, i.size, i.bytes)) = some (some (.string ⟨#[]⟩), 1, 16) := by kernel_rfl
/-- append of one string to an owned row of strings -/
theorem append_str {ops : Array Oper} {rest : List Oper} {o : Oper} {a : Act} {Q : Exit → Act → World → Prop} {w : World} (hgd : o.guard = none) (s x : Operand)
    (ho : o.op = .call { callee := .builtin .append, args := #[s, x], argTypes := #[49, 49] }) (base : Nat) (v : Value) (n : Nat) (xs : List Value) (hs : a.eval s = v) (hown : w.ownsRow base 9 1 v n xs)
    (b : Nat) (y : ByteArray) (hx : a.eval x = .slice (some ⟨b, 0, none⟩) 1 1) (hc : w.cell? ⟨b, 0, none⟩ = some (.string y)) (hn : n + 1 ≤ 1000000000) (hbase : base ≤ w.heap.size)
    (h : ∀ v' w', w'.ownsRow base 9 1 v' (n + 1) (xs ++ [.string y]) → w.grownBy w' v.ownBlock → Below base w w' → wpList Tryd.prog ops Q rest (a.put o.dst v') w') : wpList Tryd.prog ops Q (o :: rest) a w := by
  obtain ⟨i0, hi, hz0, hz1, hz2⟩ := info_parts info9
  refine wpList_append_own w hgd s x 49 ho base 9 i0 (.string ⟨#[]⟩) 1 16 Tryd.underlying49 hi hz0 hz1 hz2 rfl (by decide) v n xs hs hown ⟨b, 0, none⟩ 1 1 [.string y] hx rfl ?_ ?_ ?_ ?_ hbase ?_
  · intro j u hu
    cases j with
    | zero => simp at hu; subst hu; simpa [Addr.add] using hc
    | succ j => simp at hu
  · intro u hu; simp at hu; subst hu; rfl
  · unfold maxLen; omega
  · omega
  · intro v' w' h1 h2 _
    refine h v' w' h1 h2 ⟨h2.os, h2.tape, h2.output, h2.size, fun k hk => h2.block k (by omega) (fun e => ?_)⟩
    have := (hown.lt k e.symm).1
    omega
end Go.Proofs.YtjbpjmdnmnbonaaDoor
