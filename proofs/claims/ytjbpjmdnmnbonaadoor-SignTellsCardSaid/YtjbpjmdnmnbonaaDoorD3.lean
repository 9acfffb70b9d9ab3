/- The walk of digest's compress. -/
import Derived.Test.YtjbpjmdnmnbonaaDoorD2
set_option linter.unusedSimpArgs false
set_option linter.unusedVariables false
namespace Go.Proofs.YtjbpjmdnmnbonaaDoor
open Go.RowKit

/-- the initial state -/
def firstS : List Nat := [1779033703, 3144134277, 1013904242, 2773480762, 1359893119, 2600822924, 528734635, 1541459225]
/-- the permutation of a round -/
def orderS : Nat → List Nat
  | 0 => [0, 1, 2, 3, 4, 5, 6, 7, 8, 9, 10, 11, 12, 13, 14, 15]
  | 1 => [14, 10, 4, 8, 9, 15, 13, 6, 1, 12, 0, 2, 11, 7, 5, 3]
  | 2 => [11, 8, 12, 0, 5, 2, 15, 13, 10, 14, 3, 6, 7, 1, 9, 4]
  | 3 => [7, 9, 3, 1, 13, 12, 11, 14, 2, 6, 5, 10, 4, 0, 15, 8]
  | 4 => [9, 0, 5, 7, 2, 4, 10, 15, 14, 1, 11, 12, 6, 8, 3, 13]
  | 5 => [2, 12, 6, 10, 0, 11, 8, 3, 4, 13, 7, 5, 15, 14, 1, 9]
  | 6 => [12, 5, 1, 15, 14, 13, 4, 10, 0, 7, 6, 3, 9, 2, 8, 11]
  | 7 => [13, 11, 7, 14, 12, 1, 3, 9, 5, 0, 15, 4, 8, 6, 2, 10]
  | 8 => [6, 15, 14, 9, 11, 3, 0, 8, 12, 2, 13, 7, 1, 4, 10, 5]
  | _ => [10, 2, 8, 4, 7, 6, 1, 5, 15, 11, 9, 14, 3, 12, 13, 0]
def u8c (v : List Nat) : Array Value := (v.map fun n : Nat => Value.int .u8 (n : Int)).toArray
def ordersC : List Value := (List.range 10).flatMap fun r => (orderS r).map fun n : Nat => Value.int .u8 (n : Int)
/-- what the package-level variables of digest hold -/
def DigestAt (w : World) : Prop := 3 < w.heap.size ∧ (∀ k, k < 8 → w.cell? ⟨2, k, none⟩ = some (.int .u32 (nt firstS k : Nat))) ∧ (∀ j v, ordersC[j]? = some v → w.cell? ⟨3, j, none⟩ = some v)
theorem DigestAt.below {w w' : World} {B : Nat} (h : DigestAt w) (hb : Below B w w') (hB : 3 < B) : DigestAt w' := by
  obtain ⟨h1, h2, h3⟩ := h
  refine ⟨Nat.lt_of_lt_of_le h1 hb.size, fun k hk => ?_, fun j v hv => ?_⟩
  · rw [← h2 k hk]; exact hb.cell (p := ⟨2, k, none⟩) (show 2 < B by omega)
  · rw [← h3 j v hv]; exact hb.cell (p := ⟨3, j, none⟩) (show 3 < B by omega)

def colK (m z v : List Nat) : Nat → List Nat
  | 0 => v
  | i + 1 => mixS (colK m z v i) i (4 + i) (8 + i) (12 + i) (nt m (nt z (2 * i))) (nt m (nt z (2 * i + 1)))
def diaK (m z v : List Nat) : Nat → List Nat
  | 0 => v
  | i + 1 => mixS (diaK m z v i) i (4 + (i + 1) % 4) (8 + (i + 2) % 4) (12 + (i + 3) % 4) (nt m (nt z (8 + 2 * i))) (nt m (nt z (9 + 2 * i)))
def roundsK (m v : List Nat) : Nat → List Nat
  | 0 => v
  | r + 1 => diaK m (orderS r) (colK m (orderS r) (roundsK m v r) 4) 4
theorem colK_len (m z v : List Nat) (i : Nat) : (colK m z v i).length = v.length := by
  induction i with
  | zero => rfl
  | succ i ih => rw [colK, mixS_len, ih]
theorem diaK_len (m z v : List Nat) (i : Nat) : (diaK m z v i).length = v.length := by
  induction i with
  | zero => rfl
  | succ i ih => rw [diaK, mixS_len, ih]
theorem roundsK_len (m v : List Nat) (i : Nat) : (roundsK m v i).length = v.length := by
  induction i with
  | zero => rfl
  | succ i ih => rw [roundsK, diaK_len, colK_len, ih]
theorem colK_m (m z v : List Nat) (i : Nat) (h : M32 v) : M32 (colK m z v i) := by
  induction i with
  | zero => exact h
  | succ i ih => exact mixS_m _ _ _ _ _ _ _ ih
theorem diaK_m (m z v : List Nat) (i : Nat) (h : M32 v) : M32 (diaK m z v i) := by
  induction i with
  | zero => exact h
  | succ i ih => exact mixS_m _ _ _ _ _ _ _ ih
theorem roundsK_m (m v : List Nat) (i : Nat) (h : M32 v) : M32 (roundsK m v i) := by
  induction i with
  | zero => exact h
  | succ i ih => exact diaK_m _ _ _ _ (colK_m _ _ _ _ ih)
def v12S (h : List Nat) (n : Nat) : List Nat := (h ++ firstS).set 12 (nt (h ++ firstS) 12 ^^^ n % 4294967296)
def v13S (h : List Nat) (n : Nat) : List Nat := (v12S h n).set 13 (nt (v12S h n) 13 ^^^ n / 4294967296 % 4294967296)
def startS (h : List Nat) (n : Nat) (last : Bool) : List Nat := if last then (v13S h n).set 14 (4294967295 - nt (v13S h n) 14) else v13S h n
def outK (h v : List Nat) : Nat → List Nat
  | 0 => h
  | i + 1 => (outK h v i).set i (nt (outK h v i) i ^^^ (nt v i ^^^ nt v (i + 8)))
def compS (h m : List Nat) (n : Nat) (last : Bool) : List Nat := outK h (roundsK m (startS h n last) 10) 8
theorem nt_app (a b : List Nat) (k : Nat) : nt (a ++ b) k = if k < a.length then nt a k else nt b (k - a.length) := by
  unfold nt; rw [List.getElem?_append]; split <;> rfl
theorem firstS_m : M32 firstS := by
  intro k
  by_cases h : k < 8
  · have : ∀ k : Fin 8, nt firstS k.val < 4294967296 := by decide
    exact this ⟨k, h⟩
  · unfold nt; rw [List.getElem?_eq_none (by simp [firstS]; omega)]; decide
theorem app_m {a b : List Nat} (ha : M32 a) (hb : M32 b) : M32 (a ++ b) := by
  intro k; rw [nt_app]; split; exact ha k; exact hb _
theorem v12S_m (h : List Nat) (n : Nat) (hm : M32 h) : M32 (v12S h n) := (app_m hm firstS_m).set (xor_lt32 (app_m hm firstS_m _) (Nat.mod_lt _ (by omega)))
theorem v13S_m (h : List Nat) (n : Nat) (hm : M32 h) : M32 (v13S h n) := (v12S_m h n hm).set (xor_lt32 (v12S_m h n hm _) (Nat.mod_lt _ (by omega)))
theorem startS_m (h : List Nat) (n : Nat) (last : Bool) (hm : M32 h) : M32 (startS h n last) := by
  unfold startS; split
  · exact (v13S_m h n hm).set (by omega)
  · exact v13S_m h n hm
theorem v12S_len (h : List Nat) (n : Nat) (hl : h.length = 8) : (v12S h n).length = 16 := by simp [v12S, hl, firstS]
theorem v13S_len (h : List Nat) (n : Nat) (hl : h.length = 8) : (v13S h n).length = 16 := by rw [v13S, List.length_set, v12S_len h n hl]
theorem startS_len (h : List Nat) (n : Nat) (last : Bool) (hl : h.length = 8) : (startS h n last).length = 16 := by
  unfold startS; split
  · rw [List.length_set, v13S_len h n hl]
  · exact v13S_len h n hl
theorem outK_len (h v : List Nat) (i : Nat) : (outK h v i).length = h.length := by
  induction i with
  | zero => rfl
  | succ i ih => rw [outK, List.length_set, ih]
theorem outK_m (h v : List Nat) (i : Nat) (hh : M32 h) (hv : M32 v) : M32 (outK h v i) := by
  induction i with
  | zero => exact hh
  | succ i ih => exact ih.set (xor_lt32 (ih _) (xor_lt32 (hv _) (hv _)))
theorem compS_len (h m : List Nat) (n : Nat) (last : Bool) : (compS h m n last).length = h.length := outK_len _ _ _
theorem compS_m (h m : List Nat) (n : Nat) (last : Bool) (hm : M32 h) : M32 (compS h m n last) := outK_m _ _ _ hm (roundsK_m _ _ _ (startS_m _ _ _ hm))
theorem und93 : Tryd.prog.underlying 58 = some (.slice 60) := by kernel_rfl
theorem sz59 : (Tryd.prog.info? 60).map (·.size) = some 1 := by kernel_rfl
theorem und95 : Tryd.prog.underlying 91 = some (.array 10 90) := by kernel_rfl
theorem und94 : Tryd.prog.underlying 90 = some (.array 16 5) := by kernel_rfl
theorem sz94 : (Tryd.prog.info? 90).map (·.size) = some 16 := by kernel_rfl
theorem sz95 : (Tryd.prog.info? 91).map (·.size) = some 160 := by kernel_rfl
theorem not32 (a : Nat) (h : a < 4294967296) : bits .xor .u32 IntKind.u32.max (a : Int) = ((4294967295 - a : Nat) : Int) := by
  have hx : IntKind.u32.max = ((4294967295 : Nat) : Int) := rfl
  rw [hx, u32_xor_nat _ _ (by omega) h]
  have h2 : a < 2 ^ 32 := by omega
  have e : a = (BitVec.ofNat 32 a).toNat := by simp; omega
  have e2 : (4294967295 : Nat) = (BitVec.allOnes 32).toNat := by simp
  have : (4294967295 ^^^ a : Nat) = 4294967295 - a := by
    conv => lhs; rw [e2, e, ← BitVec.toNat_xor, BitVec.allOnes_xor]
    rw [BitVec.toNat_not]; simp; omega
  rw [this]

def cells32 (v : List Nat) : List Value := v.map fun n : Nat => Value.int .u32 (n : Int)
theorem Arr.rows {w : World} {g : Nat} {t : TypeId} {v : List Nat} (h : Arr w g t v) : w.heap[g]? = some (.cells (cells32 v).toArray t (0, 0)) := h
theorem cells32_len (v : List Nat) : (cells32 v).length = v.length := by simp [cells32]
theorem Arr.splice {w : World} {g : Nat} {t : TypeId} {L : List Nat} {off : Nat} {cs v : List Nat} (h : Hid (w.heap[g]? = some (.cells (splice (cells32 L) off (cells32 cs)).toArray t (0, 0)))) (hv : L.take off ++ cs ++ L.drop (off + cs.length) = v) : Arr w g t v := by
  have e : Go.splice (cells32 L) off (cells32 cs) = cells32 v := by
    rw [← hv]; simp [Go.splice, cells32]
  unfold Arr u32c
  change _ = some (Obj.cells (cells32 v).toArray t (0, 0))
  rw [← e]; exact h.out
theorem u32_one (v : List Nat) : ∀ x ∈ cells32 v, x.oneCell' = true := by
  intro x hx
  simp [cells32] at hx
  obtain ⟨n, _, rfl⟩ := hx
  rfl
theorem u32_at {v : List Nat} {j : Nat} {x : Value} (h : (cells32 v)[j]? = some x) : j < v.length ∧ x = .int .u32 (nt v j : Nat) := by
  unfold cells32 at h
  rw [List.getElem?_map] at h
  cases hv : v[j]? with
  | none => simp [hv] at h
  | some y =>
    simp [hv] at h
    exact ⟨(List.getElem?_eq_some_iff.1 hv).1, by rw [← h, nt, hv]; rfl⟩
theorem addr_add (b j : Nat) : (⟨b, 0, none⟩ : Addr).add j = ⟨b, j, none⟩ := by
  unfold Addr.add; split <;> simp_all

theorem run_loadVar_cells {P : Program} (w : World) (a : Addr) (ty : TypeId) (cs : List Value) (d : TypeDesc) (hc : ∀ j v, cs[j]? = some v → w.cell? (a.add j) = some v)
    (hu : P.underlying ty = some d) (hd : (match d with | .struct _ | .array _ _ => true | _ => false) = true) (hi : (P.info? ty).map (·.size) = some cs.length) :
    (loadVar ty a).run P w = .ok (.agg cs.toArray) w := by
  have hl := run_loadCells_list (P := P) w a cs hc
  cases hq : P.info? ty with
  | none => simp [hq] at hi
  | some i =>
    have hs : i.size = cs.length := by simpa [hq] using hi
    have hagg : (isAgg ty).run P w = .ok true w := by
      unfold isAgg
      rw [Sem.run_bind, run_underlying hu w]
      cases d <;> simp_all
    simp [loadVar, Sem.run_bind, hagg, sizeOf, typeInfo, hq, hs, hl]
theorem wpList_load_cells {P : Program} {w : World} {ops : Array Oper} {rest : List Oper} {o : Oper} {a : Act} {Q : Exit → Act → World → Prop} (hgd : o.guard = none) (ty : TypeId) (x : Operand) (ho : o.op = .load ty x)
    (p : Addr) (hx : a.eval x = .pointer (some p)) (cs : List Value) (d : TypeDesc) (hc : ∀ j v, cs[j]? = some v → w.cell? (p.add j) = some v)
    (hu : P.underlying ty = some d) (hd : (match d with | .struct _ | .array _ _ => true | _ => false) = true) (hi : (P.info? ty).map (·.size) = some cs.length)
    (h : wpList P ops Q rest (a.put o.dst (.agg cs.toArray)) w) : wpList P ops Q (o :: rest) a w := by
  refine wpList_plain hgd fun K hK => ?_
  unfold Oper.wp execOp
  simp only [ho, hx, Instr.loadAt, Instr.sureAddr, Sem.run_bind, Sem.run_pure, Result.andThen_ok, run_loadVar_cells w p ty cs d hc hu hd hi]
  exact hK _ _ h

theorem index95 (r : Nat) (hr : r < 10) (w : World) : (Instr.index 91 (.agg ordersC.toArray) (.int .i64 (r : Int))).run Tryd.prog w = .ok (.agg (u8c (orderS r))) w := by
  have h : r = 0 ∨ r = 1 ∨ r = 2 ∨ r = 3 ∨ r = 4 ∨ r = 5 ∨ r = 6 ∨ r = 7 ∨ r = 8 ∨ r = 9 := by omega
  rcases h with rfl | rfl | rfl | rfl | rfl | rfl | rfl | rfl | rfl | rfl
  all_goals (clear hr; show _ = _; kernel_rfl)
def Arr8 (w : World) (g : Nat) (v : List Nat) : Prop := w.heap[g]? = some (.cells (u8c v) 90 (0, 0))
theorem u8c_at (v : List Nat) (k : Nat) (h : k < v.length) : (u8c v)[k]? = some (.int .u8 (nt v k : Nat)) := by
  simp [u8c, nt, h]
theorem u8c_size (v : List Nat) : (u8c v).size = v.length := by simp [u8c]
theorem u8c_one (v : List Nat) : (u8c v).all (·.oneCell') = true := by
  rw [Array.all_eq_true']
  intro x hx
  simp [u8c] at hx
  obtain ⟨n, _, rfl⟩ := hx
  rfl
theorem Arr8.cell {w : World} {g : Nat} {v : List Nat} (h : Arr8 w g v) {k : Nat} (hk : k < v.length) : w.cell? ⟨g, k, none⟩ = some (.int .u8 (nt v k : Nat)) := by
  rw [cell_of_row w g k _ 90 _ h, u8c_at v k hk]
theorem Arr8.grown {w w' : World} {g g' : Nat} {v : List Nat} (h : Arr8 w g v) (hg : w.grownBy w' (some g')) (hne : g ≠ g') : Arr8 w' g v := by
  unfold Arr8
  rw [hg.block g (Array.getElem?_eq_some_iff.1 h).1 (fun e => hne (Option.some.inj e))]
  exact h
theorem orderS_len (r : Nat) : (orderS r).length = 16 := by
  unfold orderS; split <;> rfl
theorem orderS_lt (r k : Nat) : nt (orderS r) k < 16 := by
  by_cases hk : k < 16
  · have key : ∀ r : Fin 10, ∀ k : Fin 16, nt (orderS r.val) k.val < 16 := by decide +kernel
    by_cases hr : r < 10
    · exact key ⟨r, hr⟩ ⟨k, hk⟩
    · have e : orderS r = orderS 9 := by
        unfold orderS; split <;> first | rfl | omega
      rw [e]; exact key ⟨9, by omega⟩ ⟨k, hk⟩
  · unfold nt; rw [List.getElem?_eq_none (by rw [orderS_len]; omega)]; decide
theorem dia_facts (i : Nat) (h : i < 4) : ∃ j1 j2 j3 k1 k2 k3 j4 j8 j12 d d8 d9 : Nat, IntKind.i64.wrap ((i : Int) + 1) = (j1 : Int) ∧ IntKind.i64.wrap ((i : Int) + 2) = (j2 : Int) ∧ IntKind.i64.wrap ((i : Int) + 3) = (j3 : Int) ∧
    (j1 : Int).tmod 4 = (k1 : Int) ∧ (j2 : Int).tmod 4 = (k2 : Int) ∧ (j3 : Int).tmod 4 = (k3 : Int) ∧ IntKind.i64.wrap (4 + (k1 : Int)) = (j4 : Int) ∧ IntKind.i64.wrap (8 + (k2 : Int)) = (j8 : Int) ∧ IntKind.i64.wrap (12 + (k3 : Int)) = (j12 : Int) ∧
    IntKind.i64.wrap (2 * (i : Int)) = (d : Int) ∧ IntKind.i64.wrap (8 + (d : Int)) = (d8 : Int) ∧ IntKind.i64.wrap (9 + (d : Int)) = (d9 : Int) ∧
    j4 = 4 + (i + 1) % 4 ∧ j8 = 8 + (i + 2) % 4 ∧ j12 = 12 + (i + 3) % 4 ∧ d8 = 8 + 2 * i ∧ d9 = 9 + 2 * i ∧ j4 < 16 ∧ j8 < 16 ∧ j12 < 16 ∧ (d8 : Int) < 16 ∧ (d9 : Int) < 16 := by
  have hh : i = 0 ∨ i = 1 ∨ i = 2 ∨ i = 3 := by omega
  rcases hh with rfl | rfl | rfl | rfl
  · exact ⟨1, 2, 3, 1, 2, 3, 5, 10, 15, 0, 8, 9, by decide⟩
  · exact ⟨2, 3, 4, 2, 3, 0, 6, 11, 12, 2, 10, 11, by decide⟩
  · exact ⟨3, 4, 5, 3, 0, 1, 7, 8, 13, 4, 12, 13, by decide⟩
  · exact ⟨4, 5, 6, 0, 1, 2, 4, 9, 14, 6, 14, 15, by decide⟩
theorem grownBy_alloc {w wr : World} {g : Option Nat} (h : w.grownBy wr g) (o : Obj) : w.grownBy (wr.alloc o) g :=
  ⟨h.os, h.tape, h.output, by rw [World.size_alloc]; have := h.size; omega, fun k hk hne => by rw [Below.heap_alloc _ _ _ (by have := h.size; omega)]; exact h.block k hk hne⟩
theorem grownBy_setRow_new {w wr : World} {g : Option Nat} (h : w.grownBy wr g) {b : Nat} (hb : w.heap.size ≤ b) (cs : Array Value) : w.grownBy (wr.setRow b cs) g :=
  ⟨h.os, h.tape, h.output, by rw [setRow_size]; exact h.size, fun k hk hne => by rw [setRow_other _ _ _ _ (by omega)]; exact h.block k hk hne⟩

set_option maxRecDepth 100000 in
set_option maxHeartbeats 4000000 in
theorem compress_true (st : List Nat) (l : List UInt8) (n : Nat) (w : World) (hd : DigestAt w) (hl : l.length ≤ 64) (hh : st.length = 8) (hm : M32 st) (hn : n ≤ 9223372036854775807) :
    Calls Tryd.prog 72 #[.agg (u32c st), .string ⟨l.toArray⟩, .int .i64 n, .bool true] w fun e w' => e = .returned (.agg (u32c (compS st (wordsS l) n true))) ∧ Below w.heap.size w w' := by
  have hsz := str_size l
  have hd0 := hd.1
  have Hhh := Lib.hid hh
  clear hh
  have Hhd := Lib.hid hd
  clear hd
  go_enter Tryd.func72, Tryd.ntmps72
  go_wp2_with fail
  generalize hW0 : World.alloc _ _ = w0
  have hH0 : Arr w0 w.heap.size 82 st := by
    rw [← hW0]; unfold Arr
    rw [Below.heap_alloc _ _ _ (by rw [World.size_alloc]; omega)]
    exact heap_alloc_new w _
  have hR0 : Arr w0 (w.heap.size + 1) 82 (List.replicate 8 0) := by
    rw [← hW0]; unfold Arr
    have := heap_alloc_new (w.alloc (Obj.cells (u32c st) 82)) (Obj.cells (u32c (List.replicate 8 0)) 82)
    rw [World.size_alloc] at this
    exact this
  have hB0 : Below w.heap.size w w0 := by rw [← hW0]; exact (by ((repeat' (first | exact Below.refl _ _ | (refine Below.alloc ?_ ?_ _) | (refine Below.setCell ?_ ?_ _) | (refine Below.drew ?_) | (refine Below.trans ?_ (Below.mono (by assumption) ?_)))) <;> ((try simp only [World.size_alloc, World.size_setCell, World.size_drew] at *); omega)))
  have hs0 : w0.heap.size = w.heap.size + 2 := by rw [← hW0, World.size_alloc, World.size_alloc]
  clear hW0
  have Hhs0 := Lib.hid hs0
  clear hs0
  refine (words_calls l _ hl).mono ?_
  rintro e w1 ⟨rfl, hB1⟩
  have hH1 := hH0.below hB1 (by have := Hhs0.out; omega)
  have hR1 := hR0.below hB1 (by have := Hhs0.out; omega)
  have hbel1 : Below w.heap.size w w1 := hB0.trans (hB1.mono (by have := Hhs0.out; omega))
  have hz1 : w.heap.size + 2 ≤ w1.heap.size := by have := hB1.size; have := Hhs0.out; omega
  obtain ⟨m, hmm⟩ : ∃ m, m = wordsS l := ⟨_, rfl⟩
  rw [← hmm]
  have hml : m.length = 16 := by rw [hmm]; exact wordsK_len _ _
  have hM : M32 m := by rw [hmm]; exact wordsK_m _ _
  clear hH0 hR0 hB0 hB1
  have Hhmm := Lib.hid hmm
  clear hmm
  have Hhml := Lib.hid hml
  clear hml
  go_wp2_with (refine wpList_store_row rfl 88 _ _ rfl w1.heap.size (u32c m) rfl rfl 88 (u32c (List.replicate 16 0)) (heap_alloc_new _ _) (by rw [sz91, u32c_size, Hhml.out]) (by rw [u32c_size, u32c_size, Hhml.out]; rfl) (u32c_one _) ?_)
  generalize hW2 : World.alloc (World.setRow _ _ _) _ = w2
  obtain ⟨bm, hbm⟩ : ∃ bm, bm = w1.heap.size := ⟨_, rfl⟩
  have hs2 : w2.heap.size = w1.heap.size + 2 := by rw [← hW2, World.size_alloc, setRow_size, World.size_alloc]
  have hb12 : Below w1.heap.size w1 w2 := by
    rw [← hW2]
    exact Below.alloc (below_setRow (Below.alloc (Below.refl _ _) (Nat.le_refl _) _) (Nat.le_refl _) _) (by rw [setRow_size, World.size_alloc]; omega) _
  have hm2 : Arr w2 bm 88 m := by
    rw [← hW2, hbm]; unfold Arr
    rw [Below.heap_alloc _ _ _ (by rw [setRow_size, World.size_alloc]; omega)]
    exact setRow_heap _ _ _ _ _ _ (heap_alloc_new _ _)
  have hv2 : Arr w2 (bm + 1) 88 (List.replicate 16 0) := by
    rw [← hW2, hbm]
    have := heap_alloc_new ((w1.alloc (Obj.cells (u32c (List.replicate 16 0)) 88)).setRow w1.heap.size (u32c m)) (Obj.cells (u32c (List.replicate 16 0)) 88)
    rw [setRow_size, World.size_alloc] at this
    exact this
  have hH2 := hH1.below hb12 (by omega)
  have hR2 := hR1.below hb12 (by omega)
  have hbel2 := hbel1.trans (hb12.mono (by omega))
  rw [← hbm] at hz1 hs2 ⊢
  clear hW2 hH1 hR1 hbel1 hb12 hbm
  have hd2 := Hhd.out.below hbel2 hd0
  have Hhd2 := Lib.hid hd2
  clear hd2
  have Hhm2 := Lib.hid hm2
  clear hm2
  have HhH2 := Lib.hid hH2
  clear hH2
  have HhR2 := Lib.hid hR2
  clear hR2
  have Hhs2 := Lib.hid hs2
  clear hs2
  have Hhv2 := Lib.hid hv2
  clear hv2
  go_wp2_with fail
  go_still_tail 2, (by kernel_rfl)
  refine wpList_copy_splice rfl _ _ 58 58 rfl 60 und93 sz59 (some ⟨bm + 1, 0, none⟩) (some ⟨w.heap.size, 0, none⟩) 16 16 8 8 rfl rfl (bm + 1) 0 (cells32 (List.replicate 16 0)) 88 Hhv2.out.rows (cells32 st) (by rw [cells32_len, Hhh.out]; rfl) (fun _ => ⟨rfl, _, rfl, fun j x hx => ?_⟩) (by rw [cells32_len, cells32_len, Hhh.out]; decide) (u32_one _) (bm + 1) w2 (Below.refl _ _).drew (Nat.le_refl _) ?_
  · obtain ⟨h1, rfl⟩ := u32_at hx
    rw [addr_add]; exact HhH2.out.cell h1
  intro w3 hv3 hb3
  obtain ⟨u0, hu0⟩ : ∃ u0, u0 = st ++ List.replicate 8 0 := ⟨_, rfl⟩
  have hv3 : Arr w3 (bm + 1) 88 u0 := Arr.splice hv3 (by rw [hu0]; simp [Hhh.out])
  have hm3 := Hhm2.out.below hb3 (by omega)
  have hH3 := HhH2.out.below hb3 (by omega)
  have hR3 := HhR2.out.below hb3 (by omega)
  have hd3 := Hhd2.out.below hb3 (by omega)
  have hz3 : bm + 2 ≤ w3.heap.size := by have := hb3.size; have := Hhs2.out; omega
  have hbel3 : Below w.heap.size w w3 := hbel2.trans (hb3.mono (by omega))
  clear hb3 hbel2
  have Hhv3 := Lib.hid hv3
  clear hv3
  have Hhm3 := Lib.hid hm3
  clear hm3
  have HhH3 := Lib.hid hH3
  clear hH3
  have HhR3 := Lib.hid hR3
  clear hR3
  have Hhd3 := Lib.hid hd3
  clear hd3
  have Hhu0 := Lib.hid hu0
  clear hu0
  go_wp2_with fail
  go_still_tail 2, (by kernel_rfl)
  refine wpList_copy_splice rfl _ _ 58 58 rfl 60 und93 sz59 (some ⟨bm + 1, 8, none⟩) (some ⟨2, 0, none⟩) 8 8 8 8 rfl rfl (bm + 1) 8 (cells32 u0) 88 Hhv3.out.rows (cells32 firstS) rfl (fun _ => ⟨rfl, _, rfl, fun j x hx => ?_⟩) (by rw [cells32_len, cells32_len, Hhu0.out, List.length_append, Hhh.out]; decide) (u32_one _) (bm + 1) w3 (Below.refl _ _).drew (Nat.le_refl _) ?_
  · obtain ⟨h1, rfl⟩ := u32_at hx
    rw [addr_add]; exact Hhd3.out.2.1 j h1
  intro w4 hv4 hb4
  obtain ⟨v0, hv0⟩ : ∃ v0, v0 = st ++ firstS := ⟨_, rfl⟩
  have hv4 : Arr w4 (bm + 1) 88 v0 := Arr.splice hv4 (by rw [hv0, Hhu0.out]; simp [Hhh.out, firstS])
  have hl0 : v0.length = 16 := by rw [hv0]; simp [Hhh.out, firstS]
  have hM0 : M32 v0 := by rw [hv0]; exact app_m hm firstS_m
  have hm4 := Hhm3.out.below hb4 (by omega)
  have hH4 := HhH3.out.below hb4 (by omega)
  have hR4 := HhR3.out.below hb4 (by omega)
  have hd4 := Hhd3.out.below hb4 (by omega)
  have hz4 : bm + 2 ≤ w4.heap.size := by have := hb4.size; omega
  have hbel4 : Below w.heap.size w w4 := hbel3.trans (hb4.mono (by omega))
  clear hb4 hbel3
  have c12 := hv4.cell (k := 12) (by omega)
  have c13 := hv4.cell (k := 13) (by omega)
  have c14 := hv4.cell (k := 14) (by omega)
  have f12 := hv4.frozen 12
  have f13 := hv4.frozen 13
  have f14 := hv4.frozen 14
  obtain ⟨a12, ha12⟩ : ∃ a, a = nt v0 12 := ⟨_, rfl⟩
  obtain ⟨a13, ha13⟩ : ∃ a, a = nt v0 13 := ⟨_, rfl⟩
  obtain ⟨a14, ha14⟩ : ∃ a, a = nt v0 14 := ⟨_, rfl⟩
  have hn2 : (n : Int) / 4294967296 = ((n / 4294967296 : Nat) : Int) := by omega
  obtain ⟨n2, hn2e⟩ : ∃ n2, n2 = n / 4294967296 := ⟨_, rfl⟩
  rw [← hn2e] at hn2
  obtain ⟨z12, hz12⟩ : ∃ z, z = a12 ^^^ n % 4294967296 := ⟨_, rfl⟩
  obtain ⟨z13, hz13⟩ : ∃ z, z = a13 ^^^ n2 := ⟨_, rfl⟩
  obtain ⟨z14, hz14⟩ : ∃ z, z = 4294967295 - a14 := ⟨_, rfl⟩
  have e12 : bits .xor .u32 (a12 : Int) ((n : Int) % 4294967296) = (z12 : Int) := by
    rw [show (n : Int) % 4294967296 = ((n % 4294967296 : Nat) : Int) by rw [Int.natCast_emod]; rfl, u32_xor_nat _ _ (by rw [ha12]; exact hM0 12) (Nat.mod_lt _ (by omega)), hz12]
  have e13 : bits .xor .u32 (a13 : Int) (n2 : Int) = (z13 : Int) := by
    rw [u32_xor_nat _ _ (by rw [ha13]; exact hM0 13) (by omega), hz13]
  have e14 : bits .xor .u32 IntKind.u32.max (a14 : Int) = (z14 : Int) := by
    rw [not32 _ (by rw [ha14]; exact hM0 14), hz14]
  rw [← ha12] at c12
  rw [← ha13] at c13
  rw [← ha14] at c14
  have hord : ∀ (wx : World), Below 4 w4 wx → ∀ j v, ordersC[j]? = some v → wx.cell? ((⟨3, 0, none⟩ : Addr).add j) = some v := fun wx hx j v hv => by rw [addr_add, ← hd4.2.2 j v hv]; exact hx.cell (p := ⟨3, j, none⟩) (show 3 < 4 by omega)
  have Hhord := Lib.hid hord
  clear hord
  have Hhv4 := Lib.hid hv4
  clear hv4
  have Hhm4 := Lib.hid hm4
  clear hm4
  have HhH4 := Lib.hid hH4
  clear hH4
  have HhR4 := Lib.hid hR4
  clear hR4
  have Hhd4 := Lib.hid hd4
  clear hd4
  have Hhv0 := Lib.hid hv0
  clear hv0
  have Hhl0 := Lib.hid hl0
  clear hl0
  have HhM0 := Lib.hid hM0
  clear hM0
  have Hhz12 := Lib.hid hz12
  clear hz12
  have Hhz13 := Lib.hid hz13
  clear hz13
  have Hhz14 := Lib.hid hz14
  clear hz14
  have Hha12 := Lib.hid ha12
  clear ha12
  have Hha13 := Lib.hid ha13
  clear ha13
  have Hha14 := Lib.hid ha14
  clear ha14
  have Hhn2e := Lib.hid hn2e
  clear hn2e
  go_wp2_with (refine wpList_load_cells rfl 91 _ rfl ⟨3, 0, none⟩ rfl ordersC _ (Hhord.out _ ?c1) und95 rfl sz95 ?_)
  case c1 => exact (by ((repeat' (first | exact Below.refl _ _ | (refine Below.alloc ?_ ?_ _) | (refine Below.setCell ?_ ?_ _) | (refine Below.drew ?_) | (refine Below.trans ?_ (Below.mono (by assumption) ?_)))) <;> ((try simp only [World.size_alloc, World.size_setCell, World.size_drew] at *); omega)))
  obtain ⟨v3, hv3e⟩ : ∃ v3, v3 = startS st n true := ⟨_, rfl⟩
  have hx13 : nt v0 13 = nt (v0.set 12 z12) 13 := by rw [nt_set]; simp
  have hx14 : nt v0 14 = nt ((v0.set 12 z12).set 13 z13) 14 := by rw [nt_set, nt_set]; simp
  have hw5 : Arr ((w4.setCell ⟨bm + 1, 12, none⟩ (.int .u32 (z12 : Int))).setCell ⟨bm + 1, 13, none⟩ (.int .u32 (z13 : Int))) (bm + 1) 88 (v13S st n) := by
    have e : v13S st n = (v0.set 12 z12).set 13 z13 := by
      rw [v13S, v12S, ← Hhv0.out, ← Hha12.out, ← Hhz12.out, ← hx13, ← Hha13.out, ← Hhn2e.out, Nat.mod_eq_of_lt (show n2 < 4294967296 by have := Hhn2e.out; omega), ← Hhz13.out]
    rw [e]; exact (Hhv4.out.store 12 z12).store 13 z13
  generalize hW5 : World.setCell (World.setCell _ _ _) _ _ = w5
  have hv5 : Arr w5 (bm + 1) 88 v3 := by
    have e : v3 = (v13S st n).set 14 z14 := by
      have e14 : nt (v13S st n) 14 = a14 := by
        rw [Hha14.out, hx14, v13S, v12S, ← Hhv0.out, ← Hha12.out, ← Hhz12.out, ← hx13, ← Hha13.out, ← Hhn2e.out, Nat.mod_eq_of_lt (show n2 < 4294967296 by have := Hhn2e.out; omega), ← Hhz13.out]
      rw [hv3e, startS, if_pos rfl, e14, ← Hhz14.out]
    rw [e, ← hW5]; exact hw5.store 14 z14
  have hs5 : w5.heap.size = w4.heap.size := by rw [← hW5]; simp only [World.size_setCell]
  have hb5 : Below (bm + 1) w4 w5 := by rw [← hW5]; exact (by ((repeat' (first | exact Below.refl _ _ | (refine Below.alloc ?_ ?_ _) | (refine Below.setCell ?_ ?_ _) | (refine Below.drew ?_) | (refine Below.trans ?_ (Below.mono (by assumption) ?_)))) <;> ((try simp only [World.size_alloc, World.size_setCell, World.size_drew] at *); omega)))
  clear hW5 hw5 hx13 hx14 c12 c13 c14 f12 f13 f14 e12 e13 e14 hn2
  have hm5 := Hhm4.out.below hb5 (by omega)
  have hH5 := HhH4.out.below hb5 (by omega)
  have hR5 := HhR4.out.below hb5 (by omega)
  have hbel5 : Below w.heap.size w w5 := hbel4.trans (hb5.mono (by omega))
  have hz5 : bm + 2 ≤ w5.heap.size := by omega
  have hl3 : v3.length = 16 := by rw [hv3e]; exact startS_len _ _ _ Hhh.out
  have hM3 : M32 v3 := by rw [hv3e]; exact startS_m _ _ _ hm
  clear hbel4 hb5
  have Hhm5 := Lib.hid hm5
  clear hm5
  have HhH5 := Lib.hid hH5
  clear hH5
  have HhR5 := Lib.hid hR5
  clear hR5
  have Hhbel5 := Lib.hid hbel5
  clear hbel5
  have Hhl3 := Lib.hid hl3
  clear hl3
  have HhM3 := Lib.hid hM3
  clear hM3
  have Hhv3e := Lib.hid hv3e
  clear hv3e
  have Hhs5 := Lib.hid hs5
  clear hs5
  have Hhv5 := Lib.hid hv5
  clear hv5
  go_loopw [43] (fun s43 wr => ∃ r : Nat, r ≤ 10 ∧ s43 = .int .i64 r ∧ Arr wr (bm + 1) 88 (roundsK m v3 r) ∧ w5.grownBy wr (some (bm + 1))) (fun s43 _ => 10 - (intOf s43).toNat)
  case atStart => exact ⟨0, by omega, rfl, Hhv5.out, grownBy_refl _ _⟩
  case round =>
    obtain ⟨r, hr, rfl, hvr, hgr⟩ := hrel
    have hzr := hgr.size
    obtain ⟨vr, hvre⟩ : ∃ vr, vr = roundsK m v3 r := ⟨_, rfl⟩
    rw [← hvre] at hvr
    have hlr : vr.length = 16 := by rw [hvre, roundsK_len]; exact Hhl3.out
    have hMr : M32 vr := by rw [hvre]; exact roundsK_m _ _ _ HhM3.out
    by_cases hrl : r < 10
    · have hidx := index95 r hrl
      obtain ⟨z, hze⟩ : ∃ z, z = orderS r := ⟨_, rfl⟩
      rw [← hze] at hidx
      have hzl : z.length = 16 := by rw [hze]; exact orderS_len r
      have hzlt : ∀ k, nt z k < 16 := by rw [hze]; exact orderS_lt r
      have Hhvr := Lib.hid hvr
      clear hvr
      have Hhgr := Lib.hid hgr
      clear hgr
      have Hhvre := Lib.hid hvre
      clear hvre
      have Hhlr := Lib.hid hlr
      clear hlr
      have HhMr := Lib.hid hMr
      clear hMr
      have Hhze := Lib.hid hze
      clear hze
      have Hhzl := Lib.hid hzl
      clear hzl
      have Hhzlt := Lib.hid hzlt
      clear hzlt
      obtain ⟨wo, hwo⟩ : ∃ wo : World, wo = wr := ⟨_, rfl⟩
      subst hwo
      go_wp2_with (refine wpList_store_row rfl 90 _ _ rfl wo.heap.size (u8c z) rfl rfl 90 (u8c (List.replicate 16 0)) (heap_alloc_new _ _) (by rw [sz94, u8c_size, Hhzl.out]) (by rw [u8c_size, u8c_size, Hhzl.out]; rfl) (u8c_one _) ?_)
      generalize hW7 : World.setRow (World.alloc _ _) _ _ = w7
      have hbz : ∃ bz, bz = wo.heap.size := ⟨_, rfl⟩
      obtain ⟨bz, hbz⟩ := hbz
      have hz7 : Arr8 w7 bz z := by rw [← hW7, hbz]; exact setRow_heap _ _ _ _ _ _ (heap_alloc_new _ _)
      have hg7 : wo.grownBy w7 (some (bm + 1)) := by rw [← hW7]; exact grownBy_setRow_new (grownBy_alloc (grownBy_refl _ _) _) (Nat.le_refl _) _
      have hv7 : Arr w7 (bm + 1) 88 vr := by
        unfold Arr
        rw [← hW7, setRow_other _ _ _ _ (by omega), Below.heap_alloc _ _ _ (by omega)]
        exact Hhvr.out
      have hm7 := (Hhm5.out.grown Hhgr.out (show bm ≠ bm + 1 by omega)).grown hg7 (show bm ≠ bm + 1 by omega)
      have hs7 : w7.heap.size = bz + 1 := by rw [← hW7, setRow_size, World.size_alloc, hbz]
      have hbzm : bm + 2 ≤ bz := by omega
      rw [← hbz]
      clear hW7
      have Hhz7 := Lib.hid hz7
      clear hz7
      have Hhg7 := Lib.hid hg7
      clear hg7
      have Hhv7 := Lib.hid hv7
      clear hv7
      have Hhm7 := Lib.hid hm7
      clear hm7
      have Hhs7 := Lib.hid hs7
      clear hs7
      have Hhbz := Lib.hid hbz
      clear hbz
      go_loopw [46] (fun s46 wr => ∃ i : Nat, i ≤ 4 ∧ s46 = .int .i64 i ∧ Arr wr (bm + 1) 88 (colK m z vr i) ∧ w7.grownBy wr (some (bm + 1))) (fun s46 _ => 4 - (intOf s46).toNat)
      case atStart => exact ⟨0, by omega, rfl, Hhv7.out, grownBy_refl _ _⟩
      case round =>
        obtain ⟨i, hi, rfl, hvi, hgi⟩ := hrel
        by_cases hil : i < 4
        · have hz9 := Hhz7.out.grown hgi (show bz ≠ bm + 1 by omega)
          have hm9 := Hhm7.out.grown hgi (show bm ≠ bm + 1 by omega)
          have hli : (colK m z vr i).length = 16 := by rw [colK_len]; exact Hhlr.out
          have hMi : M32 (colK m z vr i) := colK_m _ _ _ _ HhMr.out
          obtain ⟨z0, hz0⟩ : ∃ z0, z0 = nt z (2 * i) := ⟨_, rfl⟩
          obtain ⟨z1, hz1⟩ : ∃ z1, z1 = nt z (2 * i + 1) := ⟨_, rfl⟩
          have cz0 := hz9.cell (k := 2 * i) (by rw [Hhzl.out]; omega)
          have cz1 := hz9.cell (k := 2 * i + 1) (by rw [Hhzl.out]; omega)
          have z0l : (z0 : Int) < 16 := by have := Hhzlt.out (2 * i); omega
          have z1l : (z1 : Int) < 16 := by have := Hhzlt.out (2 * i + 1); omega
          have cm0 := hm9.cell (k := z0) (by rw [Hhml.out]; omega)
          have cm1 := hm9.cell (k := z1) (by rw [Hhml.out]; omega)
          obtain ⟨x, hx⟩ : ∃ x, x = nt m z0 := ⟨_, rfl⟩
          obtain ⟨y, hy⟩ : ∃ y, y = nt m z1 := ⟨_, rfl⟩
          have hxl : x < 4294967296 := by rw [hx]; exact hM _
          have hyl : y < 4294967296 := by rw [hy]; exact hM _
          obtain ⟨j4, hj4⟩ : ∃ j, j = 4 + i := ⟨_, rfl⟩
          obtain ⟨j8, hj8⟩ : ∃ j, j = 8 + i := ⟨_, rfl⟩
          obtain ⟨j12, hj12⟩ : ∃ j, j = 12 + i := ⟨_, rfl⟩
          obtain ⟨d, hdd⟩ : ∃ j, j = 2 * i := ⟨_, rfl⟩
          obtain ⟨d1, hdd1⟩ : ∃ j, j = 2 * i + 1 := ⟨_, rfl⟩
          have dl : (d : Int) < 16 := by omega
          have d1l : (d1 : Int) < 16 := by omega
          rw [← hz1, ← hdd1] at cz1
          rw [← hz0, ← hdd] at cz0
          rw [← hx] at cm0
          rw [← hy] at cm1
          have hmix := mix_calls (bm + 1) 88 (colK m z vr i) i j4 j8 j12 x y
          have hmix2 : ∀ wx, Arr wx (bm + 1) 88 (colK m z vr i) → Calls Tryd.prog 82 #[.pointer (some ⟨bm + 1, 0, none⟩), .int .i64 i, .int .i64 j4, .int .i64 j8, .int .i64 j12, .int .u32 x, .int .u32 y] wx fun e w' => e = .returned (.tuple #[]) ∧ Arr w' (bm + 1) 88 (mixS (colK m z vr i) i j4 j8 j12 x y) ∧ wx.grownBy w' (some (bm + 1)) := fun wx hwx => hmix wx hwx hli hMi (by omega) (by omega) (by omega) (by omega) hxl hyl
          have hnew : mixS (colK m z vr i) i j4 j8 j12 x y = colK m z vr (i + 1) := by rw [colK, hx, hy, hz0, hz1, hj4, hj8, hj12]
          have b4 : IntKind.i64.wrap (4 + (i : Int)) = (j4 : Int) := (IntWalk.i64_in _ (by omega)).trans (by omega)
          have b8 : IntKind.i64.wrap (8 + (i : Int)) = (j8 : Int) := (IntWalk.i64_in _ (by omega)).trans (by omega)
          have b12 : IntKind.i64.wrap (12 + (i : Int)) = (j12 : Int) := (IntWalk.i64_in _ (by omega)).trans (by omega)
          have bd : IntKind.i64.wrap (2 * (i : Int)) = (d : Int) := (IntWalk.i64_in _ (by omega)).trans (by omega)
          have bd1 : IntKind.i64.wrap ((d : Int) + 1) = (d1 : Int) := (IntWalk.i64_in _ (by omega)).trans (by omega)
          have hil' : (i : Int) < 4 := by omega
          clear hmix
          have Hhz9 := Lib.hid hz9
          clear hz9
          have Hhm9 := Lib.hid hm9
          clear hm9
          have Hhli := Lib.hid hli
          clear hli
          have HhMi := Lib.hid hMi
          clear hMi
          have Hhz0 := Lib.hid hz0
          clear hz0
          have Hhz1 := Lib.hid hz1
          clear hz1
          have Hhx := Lib.hid hx
          clear hx
          have Hhy := Lib.hid hy
          clear hy
          have Hhj4 := Lib.hid hj4
          clear hj4
          have Hhj8 := Lib.hid hj8
          clear hj8
          have Hhj12 := Lib.hid hj12
          clear hj12
          have Hhdd := Lib.hid hdd
          clear hdd
          have Hhdd1 := Lib.hid hdd1
          clear hdd1
          have Hhmix2 := Lib.hid hmix2
          clear hmix2
          have Hhnew := Lib.hid hnew
          clear hnew
          have Hhvi := Lib.hid hvi
          clear hvi
          have Hhgi := Lib.hid hgi
          clear hgi
          go_wp2_with fail
          go_still_tail 20, (by kernel_rfl)
          clear b4 b8 b12 bd bd1
          go_wp2_with fail
          refine (Hhmix2.out wr.drew Hhvi.out).mono ?_
          rintro e w9 ⟨rfl, hv9, hg9⟩
          have hg9' := grownBy_trans (grownBy_drew Hhgi.out) hg9
          rw [Hhnew.out] at hv9
          have Hhv9 := Lib.hid hv9
          clear hv9
          have Hhg9' := Lib.hid hg9'
          clear hg9'
          clear hg9
          go_wp2_with fail
          exact ⟨⟨i + 1, by omega, by go_num, Hhv9.out, Hhg9'.out⟩, by simp [intOf]; omega⟩
        · obtain rfl : i = 4 := by omega
          rw [show ((4 : Nat) : Int) = 4 from rfl]
          obtain ⟨vc, hvce⟩ : ∃ vc, vc = colK m z vr 4 := ⟨_, rfl⟩
          rw [← hvce] at hvi
          have hlc : vc.length = 16 := by rw [hvce, colK_len]; exact Hhlr.out
          have hMc : M32 vc := by rw [hvce]; exact colK_m _ _ _ _ HhMr.out
          obtain ⟨wp, hwp⟩ : ∃ wp : World, wp = wr := ⟨_, rfl⟩
          subst hwp
          have Hhvce := Lib.hid hvce
          clear hvce
          have Hhlc := Lib.hid hlc
          clear hlc
          have HhMc := Lib.hid hMc
          clear hMc
          have Hhvi := Lib.hid hvi
          clear hvi
          have Hhgi := Lib.hid hgi
          clear hgi
          go_wp2_with fail
          go_loopw [71] (fun s71 wr => ∃ i : Nat, i ≤ 4 ∧ s71 = .int .i64 i ∧ Arr wr (bm + 1) 88 (diaK m z vc i) ∧ w7.grownBy wr (some (bm + 1))) (fun s71 _ => 4 - (intOf s71).toNat)
          case atStart => exact ⟨0, by omega, rfl, Hhvi.out, Hhgi.out⟩
          case round =>
            clear hi hil
            obtain ⟨i, hi, rfl, hvi, hgi⟩ := hrel
            by_cases hil : i < 4
            · have hz9 := Hhz7.out.grown hgi (show bz ≠ bm + 1 by omega)
              have hm9 := Hhm7.out.grown hgi (show bm ≠ bm + 1 by omega)
              have hli : (diaK m z vc i).length = 16 := by rw [diaK_len]; exact Hhlc.out
              have hMi : M32 (diaK m z vc i) := diaK_m _ _ _ _ HhMc.out
              obtain ⟨z0, hz0⟩ : ∃ z0, z0 = nt z (8 + 2 * i) := ⟨_, rfl⟩
              obtain ⟨z1, hz1⟩ : ∃ z1, z1 = nt z (9 + 2 * i) := ⟨_, rfl⟩
              have cz0 := hz9.cell (k := 8 + 2 * i) (by rw [Hhzl.out]; omega)
              have cz1 := hz9.cell (k := 9 + 2 * i) (by rw [Hhzl.out]; omega)
              have z0l : (z0 : Int) < 16 := by have := Hhzlt.out (8 + 2 * i); omega
              have z1l : (z1 : Int) < 16 := by have := Hhzlt.out (9 + 2 * i); omega
              have cm0 := hm9.cell (k := z0) (by rw [Hhml.out]; omega)
              have cm1 := hm9.cell (k := z1) (by rw [Hhml.out]; omega)
              obtain ⟨x, hx⟩ : ∃ x, x = nt m z0 := ⟨_, rfl⟩
              obtain ⟨y, hy⟩ : ∃ y, y = nt m z1 := ⟨_, rfl⟩
              have hxl : x < 4294967296 := by rw [hx]; exact hM _
              have hyl : y < 4294967296 := by rw [hy]; exact hM _
              obtain ⟨j1, j2, j3, k1, k2, k3, j4, j8, j12, d, d8, d9, b1, b2, b3, t1, t2, t3, b4, b8, b12, bd, bd8, bd9, hj4, hj8, hj12, hdd8, hdd9, g4, g8, g12, d8l, d9l⟩ := dia_facts i hil
              have Hb1 := Lib.hid b1
              clear b1
              have Hb2 := Lib.hid b2
              clear b2
              have Hb3 := Lib.hid b3
              clear b3
              have Ht1 := Lib.hid t1
              clear t1
              have Ht2 := Lib.hid t2
              clear t2
              have Ht3 := Lib.hid t3
              clear t3
              have Hb4 := Lib.hid b4
              clear b4
              have Hb8 := Lib.hid b8
              clear b8
              have Hb12 := Lib.hid b12
              clear b12
              have Hbd := Lib.hid bd
              clear bd
              have Hbd8 := Lib.hid bd8
              clear bd8
              have Hbd9 := Lib.hid bd9
              clear bd9
              rw [← hz1, ← hdd9] at cz1
              rw [← hz0, ← hdd8] at cz0
              rw [← hx] at cm0
              rw [← hy] at cm1
              have hmix := mix_calls (bm + 1) 88 (diaK m z vc i) i j4 j8 j12 x y
              have hmix2 : ∀ wx, Arr wx (bm + 1) 88 (diaK m z vc i) → Calls Tryd.prog 82 #[.pointer (some ⟨bm + 1, 0, none⟩), .int .i64 i, .int .i64 j4, .int .i64 j8, .int .i64 j12, .int .u32 x, .int .u32 y] wx fun e w' => e = .returned (.tuple #[]) ∧ Arr w' (bm + 1) 88 (mixS (diaK m z vc i) i j4 j8 j12 x y) ∧ wx.grownBy w' (some (bm + 1)) := fun wx hwx => hmix wx hwx hli hMi (by omega) g4 g8 g12 hxl hyl
              have hnew : mixS (diaK m z vc i) i j4 j8 j12 x y = diaK m z vc (i + 1) := by rw [diaK, hx, hy, hz0, hz1, hj4, hj8, hj12]
              have hil' : (i : Int) < 4 := by omega
              clear hmix
              have Hhz9 := Lib.hid hz9
              clear hz9
              have Hhm9 := Lib.hid hm9
              clear hm9
              have Hhli := Lib.hid hli
              clear hli
              have HhMi := Lib.hid hMi
              clear hMi
              have Hhz0 := Lib.hid hz0
              clear hz0
              have Hhz1 := Lib.hid hz1
              clear hz1
              have Hhx := Lib.hid hx
              clear hx
              have Hhy := Lib.hid hy
              clear hy
              have Hhj4 := Lib.hid hj4
              clear hj4
              have Hhj8 := Lib.hid hj8
              clear hj8
              have Hhj12 := Lib.hid hj12
              clear hj12
              have Hhdd8 := Lib.hid hdd8
              clear hdd8
              have Hhdd9 := Lib.hid hdd9
              clear hdd9
              have Hhmix2 := Lib.hid hmix2
              clear hmix2
              have Hhnew := Lib.hid hnew
              clear hnew
              have Hhvi := Lib.hid hvi
              clear hvi
              have Hhgi := Lib.hid hgi
              clear hgi
              have b1 := Hb1.out
              have b2 := Hb2.out
              have b3 := Hb3.out
              have t1 := Ht1.out
              have t2 := Ht2.out
              have t3 := Ht3.out
              have b4 := Hb4.out
              have b8 := Hb8.out
              have b12 := Hb12.out
              have bd := Hbd.out
              have bd8 := Hbd8.out
              have bd9 := Hbd9.out
              go_wp2_with fail
              go_still_tail 27, (by kernel_rfl)
              clear b1 b2 b3 t1 t2 t3 b4 b8 b12 bd bd8 bd9
              go_wp2_with fail
              refine (Hhmix2.out wr.drew Hhvi.out).mono ?_
              rintro e w9 ⟨rfl, hv9, hg9⟩
              have hg9' := grownBy_trans (grownBy_drew Hhgi.out) hg9
              rw [Hhnew.out] at hv9
              have Hhv9 := Lib.hid hv9
              clear hv9
              have Hhg9' := Lib.hid hg9'
              clear hg9'
              clear hg9
              go_wp2_with fail
              exact ⟨⟨i + 1, by omega, by go_num, Hhv9.out, Hhg9'.out⟩, by simp [intOf]; omega⟩
            · obtain rfl : i = 4 := by omega
              go_wp2_with fail
              refine ⟨⟨r + 1, by omega, by go_num, ?_, ?_⟩, by simp [intOf]; omega⟩
              · rw [roundsK, ← Hhvre.out, ← Hhze.out, ← Hhvce.out]; exact hvi
              · exact grownBy_trans Hhgr.out (grownBy_trans Hhg7.out hgi)
    · obtain rfl : r = 10 := by omega
      rw [show ((10 : Nat) : Int) = 10 from rfl]
      have hHr := HhH5.out.grown hgr (show w.heap.size ≠ bm + 1 by omega)
      have hRr := HhR5.out.grown hgr (show w.heap.size + 1 ≠ bm + 1 by omega)
      have hbelr : Below w.heap.size w wr := Hhbel5.out.trans (grownBy_below hgr (by omega) (by omega))
      have hoe : outK st vr 8 = compS st m n true := by rw [compS, hvre, Hhv3e.out]
      obtain ⟨wo, hwo⟩ : ∃ wo : World, wo = wr := ⟨_, rfl⟩
      subst hwo
      have Hhvr := Lib.hid hvr
      clear hvr
      have Hhgr := Lib.hid hgr
      clear hgr
      have Hhvre := Lib.hid hvre
      clear hvre
      have Hhlr := Lib.hid hlr
      clear hlr
      have HhMr := Lib.hid hMr
      clear hMr
      have HhHr := Lib.hid hHr
      clear hHr
      have HhRr := Lib.hid hRr
      clear hRr
      have Hhbelr := Lib.hid hbelr
      clear hbelr
      have Hhoe := Lib.hid hoe
      clear hoe
      go_wp2_with fail
      go_loopw [104] (fun s104 wr => ∃ i : Nat, i ≤ 8 ∧ s104 = .int .i64 i ∧ Arr wr w.heap.size 82 (outK st vr i) ∧ wo.grownBy wr (some w.heap.size)) (fun s104 _ => 8 - (intOf s104).toNat)
      case atStart => exact ⟨0, by omega, rfl, HhHr.out, grownBy_refl _ _⟩
      case round =>
        obtain ⟨i, hi, rfl, hoi, hgi⟩ := hrel
        have hlo : (outK st vr i).length = 8 := by rw [outK_len]; exact Hhh.out
        by_cases hil : i < 8
        · have hMo : M32 (outK st vr i) := outK_m _ _ _ hm HhMr.out
          have hv9 := Hhvr.out.grown hgi (show bm + 1 ≠ w.heap.size by omega)
          obtain ⟨j, hj⟩ : ∃ j, j = i + 8 := ⟨_, rfl⟩
          have ch := hoi.cell (k := i) (by omega)
          have fh := hoi.frozen i
          have ca := hv9.cell (k := i) (by rw [Hhlr.out]; omega)
          have cb := hv9.cell (k := j) (by rw [Hhlr.out]; omega)
          obtain ⟨x, hx⟩ : ∃ x, x = nt (outK st vr i) i := ⟨_, rfl⟩
          obtain ⟨a, ha⟩ : ∃ x, x = nt vr i := ⟨_, rfl⟩
          obtain ⟨b, hb⟩ : ∃ x, x = nt vr j := ⟨_, rfl⟩
          have hx1 : x < 4294967296 := by rw [hx]; exact hMo _
          have ha1 : a < 4294967296 := by rw [ha]; exact HhMr.out _
          have hb1 : b < 4294967296 := by rw [hb]; exact HhMr.out _
          rw [← hx] at ch
          rw [← ha] at ca
          rw [← hb] at cb
          obtain ⟨y, hy⟩ : ∃ y, y = a ^^^ b := ⟨_, rfl⟩
          obtain ⟨z, hz⟩ : ∃ z, z = x ^^^ y := ⟨_, rfl⟩
          have hy1 : y < 4294967296 := by rw [hy]; exact xor_lt32 ha1 hb1
          have e1 : bits .xor .u32 (a : Int) (b : Int) = (y : Int) := by rw [u32_xor_nat _ _ ha1 hb1, hy]
          have e2 : bits .xor .u32 (x : Int) (y : Int) = (z : Int) := by rw [u32_xor_nat _ _ hx1 hy1, hz]
          have hnew : (outK st vr i).set i z = outK st vr (i + 1) := by rw [outK, hz, hy, hx, ha, hb, hj]
          have b8 : IntKind.i64.wrap ((i : Int) + 8) = (j : Int) := (IntWalk.i64_in _ (by omega)).trans (by omega)
          have hil' : (i : Int) < 8 := by omega
          have hil2 : (i : Int) < 16 := by omega
          have hjl : (j : Int) < 16 := by omega
          have Hhoi := Lib.hid hoi
          clear hoi
          have Hhgi := Lib.hid hgi
          clear hgi
          have Hhlo := Lib.hid hlo
          clear hlo
          have HhMo := Lib.hid hMo
          clear hMo
          have Hhv9 := Lib.hid hv9
          clear hv9
          have Hhx := Lib.hid hx
          clear hx
          have Hha := Lib.hid ha
          clear ha
          have Hhb := Lib.hid hb
          clear hb
          have Hhy := Lib.hid hy
          clear hy
          have Hhz := Lib.hid hz
          clear hz
          have Hhnew := Lib.hid hnew
          clear hnew
          have Hhj := Lib.hid hj
          clear hj
          go_wp2_with fail
          go_still_tail 13, (by kernel_rfl)
          clear b8
          go_wp2_with fail
          refine ⟨⟨i + 1, by omega, by go_num, ?_, ?_⟩, by simp [intOf]; omega⟩
          · rw [← Hhnew.out]; exact Hhoi.out.store i z
          · exact grownBy_drew (grownBy_setCell Hhgi.out rfl _)
        · obtain rfl : i = 8 := by omega
          have hRi := HhRr.out.grown hgi (show w.heap.size + 1 ≠ w.heap.size by omega)
          have hbeli : Below w.heap.size w wr := Hhbelr.out.trans (grownBy_below hgi (by omega) (by have := Hhbelr.out.size; omega))
          rw [Hhoe.out] at hoi hlo
          have Hhoi := Lib.hid hoi
          clear hoi
          have Hhgi := Lib.hid hgi
          clear hgi
          have Hhlo := Lib.hid hlo
          clear hlo
          have HhRi := Lib.hid hRi
          clear hRi
          have Hhbeli := Lib.hid hbeli
          clear hbeli
          go_wp2_with (first | (refine wpList_load_row rfl 82 _ rfl w.heap.size rfl 82 (u32c (compS st m n true)) (0, 0) _ Hhoi.out und60 rfl (by rw [sz60, u32c_size, Hhlo.out]) ?_) | (refine wpList_store_row rfl 82 _ _ rfl (w.heap.size + 1) (u32c (compS st m n true)) rfl rfl 82 (u32c (List.replicate 8 0)) HhRi.out (by rw [sz60, u32c_size, Hhlo.out]) (by rw [u32c_size, u32c_size, Hhlo.out]; rfl) (u32c_one _) ?_))
          exact bodyPost_ret (results_cell_row (fn := Tryd.f72) rfl _ _ (w.heap.size + 1) 82 (u32c (compS st m n true)) (0, 0) _ rfl (HhRi.out.setRow _) und60 rfl (by rw [sz60, u32c_size, Hhlo.out])) rfl ⟨by rw [← Hhmm.out], below_setRow Hhbeli.out (by omega) _⟩
set_option maxRecDepth 100000 in
set_option maxHeartbeats 4000000 in
theorem compress_false (st : List Nat) (l : List UInt8) (n : Nat) (w : World) (hd : DigestAt w) (hl : l.length ≤ 64) (hh : st.length = 8) (hm : M32 st) (hn : n ≤ 9223372036854775807) :
    Calls Tryd.prog 72 #[.agg (u32c st), .string ⟨l.toArray⟩, .int .i64 n, .bool false] w fun e w' => e = .returned (.agg (u32c (compS st (wordsS l) n false))) ∧ Below w.heap.size w w' := by
  have hsz := str_size l
  have hd0 := hd.1
  have Hhh := Lib.hid hh
  clear hh
  have Hhd := Lib.hid hd
  clear hd
  go_enter Tryd.func72, Tryd.ntmps72
  go_wp2_with fail
  generalize hW0 : World.alloc _ _ = w0
  have hH0 : Arr w0 w.heap.size 82 st := by
    rw [← hW0]; unfold Arr
    rw [Below.heap_alloc _ _ _ (by rw [World.size_alloc]; omega)]
    exact heap_alloc_new w _
  have hR0 : Arr w0 (w.heap.size + 1) 82 (List.replicate 8 0) := by
    rw [← hW0]; unfold Arr
    have := heap_alloc_new (w.alloc (Obj.cells (u32c st) 82)) (Obj.cells (u32c (List.replicate 8 0)) 82)
    rw [World.size_alloc] at this
    exact this
  have hB0 : Below w.heap.size w w0 := by rw [← hW0]; exact (by ((repeat' (first | exact Below.refl _ _ | (refine Below.alloc ?_ ?_ _) | (refine Below.setCell ?_ ?_ _) | (refine Below.drew ?_) | (refine Below.trans ?_ (Below.mono (by assumption) ?_)))) <;> ((try simp only [World.size_alloc, World.size_setCell, World.size_drew] at *); omega)))
  have hs0 : w0.heap.size = w.heap.size + 2 := by rw [← hW0, World.size_alloc, World.size_alloc]
  clear hW0
  have Hhs0 := Lib.hid hs0
  clear hs0
  refine (words_calls l _ hl).mono ?_
  rintro e w1 ⟨rfl, hB1⟩
  have hH1 := hH0.below hB1 (by have := Hhs0.out; omega)
  have hR1 := hR0.below hB1 (by have := Hhs0.out; omega)
  have hbel1 : Below w.heap.size w w1 := hB0.trans (hB1.mono (by have := Hhs0.out; omega))
  have hz1 : w.heap.size + 2 ≤ w1.heap.size := by have := hB1.size; have := Hhs0.out; omega
  obtain ⟨m, hmm⟩ : ∃ m, m = wordsS l := ⟨_, rfl⟩
  rw [← hmm]
  have hml : m.length = 16 := by rw [hmm]; exact wordsK_len _ _
  have hM : M32 m := by rw [hmm]; exact wordsK_m _ _
  clear hH0 hR0 hB0 hB1
  have Hhmm := Lib.hid hmm
  clear hmm
  have Hhml := Lib.hid hml
  clear hml
  go_wp2_with (refine wpList_store_row rfl 88 _ _ rfl w1.heap.size (u32c m) rfl rfl 88 (u32c (List.replicate 16 0)) (heap_alloc_new _ _) (by rw [sz91, u32c_size, Hhml.out]) (by rw [u32c_size, u32c_size, Hhml.out]; rfl) (u32c_one _) ?_)
  generalize hW2 : World.alloc (World.setRow _ _ _) _ = w2
  obtain ⟨bm, hbm⟩ : ∃ bm, bm = w1.heap.size := ⟨_, rfl⟩
  have hs2 : w2.heap.size = w1.heap.size + 2 := by rw [← hW2, World.size_alloc, setRow_size, World.size_alloc]
  have hb12 : Below w1.heap.size w1 w2 := by
    rw [← hW2]
    exact Below.alloc (below_setRow (Below.alloc (Below.refl _ _) (Nat.le_refl _) _) (Nat.le_refl _) _) (by rw [setRow_size, World.size_alloc]; omega) _
  have hm2 : Arr w2 bm 88 m := by
    rw [← hW2, hbm]; unfold Arr
    rw [Below.heap_alloc _ _ _ (by rw [setRow_size, World.size_alloc]; omega)]
    exact setRow_heap _ _ _ _ _ _ (heap_alloc_new _ _)
  have hv2 : Arr w2 (bm + 1) 88 (List.replicate 16 0) := by
    rw [← hW2, hbm]
    have := heap_alloc_new ((w1.alloc (Obj.cells (u32c (List.replicate 16 0)) 88)).setRow w1.heap.size (u32c m)) (Obj.cells (u32c (List.replicate 16 0)) 88)
    rw [setRow_size, World.size_alloc] at this
    exact this
  have hH2 := hH1.below hb12 (by omega)
  have hR2 := hR1.below hb12 (by omega)
  have hbel2 := hbel1.trans (hb12.mono (by omega))
  rw [← hbm] at hz1 hs2 ⊢
  clear hW2 hH1 hR1 hbel1 hb12 hbm
  have hd2 := Hhd.out.below hbel2 hd0
  have Hhd2 := Lib.hid hd2
  clear hd2
  have Hhm2 := Lib.hid hm2
  clear hm2
  have HhH2 := Lib.hid hH2
  clear hH2
  have HhR2 := Lib.hid hR2
  clear hR2
  have Hhs2 := Lib.hid hs2
  clear hs2
  have Hhv2 := Lib.hid hv2
  clear hv2
  go_wp2_with fail
  go_still_tail 2, (by kernel_rfl)
  refine wpList_copy_splice rfl _ _ 58 58 rfl 60 und93 sz59 (some ⟨bm + 1, 0, none⟩) (some ⟨w.heap.size, 0, none⟩) 16 16 8 8 rfl rfl (bm + 1) 0 (cells32 (List.replicate 16 0)) 88 Hhv2.out.rows (cells32 st) (by rw [cells32_len, Hhh.out]; rfl) (fun _ => ⟨rfl, _, rfl, fun j x hx => ?_⟩) (by rw [cells32_len, cells32_len, Hhh.out]; decide) (u32_one _) (bm + 1) w2 (Below.refl _ _).drew (Nat.le_refl _) ?_
  · obtain ⟨h1, rfl⟩ := u32_at hx
    rw [addr_add]; exact HhH2.out.cell h1
  intro w3 hv3 hb3
  obtain ⟨u0, hu0⟩ : ∃ u0, u0 = st ++ List.replicate 8 0 := ⟨_, rfl⟩
  have hv3 : Arr w3 (bm + 1) 88 u0 := Arr.splice hv3 (by rw [hu0]; simp [Hhh.out])
  have hm3 := Hhm2.out.below hb3 (by omega)
  have hH3 := HhH2.out.below hb3 (by omega)
  have hR3 := HhR2.out.below hb3 (by omega)
  have hd3 := Hhd2.out.below hb3 (by omega)
  have hz3 : bm + 2 ≤ w3.heap.size := by have := hb3.size; have := Hhs2.out; omega
  have hbel3 : Below w.heap.size w w3 := hbel2.trans (hb3.mono (by omega))
  clear hb3 hbel2
  have Hhv3 := Lib.hid hv3
  clear hv3
  have Hhm3 := Lib.hid hm3
  clear hm3
  have HhH3 := Lib.hid hH3
  clear hH3
  have HhR3 := Lib.hid hR3
  clear hR3
  have Hhd3 := Lib.hid hd3
  clear hd3
  have Hhu0 := Lib.hid hu0
  clear hu0
  go_wp2_with fail
  go_still_tail 2, (by kernel_rfl)
  refine wpList_copy_splice rfl _ _ 58 58 rfl 60 und93 sz59 (some ⟨bm + 1, 8, none⟩) (some ⟨2, 0, none⟩) 8 8 8 8 rfl rfl (bm + 1) 8 (cells32 u0) 88 Hhv3.out.rows (cells32 firstS) rfl (fun _ => ⟨rfl, _, rfl, fun j x hx => ?_⟩) (by rw [cells32_len, cells32_len, Hhu0.out, List.length_append, Hhh.out]; decide) (u32_one _) (bm + 1) w3 (Below.refl _ _).drew (Nat.le_refl _) ?_
  · obtain ⟨h1, rfl⟩ := u32_at hx
    rw [addr_add]; exact Hhd3.out.2.1 j h1
  intro w4 hv4 hb4
  obtain ⟨v0, hv0⟩ : ∃ v0, v0 = st ++ firstS := ⟨_, rfl⟩
  have hv4 : Arr w4 (bm + 1) 88 v0 := Arr.splice hv4 (by rw [hv0, Hhu0.out]; simp [Hhh.out, firstS])
  have hl0 : v0.length = 16 := by rw [hv0]; simp [Hhh.out, firstS]
  have hM0 : M32 v0 := by rw [hv0]; exact app_m hm firstS_m
  have hm4 := Hhm3.out.below hb4 (by omega)
  have hH4 := HhH3.out.below hb4 (by omega)
  have hR4 := HhR3.out.below hb4 (by omega)
  have hd4 := Hhd3.out.below hb4 (by omega)
  have hz4 : bm + 2 ≤ w4.heap.size := by have := hb4.size; omega
  have hbel4 : Below w.heap.size w w4 := hbel3.trans (hb4.mono (by omega))
  clear hb4 hbel3
  have c12 := hv4.cell (k := 12) (by omega)
  have c13 := hv4.cell (k := 13) (by omega)
  have c14 := hv4.cell (k := 14) (by omega)
  have f12 := hv4.frozen 12
  have f13 := hv4.frozen 13
  have f14 := hv4.frozen 14
  obtain ⟨a12, ha12⟩ : ∃ a, a = nt v0 12 := ⟨_, rfl⟩
  obtain ⟨a13, ha13⟩ : ∃ a, a = nt v0 13 := ⟨_, rfl⟩
  obtain ⟨a14, ha14⟩ : ∃ a, a = nt v0 14 := ⟨_, rfl⟩
  have hn2 : (n : Int) / 4294967296 = ((n / 4294967296 : Nat) : Int) := by omega
  obtain ⟨n2, hn2e⟩ : ∃ n2, n2 = n / 4294967296 := ⟨_, rfl⟩
  rw [← hn2e] at hn2
  obtain ⟨z12, hz12⟩ : ∃ z, z = a12 ^^^ n % 4294967296 := ⟨_, rfl⟩
  obtain ⟨z13, hz13⟩ : ∃ z, z = a13 ^^^ n2 := ⟨_, rfl⟩
  obtain ⟨z14, hz14⟩ : ∃ z, z = 4294967295 - a14 := ⟨_, rfl⟩
  have e12 : bits .xor .u32 (a12 : Int) ((n : Int) % 4294967296) = (z12 : Int) := by
    rw [show (n : Int) % 4294967296 = ((n % 4294967296 : Nat) : Int) by rw [Int.natCast_emod]; rfl, u32_xor_nat _ _ (by rw [ha12]; exact hM0 12) (Nat.mod_lt _ (by omega)), hz12]
  have e13 : bits .xor .u32 (a13 : Int) (n2 : Int) = (z13 : Int) := by
    rw [u32_xor_nat _ _ (by rw [ha13]; exact hM0 13) (by omega), hz13]
  have e14 : bits .xor .u32 IntKind.u32.max (a14 : Int) = (z14 : Int) := by
    rw [not32 _ (by rw [ha14]; exact hM0 14), hz14]
  rw [← ha12] at c12
  rw [← ha13] at c13
  rw [← ha14] at c14
  have hord : ∀ (wx : World), Below 4 w4 wx → ∀ j v, ordersC[j]? = some v → wx.cell? ((⟨3, 0, none⟩ : Addr).add j) = some v := fun wx hx j v hv => by rw [addr_add, ← hd4.2.2 j v hv]; exact hx.cell (p := ⟨3, j, none⟩) (show 3 < 4 by omega)
  have Hhord := Lib.hid hord
  clear hord
  have Hhv4 := Lib.hid hv4
  clear hv4
  have Hhm4 := Lib.hid hm4
  clear hm4
  have HhH4 := Lib.hid hH4
  clear hH4
  have HhR4 := Lib.hid hR4
  clear hR4
  have Hhd4 := Lib.hid hd4
  clear hd4
  have Hhv0 := Lib.hid hv0
  clear hv0
  have Hhl0 := Lib.hid hl0
  clear hl0
  have HhM0 := Lib.hid hM0
  clear hM0
  have Hhz12 := Lib.hid hz12
  clear hz12
  have Hhz13 := Lib.hid hz13
  clear hz13
  have Hhz14 := Lib.hid hz14
  clear hz14
  have Hha12 := Lib.hid ha12
  clear ha12
  have Hha13 := Lib.hid ha13
  clear ha13
  have Hha14 := Lib.hid ha14
  clear ha14
  have Hhn2e := Lib.hid hn2e
  clear hn2e
  go_wp2_with (refine wpList_load_cells rfl 91 _ rfl ⟨3, 0, none⟩ rfl ordersC _ (Hhord.out _ ?c1) und95 rfl sz95 ?_)
  case c1 => exact (by ((repeat' (first | exact Below.refl _ _ | (refine Below.alloc ?_ ?_ _) | (refine Below.setCell ?_ ?_ _) | (refine Below.drew ?_) | (refine Below.trans ?_ (Below.mono (by assumption) ?_)))) <;> ((try simp only [World.size_alloc, World.size_setCell, World.size_drew] at *); omega)))
  obtain ⟨v3, hv3e⟩ : ∃ v3, v3 = startS st n false := ⟨_, rfl⟩
  have hx13 : nt v0 13 = nt (v0.set 12 z12) 13 := by rw [nt_set]; simp
  have hx14 : nt v0 14 = nt ((v0.set 12 z12).set 13 z13) 14 := by rw [nt_set, nt_set]; simp
  have hw5 : Arr ((w4.setCell ⟨bm + 1, 12, none⟩ (.int .u32 (z12 : Int))).setCell ⟨bm + 1, 13, none⟩ (.int .u32 (z13 : Int))) (bm + 1) 88 (v13S st n) := by
    have e : v13S st n = (v0.set 12 z12).set 13 z13 := by
      rw [v13S, v12S, ← Hhv0.out, ← Hha12.out, ← Hhz12.out, ← hx13, ← Hha13.out, ← Hhn2e.out, Nat.mod_eq_of_lt (show n2 < 4294967296 by have := Hhn2e.out; omega), ← Hhz13.out]
    rw [e]; exact (Hhv4.out.store 12 z12).store 13 z13
  generalize hW5 : World.setCell (World.setCell _ _ _) _ _ = w5
  have hv5 : Arr w5 (bm + 1) 88 v3 := by
    have e : v3 = v13S st n := by rw [hv3e, startS]; simp
    rw [e, ← hW5]; exact hw5
  have hs5 : w5.heap.size = w4.heap.size := by rw [← hW5]; simp only [World.size_setCell]
  have hb5 : Below (bm + 1) w4 w5 := by rw [← hW5]; exact (by ((repeat' (first | exact Below.refl _ _ | (refine Below.alloc ?_ ?_ _) | (refine Below.setCell ?_ ?_ _) | (refine Below.drew ?_) | (refine Below.trans ?_ (Below.mono (by assumption) ?_)))) <;> ((try simp only [World.size_alloc, World.size_setCell, World.size_drew] at *); omega)))
  clear hW5 hw5 hx13 hx14 c12 c13 c14 f12 f13 f14 e12 e13 e14 hn2
  have hm5 := Hhm4.out.below hb5 (by omega)
  have hH5 := HhH4.out.below hb5 (by omega)
  have hR5 := HhR4.out.below hb5 (by omega)
  have hbel5 : Below w.heap.size w w5 := hbel4.trans (hb5.mono (by omega))
  have hz5 : bm + 2 ≤ w5.heap.size := by omega
  have hl3 : v3.length = 16 := by rw [hv3e]; exact startS_len _ _ _ Hhh.out
  have hM3 : M32 v3 := by rw [hv3e]; exact startS_m _ _ _ hm
  clear hbel4 hb5
  have Hhm5 := Lib.hid hm5
  clear hm5
  have HhH5 := Lib.hid hH5
  clear hH5
  have HhR5 := Lib.hid hR5
  clear hR5
  have Hhbel5 := Lib.hid hbel5
  clear hbel5
  have Hhl3 := Lib.hid hl3
  clear hl3
  have HhM3 := Lib.hid hM3
  clear hM3
  have Hhv3e := Lib.hid hv3e
  clear hv3e
  have Hhs5 := Lib.hid hs5
  clear hs5
  have Hhv5 := Lib.hid hv5
  clear hv5
  go_loopw [43] (fun s43 wr => ∃ r : Nat, r ≤ 10 ∧ s43 = .int .i64 r ∧ Arr wr (bm + 1) 88 (roundsK m v3 r) ∧ w5.grownBy wr (some (bm + 1))) (fun s43 _ => 10 - (intOf s43).toNat)
  case atStart => exact ⟨0, by omega, rfl, Hhv5.out, grownBy_refl _ _⟩
  case round =>
    obtain ⟨r, hr, rfl, hvr, hgr⟩ := hrel
    have hzr := hgr.size
    obtain ⟨vr, hvre⟩ : ∃ vr, vr = roundsK m v3 r := ⟨_, rfl⟩
    rw [← hvre] at hvr
    have hlr : vr.length = 16 := by rw [hvre, roundsK_len]; exact Hhl3.out
    have hMr : M32 vr := by rw [hvre]; exact roundsK_m _ _ _ HhM3.out
    by_cases hrl : r < 10
    · have hidx := index95 r hrl
      obtain ⟨z, hze⟩ : ∃ z, z = orderS r := ⟨_, rfl⟩
      rw [← hze] at hidx
      have hzl : z.length = 16 := by rw [hze]; exact orderS_len r
      have hzlt : ∀ k, nt z k < 16 := by rw [hze]; exact orderS_lt r
      have Hhvr := Lib.hid hvr
      clear hvr
      have Hhgr := Lib.hid hgr
      clear hgr
      have Hhvre := Lib.hid hvre
      clear hvre
      have Hhlr := Lib.hid hlr
      clear hlr
      have HhMr := Lib.hid hMr
      clear hMr
      have Hhze := Lib.hid hze
      clear hze
      have Hhzl := Lib.hid hzl
      clear hzl
      have Hhzlt := Lib.hid hzlt
      clear hzlt
      obtain ⟨wo, hwo⟩ : ∃ wo : World, wo = wr := ⟨_, rfl⟩
      subst hwo
      go_wp2_with (refine wpList_store_row rfl 90 _ _ rfl wo.heap.size (u8c z) rfl rfl 90 (u8c (List.replicate 16 0)) (heap_alloc_new _ _) (by rw [sz94, u8c_size, Hhzl.out]) (by rw [u8c_size, u8c_size, Hhzl.out]; rfl) (u8c_one _) ?_)
      generalize hW7 : World.setRow (World.alloc _ _) _ _ = w7
      have hbz : ∃ bz, bz = wo.heap.size := ⟨_, rfl⟩
      obtain ⟨bz, hbz⟩ := hbz
      have hz7 : Arr8 w7 bz z := by rw [← hW7, hbz]; exact setRow_heap _ _ _ _ _ _ (heap_alloc_new _ _)
      have hg7 : wo.grownBy w7 (some (bm + 1)) := by rw [← hW7]; exact grownBy_setRow_new (grownBy_alloc (grownBy_refl _ _) _) (Nat.le_refl _) _
      have hv7 : Arr w7 (bm + 1) 88 vr := by
        unfold Arr
        rw [← hW7, setRow_other _ _ _ _ (by omega), Below.heap_alloc _ _ _ (by omega)]
        exact Hhvr.out
      have hm7 := (Hhm5.out.grown Hhgr.out (show bm ≠ bm + 1 by omega)).grown hg7 (show bm ≠ bm + 1 by omega)
      have hs7 : w7.heap.size = bz + 1 := by rw [← hW7, setRow_size, World.size_alloc, hbz]
      have hbzm : bm + 2 ≤ bz := by omega
      rw [← hbz]
      clear hW7
      have Hhz7 := Lib.hid hz7
      clear hz7
      have Hhg7 := Lib.hid hg7
      clear hg7
      have Hhv7 := Lib.hid hv7
      clear hv7
      have Hhm7 := Lib.hid hm7
      clear hm7
      have Hhs7 := Lib.hid hs7
      clear hs7
      have Hhbz := Lib.hid hbz
      clear hbz
      go_loopw [46] (fun s46 wr => ∃ i : Nat, i ≤ 4 ∧ s46 = .int .i64 i ∧ Arr wr (bm + 1) 88 (colK m z vr i) ∧ w7.grownBy wr (some (bm + 1))) (fun s46 _ => 4 - (intOf s46).toNat)
      case atStart => exact ⟨0, by omega, rfl, Hhv7.out, grownBy_refl _ _⟩
      case round =>
        obtain ⟨i, hi, rfl, hvi, hgi⟩ := hrel
        by_cases hil : i < 4
        · have hz9 := Hhz7.out.grown hgi (show bz ≠ bm + 1 by omega)
          have hm9 := Hhm7.out.grown hgi (show bm ≠ bm + 1 by omega)
          have hli : (colK m z vr i).length = 16 := by rw [colK_len]; exact Hhlr.out
          have hMi : M32 (colK m z vr i) := colK_m _ _ _ _ HhMr.out
          obtain ⟨z0, hz0⟩ : ∃ z0, z0 = nt z (2 * i) := ⟨_, rfl⟩
          obtain ⟨z1, hz1⟩ : ∃ z1, z1 = nt z (2 * i + 1) := ⟨_, rfl⟩
          have cz0 := hz9.cell (k := 2 * i) (by rw [Hhzl.out]; omega)
          have cz1 := hz9.cell (k := 2 * i + 1) (by rw [Hhzl.out]; omega)
          have z0l : (z0 : Int) < 16 := by have := Hhzlt.out (2 * i); omega
          have z1l : (z1 : Int) < 16 := by have := Hhzlt.out (2 * i + 1); omega
          have cm0 := hm9.cell (k := z0) (by rw [Hhml.out]; omega)
          have cm1 := hm9.cell (k := z1) (by rw [Hhml.out]; omega)
          obtain ⟨x, hx⟩ : ∃ x, x = nt m z0 := ⟨_, rfl⟩
          obtain ⟨y, hy⟩ : ∃ y, y = nt m z1 := ⟨_, rfl⟩
          have hxl : x < 4294967296 := by rw [hx]; exact hM _
          have hyl : y < 4294967296 := by rw [hy]; exact hM _
          obtain ⟨j4, hj4⟩ : ∃ j, j = 4 + i := ⟨_, rfl⟩
          obtain ⟨j8, hj8⟩ : ∃ j, j = 8 + i := ⟨_, rfl⟩
          obtain ⟨j12, hj12⟩ : ∃ j, j = 12 + i := ⟨_, rfl⟩
          obtain ⟨d, hdd⟩ : ∃ j, j = 2 * i := ⟨_, rfl⟩
          obtain ⟨d1, hdd1⟩ : ∃ j, j = 2 * i + 1 := ⟨_, rfl⟩
          have dl : (d : Int) < 16 := by omega
          have d1l : (d1 : Int) < 16 := by omega
          rw [← hz1, ← hdd1] at cz1
          rw [← hz0, ← hdd] at cz0
          rw [← hx] at cm0
          rw [← hy] at cm1
          have hmix := mix_calls (bm + 1) 88 (colK m z vr i) i j4 j8 j12 x y
          have hmix2 : ∀ wx, Arr wx (bm + 1) 88 (colK m z vr i) → Calls Tryd.prog 82 #[.pointer (some ⟨bm + 1, 0, none⟩), .int .i64 i, .int .i64 j4, .int .i64 j8, .int .i64 j12, .int .u32 x, .int .u32 y] wx fun e w' => e = .returned (.tuple #[]) ∧ Arr w' (bm + 1) 88 (mixS (colK m z vr i) i j4 j8 j12 x y) ∧ wx.grownBy w' (some (bm + 1)) := fun wx hwx => hmix wx hwx hli hMi (by omega) (by omega) (by omega) (by omega) hxl hyl
          have hnew : mixS (colK m z vr i) i j4 j8 j12 x y = colK m z vr (i + 1) := by rw [colK, hx, hy, hz0, hz1, hj4, hj8, hj12]
          have b4 : IntKind.i64.wrap (4 + (i : Int)) = (j4 : Int) := (IntWalk.i64_in _ (by omega)).trans (by omega)
          have b8 : IntKind.i64.wrap (8 + (i : Int)) = (j8 : Int) := (IntWalk.i64_in _ (by omega)).trans (by omega)
          have b12 : IntKind.i64.wrap (12 + (i : Int)) = (j12 : Int) := (IntWalk.i64_in _ (by omega)).trans (by omega)
          have bd : IntKind.i64.wrap (2 * (i : Int)) = (d : Int) := (IntWalk.i64_in _ (by omega)).trans (by omega)
          have bd1 : IntKind.i64.wrap ((d : Int) + 1) = (d1 : Int) := (IntWalk.i64_in _ (by omega)).trans (by omega)
          have hil' : (i : Int) < 4 := by omega
          clear hmix
          have Hhz9 := Lib.hid hz9
          clear hz9
          have Hhm9 := Lib.hid hm9
          clear hm9
          have Hhli := Lib.hid hli
          clear hli
          have HhMi := Lib.hid hMi
          clear hMi
          have Hhz0 := Lib.hid hz0
          clear hz0
          have Hhz1 := Lib.hid hz1
          clear hz1
          have Hhx := Lib.hid hx
          clear hx
          have Hhy := Lib.hid hy
          clear hy
          have Hhj4 := Lib.hid hj4
          clear hj4
          have Hhj8 := Lib.hid hj8
          clear hj8
          have Hhj12 := Lib.hid hj12
          clear hj12
          have Hhdd := Lib.hid hdd
          clear hdd
          have Hhdd1 := Lib.hid hdd1
          clear hdd1
          have Hhmix2 := Lib.hid hmix2
          clear hmix2
          have Hhnew := Lib.hid hnew
          clear hnew
          have Hhvi := Lib.hid hvi
          clear hvi
          have Hhgi := Lib.hid hgi
          clear hgi
          go_wp2_with fail
          go_still_tail 20, (by kernel_rfl)
          clear b4 b8 b12 bd bd1
          go_wp2_with fail
          refine (Hhmix2.out wr.drew Hhvi.out).mono ?_
          rintro e w9 ⟨rfl, hv9, hg9⟩
          have hg9' := grownBy_trans (grownBy_drew Hhgi.out) hg9
          rw [Hhnew.out] at hv9
          have Hhv9 := Lib.hid hv9
          clear hv9
          have Hhg9' := Lib.hid hg9'
          clear hg9'
          clear hg9
          go_wp2_with fail
          exact ⟨⟨i + 1, by omega, by go_num, Hhv9.out, Hhg9'.out⟩, by simp [intOf]; omega⟩
        · obtain rfl : i = 4 := by omega
          rw [show ((4 : Nat) : Int) = 4 from rfl]
          obtain ⟨vc, hvce⟩ : ∃ vc, vc = colK m z vr 4 := ⟨_, rfl⟩
          rw [← hvce] at hvi
          have hlc : vc.length = 16 := by rw [hvce, colK_len]; exact Hhlr.out
          have hMc : M32 vc := by rw [hvce]; exact colK_m _ _ _ _ HhMr.out
          obtain ⟨wp, hwp⟩ : ∃ wp : World, wp = wr := ⟨_, rfl⟩
          subst hwp
          have Hhvce := Lib.hid hvce
          clear hvce
          have Hhlc := Lib.hid hlc
          clear hlc
          have HhMc := Lib.hid hMc
          clear hMc
          have Hhvi := Lib.hid hvi
          clear hvi
          have Hhgi := Lib.hid hgi
          clear hgi
          go_wp2_with fail
          go_loopw [71] (fun s71 wr => ∃ i : Nat, i ≤ 4 ∧ s71 = .int .i64 i ∧ Arr wr (bm + 1) 88 (diaK m z vc i) ∧ w7.grownBy wr (some (bm + 1))) (fun s71 _ => 4 - (intOf s71).toNat)
          case atStart => exact ⟨0, by omega, rfl, Hhvi.out, Hhgi.out⟩
          case round =>
            clear hi hil
            obtain ⟨i, hi, rfl, hvi, hgi⟩ := hrel
            by_cases hil : i < 4
            · have hz9 := Hhz7.out.grown hgi (show bz ≠ bm + 1 by omega)
              have hm9 := Hhm7.out.grown hgi (show bm ≠ bm + 1 by omega)
              have hli : (diaK m z vc i).length = 16 := by rw [diaK_len]; exact Hhlc.out
              have hMi : M32 (diaK m z vc i) := diaK_m _ _ _ _ HhMc.out
              obtain ⟨z0, hz0⟩ : ∃ z0, z0 = nt z (8 + 2 * i) := ⟨_, rfl⟩
              obtain ⟨z1, hz1⟩ : ∃ z1, z1 = nt z (9 + 2 * i) := ⟨_, rfl⟩
              have cz0 := hz9.cell (k := 8 + 2 * i) (by rw [Hhzl.out]; omega)
              have cz1 := hz9.cell (k := 9 + 2 * i) (by rw [Hhzl.out]; omega)
              have z0l : (z0 : Int) < 16 := by have := Hhzlt.out (8 + 2 * i); omega
              have z1l : (z1 : Int) < 16 := by have := Hhzlt.out (9 + 2 * i); omega
              have cm0 := hm9.cell (k := z0) (by rw [Hhml.out]; omega)
              have cm1 := hm9.cell (k := z1) (by rw [Hhml.out]; omega)
              obtain ⟨x, hx⟩ : ∃ x, x = nt m z0 := ⟨_, rfl⟩
              obtain ⟨y, hy⟩ : ∃ y, y = nt m z1 := ⟨_, rfl⟩
              have hxl : x < 4294967296 := by rw [hx]; exact hM _
              have hyl : y < 4294967296 := by rw [hy]; exact hM _
              obtain ⟨j1, j2, j3, k1, k2, k3, j4, j8, j12, d, d8, d9, b1, b2, b3, t1, t2, t3, b4, b8, b12, bd, bd8, bd9, hj4, hj8, hj12, hdd8, hdd9, g4, g8, g12, d8l, d9l⟩ := dia_facts i hil
              have Hb1 := Lib.hid b1
              clear b1
              have Hb2 := Lib.hid b2
              clear b2
              have Hb3 := Lib.hid b3
              clear b3
              have Ht1 := Lib.hid t1
              clear t1
              have Ht2 := Lib.hid t2
              clear t2
              have Ht3 := Lib.hid t3
              clear t3
              have Hb4 := Lib.hid b4
              clear b4
              have Hb8 := Lib.hid b8
              clear b8
              have Hb12 := Lib.hid b12
              clear b12
              have Hbd := Lib.hid bd
              clear bd
              have Hbd8 := Lib.hid bd8
              clear bd8
              have Hbd9 := Lib.hid bd9
              clear bd9
              rw [← hz1, ← hdd9] at cz1
              rw [← hz0, ← hdd8] at cz0
              rw [← hx] at cm0
              rw [← hy] at cm1
              have hmix := mix_calls (bm + 1) 88 (diaK m z vc i) i j4 j8 j12 x y
              have hmix2 : ∀ wx, Arr wx (bm + 1) 88 (diaK m z vc i) → Calls Tryd.prog 82 #[.pointer (some ⟨bm + 1, 0, none⟩), .int .i64 i, .int .i64 j4, .int .i64 j8, .int .i64 j12, .int .u32 x, .int .u32 y] wx fun e w' => e = .returned (.tuple #[]) ∧ Arr w' (bm + 1) 88 (mixS (diaK m z vc i) i j4 j8 j12 x y) ∧ wx.grownBy w' (some (bm + 1)) := fun wx hwx => hmix wx hwx hli hMi (by omega) g4 g8 g12 hxl hyl
              have hnew : mixS (diaK m z vc i) i j4 j8 j12 x y = diaK m z vc (i + 1) := by rw [diaK, hx, hy, hz0, hz1, hj4, hj8, hj12]
              have hil' : (i : Int) < 4 := by omega
              clear hmix
              have Hhz9 := Lib.hid hz9
              clear hz9
              have Hhm9 := Lib.hid hm9
              clear hm9
              have Hhli := Lib.hid hli
              clear hli
              have HhMi := Lib.hid hMi
              clear hMi
              have Hhz0 := Lib.hid hz0
              clear hz0
              have Hhz1 := Lib.hid hz1
              clear hz1
              have Hhx := Lib.hid hx
              clear hx
              have Hhy := Lib.hid hy
              clear hy
              have Hhj4 := Lib.hid hj4
              clear hj4
              have Hhj8 := Lib.hid hj8
              clear hj8
              have Hhj12 := Lib.hid hj12
              clear hj12
              have Hhdd8 := Lib.hid hdd8
              clear hdd8
              have Hhdd9 := Lib.hid hdd9
              clear hdd9
              have Hhmix2 := Lib.hid hmix2
              clear hmix2
              have Hhnew := Lib.hid hnew
              clear hnew
              have Hhvi := Lib.hid hvi
              clear hvi
              have Hhgi := Lib.hid hgi
              clear hgi
              have b1 := Hb1.out
              have b2 := Hb2.out
              have b3 := Hb3.out
              have t1 := Ht1.out
              have t2 := Ht2.out
              have t3 := Ht3.out
              have b4 := Hb4.out
              have b8 := Hb8.out
              have b12 := Hb12.out
              have bd := Hbd.out
              have bd8 := Hbd8.out
              have bd9 := Hbd9.out
              go_wp2_with fail
              go_still_tail 27, (by kernel_rfl)
              clear b1 b2 b3 t1 t2 t3 b4 b8 b12 bd bd8 bd9
              go_wp2_with fail
              refine (Hhmix2.out wr.drew Hhvi.out).mono ?_
              rintro e w9 ⟨rfl, hv9, hg9⟩
              have hg9' := grownBy_trans (grownBy_drew Hhgi.out) hg9
              rw [Hhnew.out] at hv9
              have Hhv9 := Lib.hid hv9
              clear hv9
              have Hhg9' := Lib.hid hg9'
              clear hg9'
              clear hg9
              go_wp2_with fail
              exact ⟨⟨i + 1, by omega, by go_num, Hhv9.out, Hhg9'.out⟩, by simp [intOf]; omega⟩
            · obtain rfl : i = 4 := by omega
              go_wp2_with fail
              refine ⟨⟨r + 1, by omega, by go_num, ?_, ?_⟩, by simp [intOf]; omega⟩
              · rw [roundsK, ← Hhvre.out, ← Hhze.out, ← Hhvce.out]; exact hvi
              · exact grownBy_trans Hhgr.out (grownBy_trans Hhg7.out hgi)
    · obtain rfl : r = 10 := by omega
      rw [show ((10 : Nat) : Int) = 10 from rfl]
      have hHr := HhH5.out.grown hgr (show w.heap.size ≠ bm + 1 by omega)
      have hRr := HhR5.out.grown hgr (show w.heap.size + 1 ≠ bm + 1 by omega)
      have hbelr : Below w.heap.size w wr := Hhbel5.out.trans (grownBy_below hgr (by omega) (by omega))
      have hoe : outK st vr 8 = compS st m n false := by rw [compS, hvre, Hhv3e.out]
      obtain ⟨wo, hwo⟩ : ∃ wo : World, wo = wr := ⟨_, rfl⟩
      subst hwo
      have Hhvr := Lib.hid hvr
      clear hvr
      have Hhgr := Lib.hid hgr
      clear hgr
      have Hhvre := Lib.hid hvre
      clear hvre
      have Hhlr := Lib.hid hlr
      clear hlr
      have HhMr := Lib.hid hMr
      clear hMr
      have HhHr := Lib.hid hHr
      clear hHr
      have HhRr := Lib.hid hRr
      clear hRr
      have Hhbelr := Lib.hid hbelr
      clear hbelr
      have Hhoe := Lib.hid hoe
      clear hoe
      go_wp2_with fail
      go_loopw [104] (fun s104 wr => ∃ i : Nat, i ≤ 8 ∧ s104 = .int .i64 i ∧ Arr wr w.heap.size 82 (outK st vr i) ∧ wo.grownBy wr (some w.heap.size)) (fun s104 _ => 8 - (intOf s104).toNat)
      case atStart => exact ⟨0, by omega, rfl, HhHr.out, grownBy_refl _ _⟩
      case round =>
        obtain ⟨i, hi, rfl, hoi, hgi⟩ := hrel
        have hlo : (outK st vr i).length = 8 := by rw [outK_len]; exact Hhh.out
        by_cases hil : i < 8
        · have hMo : M32 (outK st vr i) := outK_m _ _ _ hm HhMr.out
          have hv9 := Hhvr.out.grown hgi (show bm + 1 ≠ w.heap.size by omega)
          obtain ⟨j, hj⟩ : ∃ j, j = i + 8 := ⟨_, rfl⟩
          have ch := hoi.cell (k := i) (by omega)
          have fh := hoi.frozen i
          have ca := hv9.cell (k := i) (by rw [Hhlr.out]; omega)
          have cb := hv9.cell (k := j) (by rw [Hhlr.out]; omega)
          obtain ⟨x, hx⟩ : ∃ x, x = nt (outK st vr i) i := ⟨_, rfl⟩
          obtain ⟨a, ha⟩ : ∃ x, x = nt vr i := ⟨_, rfl⟩
          obtain ⟨b, hb⟩ : ∃ x, x = nt vr j := ⟨_, rfl⟩
          have hx1 : x < 4294967296 := by rw [hx]; exact hMo _
          have ha1 : a < 4294967296 := by rw [ha]; exact HhMr.out _
          have hb1 : b < 4294967296 := by rw [hb]; exact HhMr.out _
          rw [← hx] at ch
          rw [← ha] at ca
          rw [← hb] at cb
          obtain ⟨y, hy⟩ : ∃ y, y = a ^^^ b := ⟨_, rfl⟩
          obtain ⟨z, hz⟩ : ∃ z, z = x ^^^ y := ⟨_, rfl⟩
          have hy1 : y < 4294967296 := by rw [hy]; exact xor_lt32 ha1 hb1
          have e1 : bits .xor .u32 (a : Int) (b : Int) = (y : Int) := by rw [u32_xor_nat _ _ ha1 hb1, hy]
          have e2 : bits .xor .u32 (x : Int) (y : Int) = (z : Int) := by rw [u32_xor_nat _ _ hx1 hy1, hz]
          have hnew : (outK st vr i).set i z = outK st vr (i + 1) := by rw [outK, hz, hy, hx, ha, hb, hj]
          have b8 : IntKind.i64.wrap ((i : Int) + 8) = (j : Int) := (IntWalk.i64_in _ (by omega)).trans (by omega)
          have hil' : (i : Int) < 8 := by omega
          have hil2 : (i : Int) < 16 := by omega
          have hjl : (j : Int) < 16 := by omega
          have Hhoi := Lib.hid hoi
          clear hoi
          have Hhgi := Lib.hid hgi
          clear hgi
          have Hhlo := Lib.hid hlo
          clear hlo
          have HhMo := Lib.hid hMo
          clear hMo
          have Hhv9 := Lib.hid hv9
          clear hv9
          have Hhx := Lib.hid hx
          clear hx
          have Hha := Lib.hid ha
          clear ha
          have Hhb := Lib.hid hb
          clear hb
          have Hhy := Lib.hid hy
          clear hy
          have Hhz := Lib.hid hz
          clear hz
          have Hhnew := Lib.hid hnew
          clear hnew
          have Hhj := Lib.hid hj
          clear hj
          go_wp2_with fail
          go_still_tail 13, (by kernel_rfl)
          clear b8
          go_wp2_with fail
          refine ⟨⟨i + 1, by omega, by go_num, ?_, ?_⟩, by simp [intOf]; omega⟩
          · rw [← Hhnew.out]; exact Hhoi.out.store i z
          · exact grownBy_drew (grownBy_setCell Hhgi.out rfl _)
        · obtain rfl : i = 8 := by omega
          have hRi := HhRr.out.grown hgi (show w.heap.size + 1 ≠ w.heap.size by omega)
          have hbeli : Below w.heap.size w wr := Hhbelr.out.trans (grownBy_below hgi (by omega) (by have := Hhbelr.out.size; omega))
          rw [Hhoe.out] at hoi hlo
          have Hhoi := Lib.hid hoi
          clear hoi
          have Hhgi := Lib.hid hgi
          clear hgi
          have Hhlo := Lib.hid hlo
          clear hlo
          have HhRi := Lib.hid hRi
          clear hRi
          have Hhbeli := Lib.hid hbeli
          clear hbeli
          go_wp2_with (first | (refine wpList_load_row rfl 82 _ rfl w.heap.size rfl 82 (u32c (compS st m n false)) (0, 0) _ Hhoi.out und60 rfl (by rw [sz60, u32c_size, Hhlo.out]) ?_) | (refine wpList_store_row rfl 82 _ _ rfl (w.heap.size + 1) (u32c (compS st m n false)) rfl rfl 82 (u32c (List.replicate 8 0)) HhRi.out (by rw [sz60, u32c_size, Hhlo.out]) (by rw [u32c_size, u32c_size, Hhlo.out]; rfl) (u32c_one _) ?_))
          exact bodyPost_ret (results_cell_row (fn := Tryd.f72) rfl _ _ (w.heap.size + 1) 82 (u32c (compS st m n false)) (0, 0) _ rfl (HhRi.out.setRow _) und60 rfl (by rw [sz60, u32c_size, Hhlo.out])) rfl ⟨by rw [← Hhmm.out], below_setRow Hhbeli.out (by omega) _⟩
theorem compress_calls (last : Bool) (st : List Nat) (l : List UInt8) (n : Nat) (w : World) (hd : DigestAt w) (hl : l.length ≤ 64) (hh : st.length = 8) (hm : M32 st) (hn : n ≤ 9223372036854775807) :
    Calls Tryd.prog 72 #[.agg (u32c st), .string ⟨l.toArray⟩, .int .i64 n, .bool last] w fun e w' => e = .returned (.agg (u32c (compS st (wordsS l) n last))) ∧ Below w.heap.size w w' := by
  cases last
  · exact compress_false st l n w hd hl hh hm hn
  · exact compress_true st l n w hd hl hh hm hn
end Go.Proofs.YtjbpjmdnmnbonaaDoor
