/- The walk of digest's mix. -/
import Derived.Test.YtjbpjmdnmnbonaaDoorBase
import Derived.Laws.BitsAllLaws
import Derived.Laws.Rows
set_option linter.unusedSimpArgs false
set_option linter.unusedVariables false
namespace Go.Proofs.YtjbpjmdnmnbonaaDoor
open Go.RowKit

/-- a word turned to the right -/
def rotr (x n : Nat) : Nat := x / 2 ^ n ||| x * 2 ^ (32 - n) % 4294967296
theorem rotr_lt {x n : Nat} (h : x < 4294967296) : rotr x n < 4294967296 := by
  unfold rotr
  exact Nat.or_lt_two_pow (n := 32) (Nat.lt_of_le_of_lt (Nat.div_le_self _ _) h) (Nat.mod_lt _ (by omega))
theorem rot_eq {x n k m : Nat} (h : x < 4294967296) (hm : m = 2 ^ (32 - n)) (hk : k = 2 ^ n) : bits .or .u32 ((x : Int) * (m : Int) % 4294967296) ((x : Int) / (k : Int)) = ((rotr x n : Nat) : Int) := by
  subst hm hk
  have e1 : (x : Int) * ((2 ^ (32 - n) : Nat) : Int) % 4294967296 = ((x * 2 ^ (32 - n) % 4294967296 : Nat) : Int) := by rw [Int.natCast_emod, Int.natCast_mul]; rfl
  have e2 : (x : Int) / ((2 ^ n : Nat) : Int) = ((x / 2 ^ n : Nat) : Int) := by rw [Int.natCast_ediv]
  rw [e1, e2, u32_or_nat _ _ (Nat.mod_lt _ (by omega)) (Nat.lt_of_le_of_lt (Nat.div_le_self _ _) h), Nat.or_comm, rotr]
theorem rot16 (x : Nat) (w : World) (h : x < 4294967296) : Calls Tryd.prog 89 #[.int .u32 x, .int .i64 (-16)] w fun e w' => e = .returned (.int .u32 (rotr x 16 : Nat)) ∧ w' = w := by
  have e1 : bits .and .u64 (IntKind.u64.wrap (-16)) 31 = 16 := by decide
  go_enter Tryd.func89, Tryd.ntmps89
  go_wp2_with fail
  go_ret
  exact ⟨ret_int (rot_eq (n := 16) (m := 65536) (k := 65536) h (by decide) (by decide)), rfl⟩
theorem rot12 (x : Nat) (w : World) (h : x < 4294967296) : Calls Tryd.prog 89 #[.int .u32 x, .int .i64 (-12)] w fun e w' => e = .returned (.int .u32 (rotr x 12 : Nat)) ∧ w' = w := by
  have e1 : bits .and .u64 (IntKind.u64.wrap (-12)) 31 = 20 := by decide
  go_enter Tryd.func89, Tryd.ntmps89
  go_wp2_with fail
  go_ret
  exact ⟨ret_int (rot_eq (n := 12) (m := 1048576) (k := 4096) h (by decide) (by decide)), rfl⟩
theorem rot8 (x : Nat) (w : World) (h : x < 4294967296) : Calls Tryd.prog 89 #[.int .u32 x, .int .i64 (-8)] w fun e w' => e = .returned (.int .u32 (rotr x 8 : Nat)) ∧ w' = w := by
  have e1 : bits .and .u64 (IntKind.u64.wrap (-8)) 31 = 24 := by decide
  go_enter Tryd.func89, Tryd.ntmps89
  go_wp2_with fail
  go_ret
  exact ⟨ret_int (rot_eq (n := 8) (m := 16777216) (k := 256) h (by decide) (by decide)), rfl⟩
theorem rot7 (x : Nat) (w : World) (h : x < 4294967296) : Calls Tryd.prog 89 #[.int .u32 x, .int .i64 (-7)] w fun e w' => e = .returned (.int .u32 (rotr x 7 : Nat)) ∧ w' = w := by
  have e1 : bits .and .u64 (IntKind.u64.wrap (-7)) 31 = 25 := by decide
  go_enter Tryd.func89, Tryd.ntmps89
  go_wp2_with fail
  go_ret
  exact ⟨ret_int (rot_eq (n := 7) (m := 33554432) (k := 128) h (by decide) (by decide)), rfl⟩

def nt (v : List Nat) (k : Nat) : Nat := v[k]?.getD 0
def M32 (v : List Nat) : Prop := ∀ k, nt v k < 4294967296
def u32c (v : List Nat) : Array Value := (v.map fun n : Nat => Value.int .u32 (n : Int)).toArray
/-- the block g is an array of the words v -/
def Arr (w : World) (g : Nat) (t : TypeId) (v : List Nat) : Prop := w.heap[g]? = some (.cells (u32c v) t (0, 0))
theorem u32c_at (v : List Nat) (k : Nat) (h : k < v.length) : (u32c v)[k]? = some (.int .u32 (nt v k : Nat)) := by
  simp [u32c, nt, h]
theorem u32c_set (v : List Nat) (k x : Nat) : (u32c v).setIfInBounds k (.int .u32 (x : Nat)) = u32c (v.set k x) := by
  simp [u32c, List.map_set]
theorem Arr.cell {w : World} {g : Nat} {t : TypeId} {v : List Nat} (h : Arr w g t v) {k : Nat} (hk : k < v.length) : w.cell? ⟨g, k, none⟩ = some (.int .u32 (nt v k : Nat)) := by
  rw [cell_of_row w g k _ t _ h, u32c_at v k hk]
theorem Arr.frozen {w : World} {g : Nat} {t : TypeId} {v : List Nat} (h : Arr w g t v) (k : Nat) : w.frozen? ⟨g, k, none⟩ = false := frozen_of_row w g k _ t h
theorem Arr.store {w : World} {g : Nat} {t : TypeId} {v : List Nat} (h : Arr w g t v) (k x : Nat) : Arr (w.setCell ⟨g, k, none⟩ (.int .u32 (x : Nat))) g t (v.set k x) := by
  unfold Arr; rw [heap_setCell_same w g k _ t _ h, u32c_set]
theorem nt_set (v : List Nat) (k x j : Nat) : nt (v.set k x) j = if k = j ∧ j < v.length then x else nt v j := by
  unfold nt
  rw [List.getElem?_set]
  by_cases h : k = j
  · subst h
    by_cases hk : k < v.length
    · simp [hk]
    · rw [if_pos rfl, if_neg hk, if_neg (fun h => hk h.2)]
      simp [List.getElem?_eq_none (Nat.le_of_not_lt hk)]
  · simp [h]
theorem M32.set {v : List Nat} (h : M32 v) {k x : Nat} (hx : x < 4294967296) : M32 (v.set k x) := by
  intro j; rw [nt_set]; split; exact hx; exact h j
/-- the steps of the function G -/
def add3 (v : List Nat) (a b x : Nat) : List Nat := v.set a ((nt v a + (nt v b + x) % 4294967296) % 4294967296)
def xrot (v : List Nat) (d a n : Nat) : List Nat := v.set d (rotr (nt v d ^^^ nt v a) n)
def add2 (v : List Nat) (c d : Nat) : List Nat := v.set c ((nt v c + nt v d) % 4294967296)
def mixS (v : List Nat) (a b c d x y : Nat) : List Nat :=
  xrot (add2 (xrot (add3 (xrot (add2 (xrot (add3 v a b x) d a 16) c d) b c 12) a b y) d a 8) c d) b c 7
theorem add3_m (v : List Nat) (a b x : Nat) (h : M32 v) : M32 (add3 v a b x) := h.set (Nat.mod_lt _ (by omega))
theorem add2_m (v : List Nat) (a b : Nat) (h : M32 v) : M32 (add2 v a b) := h.set (Nat.mod_lt _ (by omega))
theorem xor_lt32 {a b : Nat} (ha : a < 4294967296) (hb : b < 4294967296) : a ^^^ b < 4294967296 := Nat.xor_lt_two_pow (n := 32) ha hb
theorem xrot_m (v : List Nat) (a b n : Nat) (h : M32 v) : M32 (xrot v a b n) := h.set (rotr_lt (xor_lt32 (h _) (h _)))
theorem add3_len (v : List Nat) (a b x : Nat) : (add3 v a b x).length = v.length := by simp [add3]
theorem add2_len (v : List Nat) (a b : Nat) : (add2 v a b).length = v.length := by simp [add2]
theorem xrot_len (v : List Nat) (a b n : Nat) : (xrot v a b n).length = v.length := by simp [xrot]
theorem mixS_len (v : List Nat) (a b c d x y : Nat) : (mixS v a b c d x y).length = v.length := by simp [mixS, add3_len, add2_len, xrot_len]
theorem mixS_m (v : List Nat) (a b c d x y : Nat) (h : M32 v) : M32 (mixS v a b c d x y) :=
  xrot_m _ _ _ _ (add2_m _ _ _ (xrot_m _ _ _ _ (add3_m _ _ _ _ (xrot_m _ _ _ _ (add2_m _ _ _ (xrot_m _ _ _ _ (add3_m _ _ _ _ h)))))))

theorem wrap32 (n : Nat) : IntKind.u32.wrap (n : Int) = ((n % 4294967296 : Nat) : Int) := by
  simp [IntKind.wrap, IntKind.signed, IntKind.bits]
theorem add3_val (a b x : Nat) : IntKind.u32.wrap ((a : Int) + IntKind.u32.wrap ((b : Int) + (x : Int))) = (((a + (b + x) % 4294967296) % 4294967296 : Nat) : Int) := by
  rw [← Int.natCast_add, wrap32, ← Int.natCast_add, wrap32]
theorem add2_val (a b : Nat) : IntKind.u32.wrap ((a : Int) + (b : Int)) = (((a + b) % 4294967296 : Nat) : Int) := by
  rw [← Int.natCast_add, wrap32]

set_option maxRecDepth 100000 in
set_option maxHeartbeats 4000000 in
theorem mix_calls (g : Nat) (t : TypeId) (v : List Nat) (a b c d x y : Nat) (w : World) (hv : Arr w g t v) (hl : v.length = 16) (hm : M32 v) (ha : a < 16) (hb : b < 16) (hc : c < 16) (hd : d < 16) (hx : x < 4294967296) (hy : y < 4294967296) :
    Calls Tryd.prog 82 #[.pointer (some ⟨g, 0, none⟩), .int .i64 a, .int .i64 b, .int .i64 c, .int .i64 d, .int .u32 x, .int .u32 y] w fun e w' => e = .returned (.tuple #[]) ∧ Arr w' g t (mixS v a b c d x y) ∧ w.grownBy w' (some g) := by
  have hg := grownBy_refl w (some g)
  have Hhl := Lib.hid hl
  clear hl
  have ai : (a : Int) < 16 := by omega
  have bi : (b : Int) < 16 := by omega
  have ci : (c : Int) < 16 := by omega
  have di : (d : Int) < 16 := by omega
  go_enter Tryd.func82, Tryd.ntmps82
  have cI1 := hv.cell (k := a) (by rw [Hhl.out]; exact ha)
  have cJ1 := hv.cell (k := b) (by rw [Hhl.out]; exact hb)
  have fI1 := hv.frozen a
  obtain ⟨z1, hz1⟩ : ∃ z, z = (nt v a + (nt v b + x) % 4294967296) % 4294967296 := ⟨_, rfl⟩
  have xx1 := (add3_val (nt v a) (nt v b) x).trans (congrArg Nat.cast hz1.symm)
  have Hxx1 := Lib.hid xx1
  clear xx1
  have Hhz1 := Lib.hid hz1
  clear hz1
  go_wp2_with fail
  go_still_tail 15, (by kernel_rfl)
  rw [Hxx1.out]
  go_wp2_with fail
  obtain ⟨v1, ev1⟩ : ∃ v', v' = add3 v a b x := ⟨_, rfl⟩
  have hv1 : Arr (w.setCell ⟨g, a, none⟩ (.int .u32 (z1 : Nat))).drew g t v1 := by rw [ev1, Hhz1.out]; exact hv.store a _
  have hg1 := grownBy_drew (grownBy_setCell hg (a := ⟨g, a, none⟩) rfl (.int .u32 (z1 : Nat)))
  have hl1 : v1.length = 16 := by rw [ev1, add3_len]; exact Hhl.out
  have hm1 : M32 v1 := by rw [ev1]; exact add3_m _ _ _ _ hm
  clear cI1 cJ1 fI1 hv hg
  generalize (w.setCell ⟨g, a, none⟩ (.int .u32 (z1 : Nat))).drew = w1 at *
  have Hev1 := Lib.hid ev1
  clear ev1
  have Hhl1 := Lib.hid hl1
  clear hl1
  have cI2 := hv1.cell (k := d) (by rw [Hhl1.out]; exact hd)
  have cJ2 := hv1.cell (k := a) (by rw [Hhl1.out]; exact ha)
  have fI2 := hv1.frozen d
  obtain ⟨z2, hz2⟩ : ∃ z, z = rotr (nt v1 d ^^^ nt v1 a) 16 := ⟨_, rfl⟩
  have xx2 := u32_xor_nat _ _ (hm1 d) (hm1 a)
  have rc2 : ∀ wx, Calls Tryd.prog 89 #[.int .u32 ((nt v1 d ^^^ nt v1 a : Nat) : Int), .int .i64 (-16)] wx fun e w' => e = .returned (.int .u32 (z2 : Nat)) ∧ w' = wx := by
    intro wx; rw [hz2]; exact rot16 _ wx (xor_lt32 (hm1 _) (hm1 _))
  have Hxx2 := Lib.hid xx2
  clear xx2
  have Hrc2 := Lib.hid rc2
  clear rc2
  have Hhz2 := Lib.hid hz2
  clear hz2
  go_wp2_with fail
  go_still_tail 16, (by kernel_rfl)
  rw [Hxx2.out]
  still_call (Hrc2.out _)
  repeat still_step
  refine wpStill_nil ?_
  go_wp2_with fail
  obtain ⟨v2, ev2⟩ : ∃ v', v' = xrot v1 d a 16 := ⟨_, rfl⟩
  have hv2 : Arr (w1.setCell ⟨g, d, none⟩ (.int .u32 (z2 : Nat))).drew g t v2 := by rw [ev2, Hhz2.out]; exact hv1.store d _
  have hg2 := grownBy_drew (grownBy_setCell hg1 (a := ⟨g, d, none⟩) rfl (.int .u32 (z2 : Nat)))
  have hl2 : v2.length = 16 := by rw [ev2, xrot_len]; exact Hhl1.out
  have hm2 : M32 v2 := by rw [ev2]; exact xrot_m _ _ _ _ hm1
  clear cI2 cJ2 fI2 hv1 hg1
  generalize (w1.setCell ⟨g, d, none⟩ (.int .u32 (z2 : Nat))).drew = w2 at *
  have Hev2 := Lib.hid ev2
  clear ev2
  have Hhl2 := Lib.hid hl2
  clear hl2
  have cI3 := hv2.cell (k := c) (by rw [Hhl2.out]; exact hc)
  have cJ3 := hv2.cell (k := d) (by rw [Hhl2.out]; exact hd)
  have fI3 := hv2.frozen c
  obtain ⟨z3, hz3⟩ : ∃ z, z = (nt v2 c + nt v2 d) % 4294967296 := ⟨_, rfl⟩
  have xx3 := (add2_val (nt v2 c) (nt v2 d)).trans (congrArg Nat.cast hz3.symm)
  have Hxx3 := Lib.hid xx3
  clear xx3
  have Hhz3 := Lib.hid hz3
  clear hz3
  go_wp2_with fail
  go_still_tail 13, (by kernel_rfl)
  rw [Hxx3.out]
  go_wp2_with fail
  obtain ⟨v3, ev3⟩ : ∃ v', v' = add2 v2 c d := ⟨_, rfl⟩
  have hv3 : Arr (w2.setCell ⟨g, c, none⟩ (.int .u32 (z3 : Nat))).drew g t v3 := by rw [ev3, Hhz3.out]; exact hv2.store c _
  have hg3 := grownBy_drew (grownBy_setCell hg2 (a := ⟨g, c, none⟩) rfl (.int .u32 (z3 : Nat)))
  have hl3 : v3.length = 16 := by rw [ev3, add2_len]; exact Hhl2.out
  have hm3 : M32 v3 := by rw [ev3]; exact add2_m _ _ _ hm2
  clear cI3 cJ3 fI3 hv2 hg2
  generalize (w2.setCell ⟨g, c, none⟩ (.int .u32 (z3 : Nat))).drew = w3 at *
  have Hev3 := Lib.hid ev3
  clear ev3
  have Hhl3 := Lib.hid hl3
  clear hl3
  have cI4 := hv3.cell (k := b) (by rw [Hhl3.out]; exact hb)
  have cJ4 := hv3.cell (k := c) (by rw [Hhl3.out]; exact hc)
  have fI4 := hv3.frozen b
  obtain ⟨z4, hz4⟩ : ∃ z, z = rotr (nt v3 b ^^^ nt v3 c) 12 := ⟨_, rfl⟩
  have xx4 := u32_xor_nat _ _ (hm3 b) (hm3 c)
  have rc4 : ∀ wx, Calls Tryd.prog 89 #[.int .u32 ((nt v3 b ^^^ nt v3 c : Nat) : Int), .int .i64 (-12)] wx fun e w' => e = .returned (.int .u32 (z4 : Nat)) ∧ w' = wx := by
    intro wx; rw [hz4]; exact rot12 _ wx (xor_lt32 (hm3 _) (hm3 _))
  have Hxx4 := Lib.hid xx4
  clear xx4
  have Hrc4 := Lib.hid rc4
  clear rc4
  have Hhz4 := Lib.hid hz4
  clear hz4
  go_wp2_with fail
  go_still_tail 16, (by kernel_rfl)
  rw [Hxx4.out]
  still_call (Hrc4.out _)
  repeat still_step
  refine wpStill_nil ?_
  go_wp2_with fail
  obtain ⟨v4, ev4⟩ : ∃ v', v' = xrot v3 b c 12 := ⟨_, rfl⟩
  have hv4 : Arr (w3.setCell ⟨g, b, none⟩ (.int .u32 (z4 : Nat))).drew g t v4 := by rw [ev4, Hhz4.out]; exact hv3.store b _
  have hg4 := grownBy_drew (grownBy_setCell hg3 (a := ⟨g, b, none⟩) rfl (.int .u32 (z4 : Nat)))
  have hl4 : v4.length = 16 := by rw [ev4, xrot_len]; exact Hhl3.out
  have hm4 : M32 v4 := by rw [ev4]; exact xrot_m _ _ _ _ hm3
  clear cI4 cJ4 fI4 hv3 hg3
  generalize (w3.setCell ⟨g, b, none⟩ (.int .u32 (z4 : Nat))).drew = w4 at *
  have Hev4 := Lib.hid ev4
  clear ev4
  have Hhl4 := Lib.hid hl4
  clear hl4
  have cI5 := hv4.cell (k := a) (by rw [Hhl4.out]; exact ha)
  have cJ5 := hv4.cell (k := b) (by rw [Hhl4.out]; exact hb)
  have fI5 := hv4.frozen a
  obtain ⟨z5, hz5⟩ : ∃ z, z = (nt v4 a + (nt v4 b + y) % 4294967296) % 4294967296 := ⟨_, rfl⟩
  have xx5 := (add3_val (nt v4 a) (nt v4 b) y).trans (congrArg Nat.cast hz5.symm)
  have Hxx5 := Lib.hid xx5
  clear xx5
  have Hhz5 := Lib.hid hz5
  clear hz5
  go_wp2_with fail
  go_still_tail 15, (by kernel_rfl)
  rw [Hxx5.out]
  go_wp2_with fail
  obtain ⟨v5, ev5⟩ : ∃ v', v' = add3 v4 a b y := ⟨_, rfl⟩
  have hv5 : Arr (w4.setCell ⟨g, a, none⟩ (.int .u32 (z5 : Nat))).drew g t v5 := by rw [ev5, Hhz5.out]; exact hv4.store a _
  have hg5 := grownBy_drew (grownBy_setCell hg4 (a := ⟨g, a, none⟩) rfl (.int .u32 (z5 : Nat)))
  have hl5 : v5.length = 16 := by rw [ev5, add3_len]; exact Hhl4.out
  have hm5 : M32 v5 := by rw [ev5]; exact add3_m _ _ _ _ hm4
  clear cI5 cJ5 fI5 hv4 hg4
  generalize (w4.setCell ⟨g, a, none⟩ (.int .u32 (z5 : Nat))).drew = w5 at *
  have Hev5 := Lib.hid ev5
  clear ev5
  have Hhl5 := Lib.hid hl5
  clear hl5
  have cI6 := hv5.cell (k := d) (by rw [Hhl5.out]; exact hd)
  have cJ6 := hv5.cell (k := a) (by rw [Hhl5.out]; exact ha)
  have fI6 := hv5.frozen d
  obtain ⟨z6, hz6⟩ : ∃ z, z = rotr (nt v5 d ^^^ nt v5 a) 8 := ⟨_, rfl⟩
  have xx6 := u32_xor_nat _ _ (hm5 d) (hm5 a)
  have rc6 : ∀ wx, Calls Tryd.prog 89 #[.int .u32 ((nt v5 d ^^^ nt v5 a : Nat) : Int), .int .i64 (-8)] wx fun e w' => e = .returned (.int .u32 (z6 : Nat)) ∧ w' = wx := by
    intro wx; rw [hz6]; exact rot8 _ wx (xor_lt32 (hm5 _) (hm5 _))
  have Hxx6 := Lib.hid xx6
  clear xx6
  have Hrc6 := Lib.hid rc6
  clear rc6
  have Hhz6 := Lib.hid hz6
  clear hz6
  go_wp2_with fail
  go_still_tail 16, (by kernel_rfl)
  rw [Hxx6.out]
  still_call (Hrc6.out _)
  repeat still_step
  refine wpStill_nil ?_
  go_wp2_with fail
  obtain ⟨v6, ev6⟩ : ∃ v', v' = xrot v5 d a 8 := ⟨_, rfl⟩
  have hv6 : Arr (w5.setCell ⟨g, d, none⟩ (.int .u32 (z6 : Nat))).drew g t v6 := by rw [ev6, Hhz6.out]; exact hv5.store d _
  have hg6 := grownBy_drew (grownBy_setCell hg5 (a := ⟨g, d, none⟩) rfl (.int .u32 (z6 : Nat)))
  have hl6 : v6.length = 16 := by rw [ev6, xrot_len]; exact Hhl5.out
  have hm6 : M32 v6 := by rw [ev6]; exact xrot_m _ _ _ _ hm5
  clear cI6 cJ6 fI6 hv5 hg5
  generalize (w5.setCell ⟨g, d, none⟩ (.int .u32 (z6 : Nat))).drew = w6 at *
  have Hev6 := Lib.hid ev6
  clear ev6
  have Hhl6 := Lib.hid hl6
  clear hl6
  have cI7 := hv6.cell (k := c) (by rw [Hhl6.out]; exact hc)
  have cJ7 := hv6.cell (k := d) (by rw [Hhl6.out]; exact hd)
  have fI7 := hv6.frozen c
  obtain ⟨z7, hz7⟩ : ∃ z, z = (nt v6 c + nt v6 d) % 4294967296 := ⟨_, rfl⟩
  have xx7 := (add2_val (nt v6 c) (nt v6 d)).trans (congrArg Nat.cast hz7.symm)
  have Hxx7 := Lib.hid xx7
  clear xx7
  have Hhz7 := Lib.hid hz7
  clear hz7
  go_wp2_with fail
  go_still_tail 13, (by kernel_rfl)
  rw [Hxx7.out]
  go_wp2_with fail
  obtain ⟨v7, ev7⟩ : ∃ v', v' = add2 v6 c d := ⟨_, rfl⟩
  have hv7 : Arr (w6.setCell ⟨g, c, none⟩ (.int .u32 (z7 : Nat))).drew g t v7 := by rw [ev7, Hhz7.out]; exact hv6.store c _
  have hg7 := grownBy_drew (grownBy_setCell hg6 (a := ⟨g, c, none⟩) rfl (.int .u32 (z7 : Nat)))
  have hl7 : v7.length = 16 := by rw [ev7, add2_len]; exact Hhl6.out
  have hm7 : M32 v7 := by rw [ev7]; exact add2_m _ _ _ hm6
  clear cI7 cJ7 fI7 hv6 hg6
  generalize (w6.setCell ⟨g, c, none⟩ (.int .u32 (z7 : Nat))).drew = w7 at *
  have Hev7 := Lib.hid ev7
  clear ev7
  have Hhl7 := Lib.hid hl7
  clear hl7
  have cI8 := hv7.cell (k := b) (by rw [Hhl7.out]; exact hb)
  have cJ8 := hv7.cell (k := c) (by rw [Hhl7.out]; exact hc)
  have fI8 := hv7.frozen b
  obtain ⟨z8, hz8⟩ : ∃ z, z = rotr (nt v7 b ^^^ nt v7 c) 7 := ⟨_, rfl⟩
  have xx8 := u32_xor_nat _ _ (hm7 b) (hm7 c)
  have rc8 : ∀ wx, Calls Tryd.prog 89 #[.int .u32 ((nt v7 b ^^^ nt v7 c : Nat) : Int), .int .i64 (-7)] wx fun e w' => e = .returned (.int .u32 (z8 : Nat)) ∧ w' = wx := by
    intro wx; rw [hz8]; exact rot7 _ wx (xor_lt32 (hm7 _) (hm7 _))
  have Hxx8 := Lib.hid xx8
  clear xx8
  have Hrc8 := Lib.hid rc8
  clear rc8
  have Hhz8 := Lib.hid hz8
  clear hz8
  go_wp2_with fail
  go_still_tail 16, (by kernel_rfl)
  rw [Hxx8.out]
  still_call (Hrc8.out _)
  repeat still_step
  refine wpStill_nil ?_
  go_wp2_with fail
  obtain ⟨v8, ev8⟩ : ∃ v', v' = xrot v7 b c 7 := ⟨_, rfl⟩
  have hv8 : Arr (w7.setCell ⟨g, b, none⟩ (.int .u32 (z8 : Nat))).drew g t v8 := by rw [ev8, Hhz8.out]; exact hv7.store b _
  have hg8 := grownBy_drew (grownBy_setCell hg7 (a := ⟨g, b, none⟩) rfl (.int .u32 (z8 : Nat)))
  have hl8 : v8.length = 16 := by rw [ev8, xrot_len]; exact Hhl7.out
  have hm8 : M32 v8 := by rw [ev8]; exact xrot_m _ _ _ _ hm7
  clear cI8 cJ8 fI8 hv7 hg7
  generalize (w7.setCell ⟨g, b, none⟩ (.int .u32 (z8 : Nat))).drew = w8 at *
  have Hev8 := Lib.hid ev8
  clear ev8
  have Hhl8 := Lib.hid hl8
  clear hl8

  refine bodyPost_end (results_none rfl _ _ _) rfl ⟨rfl, ?_⟩
  exact ⟨by
    have e : mixS v a b c d x y = v8 := by rw [Hev8.out, Hev7.out, Hev6.out, Hev5.out, Hev4.out, Hev3.out, Hev2.out, Hev1.out]; rfl
    rw [e]; exact hv8, hg8⟩
end Go.Proofs.YtjbpjmdnmnbonaaDoor
