/- The walk of the reference's g. -/
import Derived.Test.YtjbpjmdnmnbonaaDoorR1
set_option linter.unusedSimpArgs false
set_option linter.unusedVariables false
namespace Go.Proofs.YtjbpjmdnmnbonaaDoor
open Go.RowKit

/-- the slice v (base at g) owns the words l -/
def OwnW (w : World) (base g cap : Nat) (l : List Nat) : Prop := w.ownsRow base 60 1 (.slice (some ⟨g, 0, none⟩) 16 cap) 16 (cells32 l)
theorem cells32_at (l : List Nat) (k : Nat) (h : k < l.length) : (cells32 l)[k]? = some (.int .u32 (nt l k : Nat)) := by simp [cells32, nt, h]
theorem OwnW.cell {w : World} {base g cap : Nat} {l : List Nat} (h : OwnW w base g cap l) (hl : l.length = 16) {k : Nat} (hk : k < 16) : w.cell? ⟨g, k, none⟩ = some (.int .u32 (nt l k : Nat)) := by
  rw [World.ownsRow.cellAt h k (by omega), cells32_at l k (by omega)]
theorem OwnW.frozen {w : World} {base g cap : Nat} {l : List Nat} (h : OwnW w base g cap l) (k : Nat) : w.frozen? ⟨g, k, none⟩ = false := World.ownsRow.frozenAt h k
theorem OwnW.store {w : World} {base g cap : Nat} {l : List Nat} (h : OwnW w base g cap l) (k x : Nat) : OwnW (w.setCell ⟨g, k, none⟩ (.int .u32 (x : Nat))) base g cap (l.set k x) := by
  have := (World.ownsRow.stored h k (.int .u32 (x : Nat))).1
  unfold OwnW
  rw [show cells32 (l.set k x) = (cells32 l).set k (.int .u32 (x : Nat)) by simp [cells32, List.map_set]]
  exact this
theorem OwnW.drew {w : World} {base g cap : Nat} {l : List Nat} (h : OwnW w base g cap l) : OwnW w.drew base g cap l := World.ownsRow.drew h
theorem add3_val2 (a b x : Nat) : IntKind.u32.wrap (IntKind.u32.wrap ((a : Int) + (b : Int)) + (x : Int)) = (((a + (b + x) % 4294967296) % 4294967296 : Nat) : Int) := by
  rw [← Int.natCast_add, wrap32, ← Int.natCast_add, wrap32]
  congr 1; omega
set_option maxRecDepth 100000 in
set_option maxHeartbeats 4000000 in
theorem g_calls (base g cap : Nat) (v : List Nat) (a b c d x y : Nat) (w : World) (hv : OwnW w base g cap v) (hl : v.length = 16) (hm : M32 v) (ha : a < 16) (hb : b < 16) (hc : c < 16) (hd : d < 16) (hx : x < 4294967296) (hy : y < 4294967296) :
    Calls Tryd.prog 69 #[.slice (some ⟨g, 0, none⟩) 16 cap, .int .i64 a, .int .i64 b, .int .i64 c, .int .i64 d, .int .u32 x, .int .u32 y] w fun e w' => e = .returned (.tuple #[]) ∧ OwnW w' base g cap (mixS v a b c d x y) ∧ w.grownBy w' (some g) := by
  have hg := grownBy_refl w (some g)
  have Hhl := Lib.hid hl
  clear hl
  have ai : (a : Int) < 16 := by omega
  have bi : (b : Int) < 16 := by omega
  have ci : (c : Int) < 16 := by omega
  have di : (d : Int) < 16 := by omega
  go_enter Tryd.func69, Tryd.ntmps69
  have cI1 := hv.cell Hhl.out ha
  have cJ1 := hv.cell Hhl.out hb
  have fI1 := hv.frozen a
  obtain ⟨z1, hz1⟩ : ∃ z, z = (nt v a + (nt v b + x) % 4294967296) % 4294967296 := ⟨_, rfl⟩
  have xx1 := (add3_val2 (nt v a) (nt v b) x).trans (congrArg Nat.cast hz1.symm)
  have Hxx1 := Lib.hid xx1
  clear xx1
  have Hhz1 := Lib.hid hz1
  clear hz1
  go_wp2_with fail
  go_still_tail 14, (by kernel_rfl)
  rw [Hxx1.out]
  go_wp2_with fail
  obtain ⟨v1, ev1⟩ : ∃ v', v' = add3 v a b x := ⟨_, rfl⟩
  have hv1 : OwnW (w.setCell ⟨g, a, none⟩ (.int .u32 (z1 : Nat))).drew base g cap v1 := by rw [ev1, Hhz1.out]; exact (hv.store a _).drew
  have hg1 := grownBy_drew (grownBy_setCell hg (a := ⟨g, a, none⟩) rfl (.int .u32 (z1 : Nat)))
  have hl1 : v1.length = 16 := by rw [ev1, add3_len]; exact Hhl.out
  have hm1 : M32 v1 := by rw [ev1]; exact add3_m _ _ _ _ hm
  clear cI1 cJ1 fI1 hv hg
  generalize (w.setCell ⟨g, a, none⟩ (.int .u32 (z1 : Nat))).drew = w1 at *
  have Hev1 := Lib.hid ev1
  clear ev1
  have Hhl1 := Lib.hid hl1
  clear hl1
  have cI2 := hv1.cell Hhl1.out hd
  have cJ2 := hv1.cell Hhl1.out ha
  have fI2 := hv1.frozen d
  obtain ⟨z2, hz2⟩ : ∃ z, z = rotr (nt v1 d ^^^ nt v1 a) 16 := ⟨_, rfl⟩
  have xx2 := u32_xor_nat _ _ (hm1 d) (hm1 a)
  have rc2 : ∀ wx, Calls Tryd.prog 80 #[.int .u32 ((nt v1 d ^^^ nt v1 a : Nat) : Int), .int .u32 16] wx fun e w' => e = .returned (.int .u32 (z2 : Nat)) ∧ w' = wx := by
    intro wx; rw [hz2]; exact right16 _ wx (xor_lt32 (hm1 _) (hm1 _))
  have Hxx2 := Lib.hid xx2
  clear xx2
  have Hrc2 := Lib.hid rc2
  clear rc2
  have Hhz2 := Lib.hid hz2
  clear hz2
  go_wp2_with fail
  go_still_tail 13, (by kernel_rfl)
  rw [Hxx2.out]
  still_call (Hrc2.out _)
  repeat still_step
  refine wpStill_nil ?_
  go_wp2_with fail
  obtain ⟨v2, ev2⟩ : ∃ v', v' = xrot v1 d a 16 := ⟨_, rfl⟩
  have hv2 : OwnW (w1.setCell ⟨g, d, none⟩ (.int .u32 (z2 : Nat))).drew base g cap v2 := by rw [ev2, Hhz2.out]; exact (hv1.store d _).drew
  have hg2 := grownBy_drew (grownBy_setCell hg1 (a := ⟨g, d, none⟩) rfl (.int .u32 (z2 : Nat)))
  have hl2 : v2.length = 16 := by rw [ev2, xrot_len]; exact Hhl1.out
  have hm2 : M32 v2 := by rw [ev2]; exact xrot_m _ _ _ _ hm1
  clear cI2 cJ2 fI2 hv1 hg1
  generalize (w1.setCell ⟨g, d, none⟩ (.int .u32 (z2 : Nat))).drew = w2 at *
  have Hev2 := Lib.hid ev2
  clear ev2
  have Hhl2 := Lib.hid hl2
  clear hl2
  have cI3 := hv2.cell Hhl2.out hc
  have cJ3 := hv2.cell Hhl2.out hd
  have fI3 := hv2.frozen c
  obtain ⟨z3, hz3⟩ : ∃ z, z = (nt v2 c + nt v2 d) % 4294967296 := ⟨_, rfl⟩
  have xx3 := (add2_val (nt v2 c) (nt v2 d)).trans (congrArg Nat.cast hz3.symm)
  have Hxx3 := Lib.hid xx3
  clear xx3
  have Hhz3 := Lib.hid hz3
  clear hz3
  go_wp2_with fail
  go_still_tail 12, (by kernel_rfl)
  rw [Hxx3.out]
  go_wp2_with fail
  obtain ⟨v3, ev3⟩ : ∃ v', v' = add2 v2 c d := ⟨_, rfl⟩
  have hv3 : OwnW (w2.setCell ⟨g, c, none⟩ (.int .u32 (z3 : Nat))).drew base g cap v3 := by rw [ev3, Hhz3.out]; exact (hv2.store c _).drew
  have hg3 := grownBy_drew (grownBy_setCell hg2 (a := ⟨g, c, none⟩) rfl (.int .u32 (z3 : Nat)))
  have hl3 : v3.length = 16 := by rw [ev3, add2_len]; exact Hhl2.out
  have hm3 : M32 v3 := by rw [ev3]; exact add2_m _ _ _ hm2
  clear cI3 cJ3 fI3 hv2 hg2
  generalize (w2.setCell ⟨g, c, none⟩ (.int .u32 (z3 : Nat))).drew = w3 at *
  have Hev3 := Lib.hid ev3
  clear ev3
  have Hhl3 := Lib.hid hl3
  clear hl3
  have cI4 := hv3.cell Hhl3.out hb
  have cJ4 := hv3.cell Hhl3.out hc
  have fI4 := hv3.frozen b
  obtain ⟨z4, hz4⟩ : ∃ z, z = rotr (nt v3 b ^^^ nt v3 c) 12 := ⟨_, rfl⟩
  have xx4 := u32_xor_nat _ _ (hm3 b) (hm3 c)
  have rc4 : ∀ wx, Calls Tryd.prog 80 #[.int .u32 ((nt v3 b ^^^ nt v3 c : Nat) : Int), .int .u32 12] wx fun e w' => e = .returned (.int .u32 (z4 : Nat)) ∧ w' = wx := by
    intro wx; rw [hz4]; exact right12 _ wx (xor_lt32 (hm3 _) (hm3 _))
  have Hxx4 := Lib.hid xx4
  clear xx4
  have Hrc4 := Lib.hid rc4
  clear rc4
  have Hhz4 := Lib.hid hz4
  clear hz4
  go_wp2_with fail
  go_still_tail 13, (by kernel_rfl)
  rw [Hxx4.out]
  still_call (Hrc4.out _)
  repeat still_step
  refine wpStill_nil ?_
  go_wp2_with fail
  obtain ⟨v4, ev4⟩ : ∃ v', v' = xrot v3 b c 12 := ⟨_, rfl⟩
  have hv4 : OwnW (w3.setCell ⟨g, b, none⟩ (.int .u32 (z4 : Nat))).drew base g cap v4 := by rw [ev4, Hhz4.out]; exact (hv3.store b _).drew
  have hg4 := grownBy_drew (grownBy_setCell hg3 (a := ⟨g, b, none⟩) rfl (.int .u32 (z4 : Nat)))
  have hl4 : v4.length = 16 := by rw [ev4, xrot_len]; exact Hhl3.out
  have hm4 : M32 v4 := by rw [ev4]; exact xrot_m _ _ _ _ hm3
  clear cI4 cJ4 fI4 hv3 hg3
  generalize (w3.setCell ⟨g, b, none⟩ (.int .u32 (z4 : Nat))).drew = w4 at *
  have Hev4 := Lib.hid ev4
  clear ev4
  have Hhl4 := Lib.hid hl4
  clear hl4
  have cI5 := hv4.cell Hhl4.out ha
  have cJ5 := hv4.cell Hhl4.out hb
  have fI5 := hv4.frozen a
  obtain ⟨z5, hz5⟩ : ∃ z, z = (nt v4 a + (nt v4 b + y) % 4294967296) % 4294967296 := ⟨_, rfl⟩
  have xx5 := (add3_val2 (nt v4 a) (nt v4 b) y).trans (congrArg Nat.cast hz5.symm)
  have Hxx5 := Lib.hid xx5
  clear xx5
  have Hhz5 := Lib.hid hz5
  clear hz5
  go_wp2_with fail
  go_still_tail 14, (by kernel_rfl)
  rw [Hxx5.out]
  go_wp2_with fail
  obtain ⟨v5, ev5⟩ : ∃ v', v' = add3 v4 a b y := ⟨_, rfl⟩
  have hv5 : OwnW (w4.setCell ⟨g, a, none⟩ (.int .u32 (z5 : Nat))).drew base g cap v5 := by rw [ev5, Hhz5.out]; exact (hv4.store a _).drew
  have hg5 := grownBy_drew (grownBy_setCell hg4 (a := ⟨g, a, none⟩) rfl (.int .u32 (z5 : Nat)))
  have hl5 : v5.length = 16 := by rw [ev5, add3_len]; exact Hhl4.out
  have hm5 : M32 v5 := by rw [ev5]; exact add3_m _ _ _ _ hm4
  clear cI5 cJ5 fI5 hv4 hg4
  generalize (w4.setCell ⟨g, a, none⟩ (.int .u32 (z5 : Nat))).drew = w5 at *
  have Hev5 := Lib.hid ev5
  clear ev5
  have Hhl5 := Lib.hid hl5
  clear hl5
  have cI6 := hv5.cell Hhl5.out hd
  have cJ6 := hv5.cell Hhl5.out ha
  have fI6 := hv5.frozen d
  obtain ⟨z6, hz6⟩ : ∃ z, z = rotr (nt v5 d ^^^ nt v5 a) 8 := ⟨_, rfl⟩
  have xx6 := u32_xor_nat _ _ (hm5 d) (hm5 a)
  have rc6 : ∀ wx, Calls Tryd.prog 80 #[.int .u32 ((nt v5 d ^^^ nt v5 a : Nat) : Int), .int .u32 8] wx fun e w' => e = .returned (.int .u32 (z6 : Nat)) ∧ w' = wx := by
    intro wx; rw [hz6]; exact right8 _ wx (xor_lt32 (hm5 _) (hm5 _))
  have Hxx6 := Lib.hid xx6
  clear xx6
  have Hrc6 := Lib.hid rc6
  clear rc6
  have Hhz6 := Lib.hid hz6
  clear hz6
  go_wp2_with fail
  go_still_tail 13, (by kernel_rfl)
  rw [Hxx6.out]
  still_call (Hrc6.out _)
  repeat still_step
  refine wpStill_nil ?_
  go_wp2_with fail
  obtain ⟨v6, ev6⟩ : ∃ v', v' = xrot v5 d a 8 := ⟨_, rfl⟩
  have hv6 : OwnW (w5.setCell ⟨g, d, none⟩ (.int .u32 (z6 : Nat))).drew base g cap v6 := by rw [ev6, Hhz6.out]; exact (hv5.store d _).drew
  have hg6 := grownBy_drew (grownBy_setCell hg5 (a := ⟨g, d, none⟩) rfl (.int .u32 (z6 : Nat)))
  have hl6 : v6.length = 16 := by rw [ev6, xrot_len]; exact Hhl5.out
  have hm6 : M32 v6 := by rw [ev6]; exact xrot_m _ _ _ _ hm5
  clear cI6 cJ6 fI6 hv5 hg5
  generalize (w5.setCell ⟨g, d, none⟩ (.int .u32 (z6 : Nat))).drew = w6 at *
  have Hev6 := Lib.hid ev6
  clear ev6
  have Hhl6 := Lib.hid hl6
  clear hl6
  have cI7 := hv6.cell Hhl6.out hc
  have cJ7 := hv6.cell Hhl6.out hd
  have fI7 := hv6.frozen c
  obtain ⟨z7, hz7⟩ : ∃ z, z = (nt v6 c + nt v6 d) % 4294967296 := ⟨_, rfl⟩
  have xx7 := (add2_val (nt v6 c) (nt v6 d)).trans (congrArg Nat.cast hz7.symm)
  have Hxx7 := Lib.hid xx7
  clear xx7
  have Hhz7 := Lib.hid hz7
  clear hz7
  go_wp2_with fail
  go_still_tail 12, (by kernel_rfl)
  rw [Hxx7.out]
  go_wp2_with fail
  obtain ⟨v7, ev7⟩ : ∃ v', v' = add2 v6 c d := ⟨_, rfl⟩
  have hv7 : OwnW (w6.setCell ⟨g, c, none⟩ (.int .u32 (z7 : Nat))).drew base g cap v7 := by rw [ev7, Hhz7.out]; exact (hv6.store c _).drew
  have hg7 := grownBy_drew (grownBy_setCell hg6 (a := ⟨g, c, none⟩) rfl (.int .u32 (z7 : Nat)))
  have hl7 : v7.length = 16 := by rw [ev7, add2_len]; exact Hhl6.out
  have hm7 : M32 v7 := by rw [ev7]; exact add2_m _ _ _ hm6
  clear cI7 cJ7 fI7 hv6 hg6
  generalize (w6.setCell ⟨g, c, none⟩ (.int .u32 (z7 : Nat))).drew = w7 at *
  have Hev7 := Lib.hid ev7
  clear ev7
  have Hhl7 := Lib.hid hl7
  clear hl7
  have cI8 := hv7.cell Hhl7.out hb
  have cJ8 := hv7.cell Hhl7.out hc
  have fI8 := hv7.frozen b
  obtain ⟨z8, hz8⟩ : ∃ z, z = rotr (nt v7 b ^^^ nt v7 c) 7 := ⟨_, rfl⟩
  have xx8 := u32_xor_nat _ _ (hm7 b) (hm7 c)
  have rc8 : ∀ wx, Calls Tryd.prog 80 #[.int .u32 ((nt v7 b ^^^ nt v7 c : Nat) : Int), .int .u32 7] wx fun e w' => e = .returned (.int .u32 (z8 : Nat)) ∧ w' = wx := by
    intro wx; rw [hz8]; exact right7 _ wx (xor_lt32 (hm7 _) (hm7 _))
  have Hxx8 := Lib.hid xx8
  clear xx8
  have Hrc8 := Lib.hid rc8
  clear rc8
  have Hhz8 := Lib.hid hz8
  clear hz8
  go_wp2_with fail
  go_still_tail 13, (by kernel_rfl)
  rw [Hxx8.out]
  still_call (Hrc8.out _)
  repeat still_step
  refine wpStill_nil ?_
  go_wp2_with fail
  obtain ⟨v8, ev8⟩ : ∃ v', v' = xrot v7 b c 7 := ⟨_, rfl⟩
  have hv8 : OwnW (w7.setCell ⟨g, b, none⟩ (.int .u32 (z8 : Nat))).drew base g cap v8 := by rw [ev8, Hhz8.out]; exact (hv7.store b _).drew
  have hg8 := grownBy_drew (grownBy_setCell hg7 (a := ⟨g, b, none⟩) rfl (.int .u32 (z8 : Nat)))
  have hl8 : v8.length = 16 := by rw [ev8, xrot_len]; exact Hhl7.out
  have hm8 : M32 v8 := by rw [ev8]; exact xrot_m _ _ _ _ hm7
  clear cI8 cJ8 fI8 hv7 hg7
  generalize (w7.setCell ⟨g, b, none⟩ (.int .u32 (z8 : Nat))).drew = w8 at *
  have Hev8 := Lib.hid ev8
  clear ev8
  have Hhl8 := Lib.hid hl8
  clear hl8
  refine bodyPost_end (results_none rfl _ _ _) rfl ⟨rfl, ?_⟩
  exact ⟨by
    have e : mixS v a b c d x y = v8 := by rw [Hev8.out, Hev7.out, Hev6.out, Hev5.out, Hev4.out, Hev3.out, Hev2.out, Hev1.out]; rfl
    rw [e]; exact hv8, hg8⟩
end Go.Proofs.YtjbpjmdnmnbonaaDoor
