/- The walk of digest's words. -/
import Derived.Test.YtjbpjmdnmnbonaaDoorD1
import Derived.Laws.CopyOwn
import Derived.Laws.Tables
set_option linter.unusedSimpArgs false
set_option linter.unusedVariables false
namespace Go.Proofs.YtjbpjmdnmnbonaaDoor
open Go.RowKit

theorem und91 : Tryd.prog.underlying 88 = some (.array 16 60) := by kernel_rfl
theorem und60 : Tryd.prog.underlying 82 = some (.array 8 60) := by kernel_rfl
theorem sz91 : (Tryd.prog.info? 88).map (·.size) = some 16 := by kernel_rfl
theorem sz60 : (Tryd.prog.info? 82).map (·.size) = some 8 := by kernel_rfl
theorem u32c_size (v : List Nat) : (u32c v).size = v.length := by simp [u32c]
theorem u32c_one (v : List Nat) : (u32c v).all (·.oneCell') = true := by
  rw [Array.all_eq_true']
  intro x hx
  simp [u32c] at hx
  obtain ⟨n, _, rfl⟩ := hx
  rfl
theorem Arr.setRow {w : World} {g : Nat} {t : TypeId} {v : List Nat} (h : Arr w g t v) (v' : List Nat) : Arr (w.setRow g (u32c v')) g t v' := setRow_heap w g _ _ t _ h
theorem grownBy_setRow {w wr : World} {g : Nat} (h : w.grownBy wr (some g)) (cs : Array Value) : w.grownBy (wr.setRow g cs) (some g) := by
  refine ⟨h.os, h.tape, h.output, by rw [setRow_size]; exact h.size, fun k hk hne => ?_⟩
  rw [setRow_other _ _ _ _ (by intro e; subst e; exact hne rfl)]
  exact h.block k hk hne
theorem Arr.grown {w w' : World} {g g' : Nat} {t : TypeId} {v : List Nat} (h : Arr w g t v) (hg : w.grownBy w' (some g')) (hne : g ≠ g') : Arr w' g t v := by
  unfold Arr
  rw [hg.block g (Array.getElem?_eq_some_iff.1 h).1 (fun e => hne (Option.some.inj e))]
  exact h
theorem Arr.below {w w' : World} {g B : Nat} {t : TypeId} {v : List Nat} (h : Arr w g t v) (hb : Below B w w') (hB : g < B) : Arr w' g t v := by
  unfold Arr
  rw [hb.block g hB]
  exact h
theorem Arr.lt {w : World} {g : Nat} {t : TypeId} {v : List Nat} (h : Arr w g t v) : g < w.heap.size := (Array.getElem?_eq_some_iff.1 h).1

/-- the words of a block, after k bytes -/
def wordsK (l : List UInt8) : Nat → List Nat
  | 0 => List.replicate 16 0
  | k + 1 => (wordsK l k).set (k / 4) (nt (wordsK l k) (k / 4) ||| (l[k]?.getD 0).toNat * 2 ^ (8 * (k % 4)) % 4294967296)
theorem wordsK_len (l : List UInt8) (k : Nat) : (wordsK l k).length = 16 := by
  induction k with
  | zero => rfl
  | succ k ih => simp [wordsK, ih]
theorem nt_rep (n k : Nat) : nt (List.replicate n 0) k = 0 := by
  unfold nt
  rw [List.getElem?_replicate]
  split <;> rfl
theorem or_lt32 {a b : Nat} (ha : a < 4294967296) (hb : b < 4294967296) : a ||| b < 4294967296 := Nat.or_lt_two_pow (n := 32) ha hb
theorem wordsK_m (l : List UInt8) (k : Nat) : M32 (wordsK l k) := by
  induction k with
  | zero => intro j; unfold wordsK; rw [nt_rep]; omega
  | succ k ih => exact ih.set (or_lt32 (ih _) (Nat.mod_lt _ (by omega)))
def wordsS (l : List UInt8) : List Nat := wordsK l l.length

theorem or_shl (y c k : Nat) (hy : y < 4294967296) : bits .or .u32 (y : Int) (IntKind.u32.wrap ((c : Int) * (k : Int))) = ((y ||| c * k % 4294967296 : Nat) : Int) := by
  rw [← Int.natCast_mul, wrap32, u32_or_nat _ _ hy (Nat.mod_lt _ (by omega))]
theorem or_shl1 (y c : Nat) (hy : y < 4294967296) (hc : c < 256) : bits .or .u32 (y : Int) (c : Int) = ((y ||| c * 1 % 4294967296 : Nat) : Int) := by
  rw [u32_or_nat _ _ hy (by omega), Nat.mul_one, Nat.mod_eq_of_lt (by omega)]
theorem str_index {P : Program} {t : TypeId} (h : P.underlying t = some .string) (l : List UInt8) (i : Nat) (hi : i < l.length) (w : World) : (Instr.index t (.string ⟨l.toArray⟩) (.int .i64 (i : Int))).run P w = .ok (.int .u8 ((l[i]?.getD 0).toNat : Int)) w := by
  have e : (ByteArray.mk l.toArray)[i]? = some l[i] := by
    rw [getElem?_pos _ _ (by rw [str_size]; exact hi)]; rfl
  simp [Instr.index, run_underlying h, asIntOf, e, hi]

set_option maxRecDepth 100000 in
set_option maxHeartbeats 1000000 in
theorem words_calls (l : List UInt8) (w : World) (hl : l.length ≤ 64) :
    Calls Tryd.prog 81 #[.string ⟨l.toArray⟩] w fun e w' => e = .returned (.agg (u32c (wordsS l))) ∧ Below w.heap.size w w' := by
  have hsz := str_size l
  go_enter Tryd.func81, Tryd.ntmps81
  go_wp2_with fail
  generalize hW : World.alloc _ _ = w0
  have hA : Arr w0 (w.heap.size + 1) 88 (wordsK l 0) := by
    rw [← hW]; unfold Arr
    have := heap_alloc_new (w.alloc (Obj.cells (u32c (List.replicate 16 0)) 88)) (Obj.cells (u32c (List.replicate 16 0)) 88)
    rw [World.size_alloc] at this
    exact this
  have hR : Arr w0 w.heap.size 88 (List.replicate 16 0) := by
    rw [← hW]; unfold Arr
    rw [Below.heap_alloc _ _ _ (by rw [World.size_alloc]; omega)]
    exact heap_alloc_new w _
  have hB0 : Below w.heap.size w w0 := by rw [← hW]; exact (by ((repeat' (first | exact Below.refl _ _ | (refine Below.alloc ?_ ?_ _) | (refine Below.setCell ?_ ?_ _) | (refine Below.drew ?_) | (refine Below.trans ?_ (Below.mono (by assumption) ?_)))) <;> ((try simp only [World.size_alloc, World.size_setCell, World.size_drew] at *); omega)))
  clear hW
  go_loopw [7] (fun s7 wr => ∃ i : Nat, i ≤ l.length ∧ s7 = .int .i64 i ∧ Arr wr (w.heap.size + 1) 88 (wordsK l i) ∧ w0.grownBy wr (some (w.heap.size + 1))) (fun s7 _ => l.length - (intOf s7).toNat)
  case atStart => exact ⟨0, by omega, rfl, hA, grownBy_refl _ _⟩
  case round =>
    obtain ⟨i, hi, rfl, hAr, hg⟩ := hrel
    by_cases hlt : i < l.length
    · obtain ⟨q, hq⟩ : ∃ q, q = i / 4 := ⟨_, rfl⟩
      have hq1 : (i : Int) / 4 = (q : Int) := by omega
      have hqw : IntKind.i64.wrap (q : Int) = (q : Int) := IntWalk.i64_in _ (by omega)
      have hq2 : (q : Int) < 16 := by omega
      have hq3 : q < 16 := by omega
      have hlen := wordsK_len l i
      have cq := hAr.cell (k := q) (by rw [hlen]; exact hq3)
      have fq := hAr.frozen q
      have hm := wordsK_m l i q
      obtain ⟨c, hc⟩ : ∃ c, c = l[i]?.getD 0 := ⟨_, rfl⟩
      have hcl : c.toNat < 256 := c.toNat_lt
      have hr : i % 4 = 0 ∨ i % 4 = 1 ∨ i % 4 = 2 ∨ i % 4 = 3 := by omega
      have hix : (Instr.index 9 (.string ⟨l.toArray⟩) (.int .i64 (i : Int))).run Tryd.prog wr.drew = .ok (.int .u8 (c.toNat : Int)) wr.drew := by
        rw [hc]; exact str_index Tryd.underlying9 l i hlt _
      obtain ⟨y, hy⟩ : ∃ y, y = nt (wordsK l i) q := ⟨_, rfl⟩
      rw [← hy] at cq hm
      have Hhq := Lib.hid hq
      clear hq
      have Hhlen := Lib.hid hlen
      clear hlen
      have Hhm := Lib.hid hm
      clear hm
      have Hhc := Lib.hid hc
      clear hc
      have HhAr := Lib.hid hAr
      clear hAr
      have Hhg := Lib.hid hg
      clear hg
      have Hhy := Lib.hid hy
      clear hy
      have hcw : IntKind.u32.wrap (c.toNat : Int) = (c.toNat : Int) := by rw [wrap32]; congr 1; omega
      rcases hr with hr | hr | hr | hr
      · have hr1 : (i : Int).tmod 4 = 0 := by rw [Int.tmod_eq_emod_of_nonneg (by omega)]; omega
        have hk : IntKind.i64.wrap 0 = 0 := by decide
        obtain ⟨z, hz⟩ : ∃ z, z = y ||| c.toNat * 1 % 4294967296 := ⟨_, rfl⟩
        have hv := (or_shl1 y c.toNat Hhm.out hcl).trans (congrArg Nat.cast hz.symm)
        have Hhr := Lib.hid hr
        clear hr
        have Hhz := Lib.hid hz
        clear hz
        have Hhv := Lib.hid hv
        clear hv
        go_wp2_with fail
        go_still_tail 14, (by kernel_rfl)
        rw [Hhv.out]
        go_wp2_with fail
        refine ⟨⟨i + 1, by omega, by go_num, ?_, ?_⟩, by simp [intOf]; omega⟩
        · have e : wordsK l (i + 1) = (wordsK l i).set q z := by rw [wordsK, ← Hhq.out, ← Hhy.out, ← Hhc.out, Hhr.out, Hhz.out]
          rw [e]; exact HhAr.out.store q z
        · exact grownBy_drew (grownBy_setCell Hhg.out rfl _)
      · have hr1 : (i : Int).tmod 4 = 1 := by rw [Int.tmod_eq_emod_of_nonneg (by omega)]; omega
        have hk : IntKind.i64.wrap 8 = 8 := by decide
        obtain ⟨z, hz⟩ : ∃ z, z = y ||| c.toNat * 256 % 4294967296 := ⟨_, rfl⟩
        have hv : bits .or .u32 (y : Int) (IntKind.u32.wrap ((c.toNat : Int) * 256)) = ((z : Nat) : Int) := (or_shl y c.toNat 256 Hhm.out).trans (congrArg Nat.cast hz.symm)
        have Hhr := Lib.hid hr
        clear hr
        have Hhz := Lib.hid hz
        clear hz
        have Hhv := Lib.hid hv
        clear hv
        go_wp2_with fail
        go_still_tail 14, (by kernel_rfl)
        rw [Hhv.out]
        go_wp2_with fail
        refine ⟨⟨i + 1, by omega, by go_num, ?_, ?_⟩, by simp [intOf]; omega⟩
        · have e : wordsK l (i + 1) = (wordsK l i).set q z := by rw [wordsK, ← Hhq.out, ← Hhy.out, ← Hhc.out, Hhr.out, Hhz.out]
          rw [e]; exact HhAr.out.store q z
        · exact grownBy_drew (grownBy_setCell Hhg.out rfl _)
      · have hr1 : (i : Int).tmod 4 = 2 := by rw [Int.tmod_eq_emod_of_nonneg (by omega)]; omega
        have hk : IntKind.i64.wrap 16 = 16 := by decide
        obtain ⟨z, hz⟩ : ∃ z, z = y ||| c.toNat * 65536 % 4294967296 := ⟨_, rfl⟩
        have hv : bits .or .u32 (y : Int) (IntKind.u32.wrap ((c.toNat : Int) * 65536)) = ((z : Nat) : Int) := (or_shl y c.toNat 65536 Hhm.out).trans (congrArg Nat.cast hz.symm)
        have Hhr := Lib.hid hr
        clear hr
        have Hhz := Lib.hid hz
        clear hz
        have Hhv := Lib.hid hv
        clear hv
        go_wp2_with fail
        go_still_tail 14, (by kernel_rfl)
        rw [Hhv.out]
        go_wp2_with fail
        refine ⟨⟨i + 1, by omega, by go_num, ?_, ?_⟩, by simp [intOf]; omega⟩
        · have e : wordsK l (i + 1) = (wordsK l i).set q z := by rw [wordsK, ← Hhq.out, ← Hhy.out, ← Hhc.out, Hhr.out, Hhz.out]
          rw [e]; exact HhAr.out.store q z
        · exact grownBy_drew (grownBy_setCell Hhg.out rfl _)
      · have hr1 : (i : Int).tmod 4 = 3 := by rw [Int.tmod_eq_emod_of_nonneg (by omega)]; omega
        have hk : IntKind.i64.wrap 24 = 24 := by decide
        obtain ⟨z, hz⟩ : ∃ z, z = y ||| c.toNat * 16777216 % 4294967296 := ⟨_, rfl⟩
        have hv : bits .or .u32 (y : Int) (IntKind.u32.wrap ((c.toNat : Int) * 16777216)) = ((z : Nat) : Int) := (or_shl y c.toNat 16777216 Hhm.out).trans (congrArg Nat.cast hz.symm)
        have Hhr := Lib.hid hr
        clear hr
        have Hhz := Lib.hid hz
        clear hz
        have Hhv := Lib.hid hv
        clear hv
        go_wp2_with fail
        go_still_tail 14, (by kernel_rfl)
        rw [Hhv.out]
        go_wp2_with fail
        refine ⟨⟨i + 1, by omega, by go_num, ?_, ?_⟩, by simp [intOf]; omega⟩
        · have e : wordsK l (i + 1) = (wordsK l i).set q z := by rw [wordsK, ← Hhq.out, ← Hhy.out, ← Hhc.out, Hhr.out, Hhz.out]
          rw [e]; exact HhAr.out.store q z
        · exact grownBy_drew (grownBy_setCell Hhg.out rfl _)
    · have hie : i = l.length := by omega
      subst hie
      have hBr : Below w.heap.size w wr := hB0.trans (grownBy_below hg (by omega) (by have := hB0.size; omega))
      have hRr : Arr wr w.heap.size 88 (List.replicate 16 0) := hR.grown hg (by omega)
      have hle := wordsK_len l l.length
      have HhBr := Lib.hid hBr
      clear hBr
      have HhRr := Lib.hid hRr
      clear hRr
      have HhAr := Lib.hid hAr
      clear hAr
      have Hhle := Lib.hid hle
      clear hle
      go_wp2_with (first | (refine wpList_load_row rfl 88 _ rfl (w.heap.size + 1) rfl 88 (u32c (wordsK l l.length)) (0, 0) _ HhAr.out und91 rfl (by rw [sz91, u32c_size, Hhle.out]) ?_) | (refine wpList_store_row rfl 88 _ _ rfl w.heap.size (u32c (wordsK l l.length)) rfl rfl 88 (u32c (List.replicate 16 0)) HhRr.out (by rw [sz91, u32c_size, Hhle.out]) (by rw [u32c_size, u32c_size, Hhle.out]; rfl) (u32c_one _) ?_))
      exact bodyPost_ret (results_cell_row (fn := Tryd.f81) rfl _ _ w.heap.size 88 (u32c (wordsK l l.length)) (0, 0) _ rfl (HhRr.out.setRow _) und91 rfl (by rw [sz91, u32c_size, Hhle.out])) rfl ⟨rfl, below_setRow HhBr.out (Nat.le_refl _) _⟩
end Go.Proofs.YtjbpjmdnmnbonaaDoor
