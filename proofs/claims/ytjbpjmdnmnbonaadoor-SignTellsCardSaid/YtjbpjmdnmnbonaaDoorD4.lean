/- The walk of digest's Sum. -/
import Derived.Test.YtjbpjmdnmnbonaaDoorD3
import Derived.Test.YtjbpjmdnmnbonaaDoorW4
set_option linter.unusedSimpArgs false
set_option linter.unusedVariables false
namespace Go.Proofs.YtjbpjmdnmnbonaaDoor
open Go.RowKit

/-- the digest's state behind k whole blocks and the rest -/
def absorb : Nat → List Nat → List UInt8 → Nat → List Nat
  | 0, h, l, n => compS h (wordsS l) (n + l.length) true
  | k + 1, h, l, n => absorb k (compS h (wordsS (l.take 64)) (n + 64) false) (l.drop 64) (n + 64)
def initS : List Nat := firstS.set 0 1795745351
def leS (x : Nat) : List UInt8 := [UInt8.ofNat x, UInt8.ofNat (x / 256), UInt8.ofNat (x / 65536), UInt8.ofNat (x / 16777216)]
def digestS (l : List UInt8) : List UInt8 := (absorb ((l.length - 1) / 64) initS l 0).flatMap leS
theorem absorb_len (k : Nat) : ∀ (h : List Nat) (l : List UInt8) (n : Nat), h.length = 8 → (absorb k h l n).length = 8 := by
  induction k with
  | zero => intro h l n hh; rw [absorb, compS_len, hh]
  | succ k ih => intro h l n hh; rw [absorb]; exact ih _ _ _ (by rw [compS_len, hh])
theorem absorb_m (k : Nat) : ∀ (h : List Nat) (l : List UInt8) (n : Nat), M32 h → M32 (absorb k h l n) := by
  induction k with
  | zero => intro h l n hh; rw [absorb]; exact compS_m _ _ _ _ hh
  | succ k ih => intro h l n hh; rw [absorb]; exact ih _ _ _ (compS_m _ _ _ _ hh)
theorem initS_m : M32 initS := firstS_m.set (by omega)

theorem wpStill_load_row {P : Program} {ops : Array Oper} {w : World} {Q : Act → Prop} {a : Act} {o : Oper} {rest : List Oper} (hgd : o.guard = none) (ty : TypeId) (x : Operand) (ho : o.op = .load ty x)
    (g : Nat) (hx : a.eval x = .pointer (some ⟨g, 0, none⟩)) (t : TypeId) (cs : Array Value) (fr : Nat × Nat) (d : TypeDesc) (hg : w.heap[g]? = some (.cells cs t fr))
    (hu : P.underlying ty = some d) (hd : (match d with | .struct _ | .array _ _ => true | _ => false) = true) (hi : (P.info? ty).map (·.size) = some cs.size)
    (h : wpStill P ops w Q rest (a.put o.dst (.agg cs))) : wpStill P ops w Q (o :: rest) a := by
  refine wpStill_step fun K hK => ?_
  rw [if_pos (by simp [Region.wanted, hgd])]
  unfold Oper.still execOp
  simp only [ho, hx, Instr.loadAt, Instr.sureAddr, Sem.run_bind, Sem.run_pure, Result.andThen_ok, run_loadVar_row w g t ty cs fr d hg hu hd hi]
  exact (Oper.stillUpon_value ..).mpr (hK _ h)
theorem store_arr {P : Program} {ops : Array Oper} {rest : List Oper} {o : Oper} {a : Act} {w : World} {Q : Exit → Act → World → Prop} (hgd : o.guard = none) (ty : TypeId) (x y : Operand) (ho : o.op = .store ty x y)
    (g : Nat) (v' : List Nat) (hx : a.eval x = .pointer (some ⟨g, 0, none⟩)) (hy : a.eval y = .agg (u32c v'))
    (t : TypeId) (v : List Nat) (hg : Arr w g t v) (hi : (P.info? ty).map (·.size) = some v'.length) (hold : v.length = v'.length)
    (h : ∀ w', Hid (Arr w' g t v') → w.grownBy w' (some g) → wpList P ops Q rest (a.put o.dst undef) w') : wpList P ops Q (o :: rest) a w :=
  wpList_store_row hgd ty x y ho g (u32c v') hx hy t (u32c v) hg (by rw [hi, u32c_size]) (by rw [u32c_size, u32c_size, hold]) (u32c_one _)
    (h _ (Lib.hid (hg.setRow v')) (grownBy_setRow (grownBy_refl _ _) _))

theorem index60 (v : List Nat) (k : Nat) (hv : v.length = 8) (hk : k < 8) (w : World) : (Instr.index 82 (.agg (u32c v)) (.int .i64 (k : Int))).run Tryd.prog w = .ok (.int .u32 (nt v k : Nat)) w := by
  have h1 := u32c_at v k (by omega)
  have hi : 0 ≤ (k : Int) ∧ (k : Int) < 8 := by omega
  have hp : (part 60 (u32c v) k).run Tryd.prog w = .ok (.int .u32 (nt v k : Nat)) w := by
    have hag : (isAgg 60).run Tryd.prog w = .ok false w := by kernel_rfl
    unfold part
    rw [Sem.run_bind, hag]
    simp [h1]
  simp [Instr.index, run_underlying und60, asIntOf, hi, hp, hk]

theorem flat_len (v : List Nat) (i : Nat) : ((v.take i).flatMap leS).length ≤ 4 * i := by
  have h : ∀ l : List Nat, (l.flatMap leS).length = 4 * l.length := by
    intro l
    induction l with
    | nil => rfl
    | cons a l ih => rw [List.flatMap_cons, List.length_append, ih]; simp [leS]; omega
  rw [h, List.length_take]; omega
theorem flat_succ (v : List Nat) (i : Nat) (h : i < v.length) : (v.take (i + 1)).flatMap leS = (v.take i).flatMap leS ++ leS (nt v i) := by
  rw [List.take_succ_eq_append_getElem h, List.flatMap_append]
  simp [nt, h]
theorem u8_of_div (x d : Nat) (_h : 0 < d := by omega) : IntKind.u8.wrap ((x : Int) / (d : Int)) = ((UInt8.ofNat (x / d)).toNat : Int) := by
  rw [← Int.natCast_ediv]
  simp [IntKind.wrap, IntKind.signed, IntKind.bits]

set_option maxRecDepth 100000 in
set_option maxHeartbeats 2000000 in
theorem Sum_calls (l : List UInt8) (w : World) (hd : DigestAt w) (hl : l.length ≤ 4611686018427387904) :
    Calls Tryd.prog 60 #[.string ⟨l.toArray⟩] w fun e w' => e = .returned (.string ⟨(digestS l).toArray⟩) ∧ Below w.heap.size w w' := by
  have hsz := str_size l
  have hd0 := hd.1
  have hz : (u32c (List.replicate 8 0)).size = 8 := rfl
  have hfir : ∀ j v, (cells32 firstS)[j]? = some v → w.cell? ((⟨2, 0, none⟩ : Addr).add j) = some v := by
    intro j v hv
    obtain ⟨h1, rfl⟩ := u32_at hv
    rw [addr_add]; exact hd.2.1 j h1
  have e0 : bits .xor .u32 1779033703 16842784 = 1795745351 := by decide
  have Hhd := Lib.hid hd
  clear hd
  have Hhfir := Lib.hid hfir
  clear hfir
  go_enter Tryd.func60, Tryd.ntmps60
  go_wp2_with (first | (refine wpList_load_cells rfl 82 _ rfl ⟨2, 0, none⟩ rfl (cells32 firstS) _ Hhfir.out und60 rfl sz60 ?_) | (refine store_arr rfl 82 _ _ rfl w.heap.size firstS rfl rfl 82 (List.replicate 8 0) (heap_alloc_new _ _) sz60 rfl ?_; intro w1 hA1 hg1; have c0 : w1.cell? ⟨w.heap.size, 0, none⟩ = some (.int .u32 1779033703) := hA1.out.cell (k := 0) (by decide); have f0 := hA1.out.frozen 0))
  generalize hW2 : World.setCell _ _ _ = w2
  have hA2 : Arr w2 w.heap.size 82 initS := by rw [← hW2]; exact hA1.out.store 0 1795745351
  have hB2 : Below w.heap.size w w2 := by
    rw [← hW2]
    exact Below.setCell ((show Below w.heap.size w (w.alloc _) from Below.alloc (Below.refl _ _) (Nat.le_refl _) _).trans (grownBy_below hg1 (Nat.le_refl _) (by rw [World.size_alloc]; omega))) (Nat.le_refl _) _
  clear hW2 hA1 hg1 c0 f0
  obtain ⟨K, hK⟩ : ∃ K, K = (l.length - 1) / 64 := ⟨_, rfl⟩
  have HhA2 := Lib.hid hA2
  clear hA2
  go_loopw [0, 4] (fun s0 s4 wr => ∃ (j : Nat) (h : List Nat) (r : List UInt8), j ≤ K ∧ s0 = .string ⟨r.toArray⟩ ∧ s4 = .int .i64 ((64 * j : Nat) : Int) ∧ 64 * j + r.length = l.length ∧ Arr wr w.heap.size 82 h ∧ h.length = 8 ∧ M32 h ∧ absorb (K - j) h r (64 * j) = absorb K initS l 0 ∧ Below w.heap.size w wr) (fun s0 _ _ => match s0 with | .string b => b.size | _ => 0)
  case atStart => exact ⟨0, initS, l, by omega, rfl, rfl, by omega, HhA2.out, by decide, initS_m, rfl, hB2⟩
  case round =>
    obtain ⟨j, h, r, hj, rfl, rfl, hlr, hA, hh, hm, habs, hB⟩ := hrel
    have hsr := str_size r
    have hdr := Hhd.out.below hB (by omega)
    by_cases hgt : 64 < r.length
    · have hjK : j < K := by omega
      have hgt' : (64 : Int) < (r.length : Int) := by omega
      have hgt2 : 64 ≤ r.length := by omega
      obtain ⟨p, hp⟩ : ∃ p, p = r.take 64 := ⟨_, rfl⟩
      obtain ⟨q, hq⟩ : ∃ q, q = r.drop 64 := ⟨_, rfl⟩
      have hpl : p.length ≤ 64 := by rw [hp, List.length_take]; omega
      have hql : q.length = r.length - 64 := by rw [hq, List.length_drop]
      have hpe : (ByteArray.mk r.toArray).extract 0 64 = ⟨p.toArray⟩ := by
        rw [hp]; apply ByteArray.ext; simp [ByteArray.data_extract]
      have hqe : (ByteArray.mk r.toArray).extract 64 r.length = ⟨q.toArray⟩ := by
        rw [hq]; exact drop_extract r 64
      obtain ⟨m, hmj⟩ : ∃ m, m = 64 * j := ⟨_, rfl⟩
      obtain ⟨n, hnj⟩ : ∃ n, n = 64 * j + 64 := ⟨_, rfl⟩
      have hn1 : (m : Int) + 64 = (n : Int) := by omega
      have hml : (m : Int) + 64 ≤ 9223372036854775807 := by omega
      rw [← hmj]
      have h64 : (64 : Int) ≤ (r.length : Int) := by omega
      have hmb : m + 64 ≤ 9223372036854775807 := by omega
      have hnb : n ≤ 9223372036854775807 := by omega
      have HhA := Lib.hid hA
      clear hA
      have Hhm := Lib.hid hm
      clear hm
      have Hhabs := Lib.hid habs
      clear habs
      have Hhp := Lib.hid hp
      clear hp
      have Hhq := Lib.hid hq
      clear hq
      have HhB := Lib.hid hB
      clear hB
      have Hhdr := Lib.hid hdr
      clear hdr
      have Hhh := Lib.hid hh
      clear hh
      have Hhmj := Lib.hid hmj
      clear hmj
      have Hhn1 := Lib.hid hn1
      clear hn1
      have Hhnj := Lib.hid hnj
      clear hnj
      go_wp2_with fail
      rw [Hhn1.out]
      go_still_tail 4, (by kernel_rfl)
      refine wpStill_load_row rfl 82 _ rfl w.heap.size rfl 82 (u32c h) (0, 0) _ HhA.out und60 rfl (by rw [sz60, u32c_size, Hhh.out]) ?_
      repeat still_step
      refine wpStill_nil ?_
      go_wp2_with fail
      refine (compress_calls false h p n wr.drew Hhdr.out hpl Hhh.out Hhm.out hnb).mono ?_
      rintro e w3 ⟨rfl, hB3⟩
      have hA3 : Arr w3 w.heap.size 82 h := (show Arr wr.drew w.heap.size 82 h from HhA.out).below hB3 (show w.heap.size < wr.heap.size from HhA.out.lt)
      have hB4 : Below w.heap.size w w3 := HhB.out.trans ((show Below wr.heap.size wr w3 from (Below.refl _ _).drew.trans hB3).mono HhB.out.size)
      obtain ⟨h', hh'⟩ : ∃ h', h' = compS h (wordsS p) n false := ⟨_, rfl⟩
      rw [← hh']
      have hl' : h'.length = 8 := by rw [hh', compS_len]; exact Hhh.out
      have hm' : M32 h' := by rw [hh']; exact compS_m _ _ _ _ Hhm.out
      have hlA : h.length = h'.length := by rw [hl', Hhh.out]
      have hs8 : (Tryd.prog.info? 82).map (·.size) = some h'.length := by rw [sz60, hl']
      clear hB3
      have HhA3 := Lib.hid hA3
      clear hA3
      have HhB4 := Lib.hid hB4
      clear hB4
      have Hhh' := Lib.hid hh'
      clear hh'
      have Hhl' := Lib.hid hl'
      clear hl'
      have Hhm' := Lib.hid hm'
      clear hm'
      have HhlA := Lib.hid hlA
      clear hlA
      have Hhs8 := Lib.hid hs8
      clear hs8
      go_wp2_with (refine store_arr rfl 82 _ _ rfl w.heap.size h' rfl rfl 82 h HhA3.out Hhs8.out HhlA.out ?_; intro w5 hA5 hg5)
      have hB5 := HhB4.out.trans (grownBy_below hg5 (Nat.le_refl _) HhB4.out.size)
      refine ⟨⟨j + 1, h', q, by omega, rfl, ?_, by omega, hA5.out, Hhl'.out, Hhm'.out, ?_, hB5⟩, ?_⟩
      · rw [show 64 * (j + 1) = n by rw [Hhnj.out]; omega]
      · have h1 := Hhabs.out
        rw [show K - j = (K - (j + 1)) + 1 by omega, absorb, ← Hhmj.out, ← Hhp.out, ← Hhq.out] at h1
        rw [show 64 * (j + 1) = m + 64 by rw [Hhmj.out]; omega, ← h1, show m + 64 = n by rw [Hhnj.out, Hhmj.out], Hhh'.out]
      · have e1 := str_size q
        have e2 := str_size r
        show (ByteArray.mk q.toArray).size < (ByteArray.mk r.toArray).size
        rw [e1, e2]; omega
    · have hjK : K = j := by omega
      obtain ⟨m, hmj⟩ : ∃ m, m = 64 * j := ⟨_, rfl⟩
      obtain ⟨n, hnj⟩ : ∃ n, n = m + r.length := ⟨_, rfl⟩
      have hn1 : (m : Int) + (r.length : Int) = (n : Int) := by omega
      have hnb : n ≤ 9223372036854775807 := by omega
      have hr64 : r.length ≤ 64 := by omega
      have hfin : compS h (wordsS r) n true = absorb K initS l 0 := by
        rw [← habs, hjK, Nat.sub_self, absorb, hnj, hmj]
      obtain ⟨v, hv⟩ : ∃ v, v = absorb K initS l 0 := ⟨_, rfl⟩
      rw [← hv] at hfin
      have hvl : v.length = 8 := by rw [← hfin, compS_len]; exact hh
      have hvm : M32 v := by rw [← hfin]; exact compS_m _ _ _ _ hm
      have hout : digestS l = v.flatMap leS := by rw [digestS, hv, hK]
      have hlA : h.length = v.length := by rw [hvl, hh]
      have hs8 : (Tryd.prog.info? 82).map (·.size) = some v.length := by rw [sz60, hvl]
      rw [← hmj]
      have HhA := Lib.hid hA
      clear hA
      have Hhm := Lib.hid hm
      clear hm
      have Hhabs := Lib.hid habs
      clear habs
      have HhB := Lib.hid hB
      clear hB
      have Hhdr := Lib.hid hdr
      clear hdr
      have Hhh := Lib.hid hh
      clear hh
      have Hhmj := Lib.hid hmj
      clear hmj
      have Hhnj := Lib.hid hnj
      clear hnj
      have Hhfin := Lib.hid hfin
      clear hfin
      have Hhv := Lib.hid hv
      clear hv
      have Hhvl := Lib.hid hvl
      clear hvl
      have Hhvm := Lib.hid hvm
      clear hvm
      have Hhout := Lib.hid hout
      clear hout
      have HhlA := Lib.hid hlA
      clear hlA
      have Hhs8 := Lib.hid hs8
      clear hs8
      have HhK := Lib.hid hK
      clear hK
      have HhjK := Lib.hid hjK
      clear hjK
      have Hhn1 := Lib.hid hn1
      clear hn1
      have hmb : m + r.length ≤ 9223372036854775807 := by have := Hhnj.out; omega
      have hle : (r.length : Int) ≤ 64 := by omega
      clear hgt
      go_wp2_with (refine wpList_load_row rfl 82 _ rfl w.heap.size rfl 82 (u32c h) (0, 0) _ HhA.out und60 rfl (by rw [sz60, u32c_size, Hhh.out]) ?_)
      rw [Hhn1.out]
      refine (compress_calls true h r n wr Hhdr.out hr64 Hhh.out Hhm.out hnb).mono ?_
      rintro e w3 ⟨rfl, hB3⟩
      have hA3 : Arr w3 w.heap.size 82 h := HhA.out.below hB3 HhA.out.lt
      have hB4 : Below w.heap.size w w3 := HhB.out.trans (hB3.mono HhB.out.size)
      rw [Hhfin.out]
      clear hB3
      have HhA3 := Lib.hid hA3
      clear hA3
      have HhB4 := Lib.hid hB4
      clear hB4
      go_wp2_with (first | (refine store_arr rfl 82 _ _ rfl w.heap.size v rfl rfl 82 h HhA3.out Hhs8.out HhlA.out ?_; intro w5 hA5 hg5) | (refine wpList_load_row rfl 82 _ rfl w.heap.size rfl 82 (u32c v) (0, 0) _ (show _ = _ from (Arr.below hA5.out (B := w5.heap.size) (Below.alloc (Below.refl _ _) (Nat.le_refl _) _) hA5.out.lt)) und60 rfl (by rw [sz60, u32c_size, Hhvl.out]) ?_))
      have hz5 : w.heap.size ≤ w5.heap.size := by have := HhB4.out.size; have := hg5.size; omega
      have hb5 : Below w.heap.size w w5 := HhB4.out.trans (grownBy_below hg5 (Nat.le_refl _) HhB4.out.size)
      clear hA5 hg5
      have Hhb5 := Lib.hid hb5
      clear hb5
      go_loopw [34] (fun s34 wr => ∃ i : Nat, i ≤ 8 ∧ s34 = .int .i64 i ∧ Lib.IsBuilder 68 5 w5.heap.size w5.heap.size (Lib.byteCells ((v.take i).flatMap leS)) wr ∧ Below w5.heap.size w5 wr) (fun s34 _ => 8 - (intOf s34).toNat)
      case atStart => exact ⟨0, by omega, rfl, builder_new w5, (by ((repeat' (first | exact Below.refl _ _ | (refine Below.alloc ?_ ?_ _) | (refine Below.setCell ?_ ?_ _) | (refine Below.drew ?_) | (refine Below.trans ?_ (Below.mono (by assumption) ?_)))) <;> ((try simp only [World.size_alloc, World.size_setCell, World.size_drew] at *); omega)))⟩
      case round =>
        obtain ⟨i, hi, rfl, hbd, hB⟩ := hrel
        have hsz1 := hB.size
        have hfl := flat_len v i
        by_cases hil : i < 8
        · have hix := index60 v i Hhvl.out hil
          have hx1 := Hhvm.out i
          have hsucc := flat_succ v i (by rw [Hhvl.out]; exact hil)
          obtain ⟨x, hx⟩ : ∃ x, x = nt v i := ⟨_, rfl⟩
          obtain ⟨t, ht⟩ : ∃ t, t = (v.take i).flatMap leS := ⟨_, rfl⟩
          rw [← hx] at hix hx1 hsucc
          rw [← ht] at hbd hfl hsucc
          have hil' : (i : Int) < 8 := by omega
          obtain ⟨wo, hwo⟩ : ∃ wo : World, wo = wr := ⟨_, rfl⟩
          subst hwo
          have Hhbd := Lib.hid hbd
          clear hbd
          have HhB := Lib.hid hB
          clear hB
          have Hhx := Lib.hid hx
          clear hx
          have Hht := Lib.hid ht
          clear ht
          have Hhsucc := Lib.hid hsucc
          clear hsucc
          go_wp2_with fail
          go_loopw [37] (fun s37 wr => ∃ k : Nat, k ≤ 4 ∧ s37 = .int .i64 k ∧ Lib.IsBuilder 68 5 w5.heap.size w5.heap.size (Lib.byteCells (t ++ (leS x).take k)) wr ∧ Below w5.heap.size w5 wr) (fun s37 _ => 4 - (intOf s37).toNat)
          case atStart => exact ⟨0, by omega, rfl, by rw [List.take_zero, List.append_nil]; exact Hhbd.out, HhB.out⟩
          case round =>
            obtain ⟨k, hk, rfl, hbd, hB⟩ := hrel
            have hsz2 := hB.size
            have hl4 : (Lib.byteCells (t ++ (leS x).take k)).length ≤ t.length + k := by rw [Lib.byteCells_length, List.length_append, List.length_take]; omega
            have hcases : k = 0 ∨ k = 1 ∨ k = 2 ∨ k = 3 ∨ k = 4 := by omega
            rcases hcases with rfl | rfl | rfl | rfl | rfl
            · rw [show ((0 : Nat) : Int) = 0 from rfl]
              obtain ⟨c, hc⟩ : ∃ c, c = UInt8.ofNat (x / 1) := ⟨_, rfl⟩
              have hcw : IntKind.u8.wrap ((x : Int)) = (c.toNat : Int) := by rw [hc]; simpa using u8_of_div x 1 (by omega)
              have Hhbd := Lib.hid hbd
              clear hbd
              have HhB := Lib.hid hB
              clear hB
              have Hhc := Lib.hid hc
              clear hc
              go_wp2_with fail
              refine (Tryd.Builder_WriteByte w5.heap.size w5.heap.size _ (c.toNat : Int) wr Hhbd.out (by omega) hsz2).mono ?_
              rintro e w6 ⟨rfl, hbd2, hB6⟩
              have hbd3 := builder_byte (c := c) hbd2
              have hB7 := HhB.out.trans hB6
              rw [show t ++ (leS x).take 0 ++ [c] = t ++ (leS x).take 1 by rw [Hhc.out]; simp [leS]] at hbd3
              clear hB6
              have Hhbd2 := Lib.hid hbd2
              clear hbd2
              have Hhbd3 := Lib.hid hbd3
              clear hbd3
              have HhB7 := Lib.hid hB7
              clear hB7
              go_wp2_with fail
              exact ⟨⟨1, by omega, rfl, .inr Hhbd3.out, HhB7.out⟩, by simp [intOf]⟩
            · rw [show ((1 : Nat) : Int) = 1 from rfl]
              obtain ⟨c, hc⟩ : ∃ c, c = UInt8.ofNat (x / 256) := ⟨_, rfl⟩
              have hcw : IntKind.u8.wrap ((x : Int) / 256) = (c.toNat : Int) := by rw [hc]; exact u8_of_div x 256 (by omega)
              have Hhbd := Lib.hid hbd
              clear hbd
              have HhB := Lib.hid hB
              clear hB
              have Hhc := Lib.hid hc
              clear hc
              go_wp2_with fail
              refine (Tryd.Builder_WriteByte w5.heap.size w5.heap.size _ (c.toNat : Int) wr Hhbd.out (by omega) hsz2).mono ?_
              rintro e w6 ⟨rfl, hbd2, hB6⟩
              have hbd3 := builder_byte (c := c) hbd2
              have hB7 := HhB.out.trans hB6
              rw [show t ++ (leS x).take 1 ++ [c] = t ++ (leS x).take 2 by rw [Hhc.out]; simp [leS]] at hbd3
              clear hB6
              have Hhbd2 := Lib.hid hbd2
              clear hbd2
              have Hhbd3 := Lib.hid hbd3
              clear hbd3
              have HhB7 := Lib.hid hB7
              clear hB7
              go_wp2_with fail
              exact ⟨⟨2, by omega, rfl, .inr Hhbd3.out, HhB7.out⟩, by simp [intOf]⟩
            · rw [show ((2 : Nat) : Int) = 2 from rfl]
              obtain ⟨c, hc⟩ : ∃ c, c = UInt8.ofNat (x / 65536) := ⟨_, rfl⟩
              have hcw : IntKind.u8.wrap ((x : Int) / 65536) = (c.toNat : Int) := by rw [hc]; exact u8_of_div x 65536 (by omega)
              have Hhbd := Lib.hid hbd
              clear hbd
              have HhB := Lib.hid hB
              clear hB
              have Hhc := Lib.hid hc
              clear hc
              go_wp2_with fail
              refine (Tryd.Builder_WriteByte w5.heap.size w5.heap.size _ (c.toNat : Int) wr Hhbd.out (by omega) hsz2).mono ?_
              rintro e w6 ⟨rfl, hbd2, hB6⟩
              have hbd3 := builder_byte (c := c) hbd2
              have hB7 := HhB.out.trans hB6
              rw [show t ++ (leS x).take 2 ++ [c] = t ++ (leS x).take 3 by rw [Hhc.out]; simp [leS]] at hbd3
              clear hB6
              have Hhbd2 := Lib.hid hbd2
              clear hbd2
              have Hhbd3 := Lib.hid hbd3
              clear hbd3
              have HhB7 := Lib.hid hB7
              clear hB7
              go_wp2_with fail
              exact ⟨⟨3, by omega, rfl, .inr Hhbd3.out, HhB7.out⟩, by simp [intOf]⟩
            · rw [show ((3 : Nat) : Int) = 3 from rfl]
              obtain ⟨c, hc⟩ : ∃ c, c = UInt8.ofNat (x / 16777216) := ⟨_, rfl⟩
              have hcw : IntKind.u8.wrap ((x : Int) / 16777216) = (c.toNat : Int) := by rw [hc]; exact u8_of_div x 16777216 (by omega)
              have Hhbd := Lib.hid hbd
              clear hbd
              have HhB := Lib.hid hB
              clear hB
              have Hhc := Lib.hid hc
              clear hc
              go_wp2_with fail
              refine (Tryd.Builder_WriteByte w5.heap.size w5.heap.size _ (c.toNat : Int) wr Hhbd.out (by omega) hsz2).mono ?_
              rintro e w6 ⟨rfl, hbd2, hB6⟩
              have hbd3 := builder_byte (c := c) hbd2
              have hB7 := HhB.out.trans hB6
              rw [show t ++ (leS x).take 3 ++ [c] = t ++ (leS x).take 4 by rw [Hhc.out]; simp [leS]] at hbd3
              clear hB6
              have Hhbd2 := Lib.hid hbd2
              clear hbd2
              have Hhbd3 := Lib.hid hbd3
              clear hbd3
              have HhB7 := Lib.hid hB7
              clear hB7
              go_wp2_with fail
              exact ⟨⟨4, by omega, rfl, .inr Hhbd3.out, HhB7.out⟩, by simp [intOf]⟩
            · rw [show ((4 : Nat) : Int) = 4 from rfl]
              rw [show t ++ (leS x).take 4 = (v.take (i + 1)).flatMap leS from Hhsucc.out.symm] at hbd
              have Hhbd := Lib.hid hbd
              clear hbd
              have HhB := Lib.hid hB
              clear hB
              go_wp2_with fail
              exact ⟨⟨i + 1, by omega, by go_num, Hhbd.out, HhB.out⟩, by simp [intOf]; omega⟩
        · have hie : i = 8 := by omega
          subst hie
          rw [List.take_of_length_le (by rw [Hhvl.out]; omega), ← Hhout.out] at hbd
          have hbelf : ∀ wx, Below w5.heap.size wr wx → Below w.heap.size w wx := fun wx hx => Hhb5.out.trans ((hB.trans hx).mono hz5)
          have Hhbd := Lib.hid hbd
          clear hbd
          have HhB := Lib.hid hB
          clear hB
          have Hhbelf := Lib.hid hbelf
          clear hbelf
          go_wp2_with fail
          refine (Tryd.Builder_String_any w5.heap.size w5.heap.size _ wr Hhbd.out hsz1).mono ?_
          rintro e w6 ⟨rfl, hB6⟩
          have hB7 := Hhbelf.out _ hB6
          go_wp2_with fail
          go_ret
          exact ⟨rfl, hB7⟩
end Go.Proofs.YtjbpjmdnmnbonaaDoor
