/- The walk of GramReads. -/
import Derived.Test.YtibhihobpehpbaaDoorD9
import Derived.Deep.DeepCutAuto
set_option linter.unusedSimpArgs false
set_option linter.unusedVariables false
namespace Go.Proofs.YtibhihobpehpbaaDoor
open Go.RowKit

theorem gr_cells {w : World} {g : Nat} {x : Gr} (h : w.heap[g]? = some (.cells #[.int .i64 x.g, .int .i64 x.q, .int .i64 x.c, .int .i64 x.v, .string ⟨x.tag.toArray⟩] 23 (0, 0))) : GrC w g x := GrAt.c h

set_option maxRecDepth 100000 in
set_option maxHeartbeats 4000000 in
theorem Reads_calls (x : Gr) (s : List UInt8) (m : Int) (w : World) (h : AllAt m w) (hx : x.wf) (htl : x.tag.length ≤ 9223372036854775807) (hsl : s.length ≤ 9223372036854775807) :
    Calls Tryd.prog 4 #[x.val, .string ⟨s.toArray⟩] w fun e w' => e = .returned (.bool true) ∧ Below w.heap.size w w' := by
  have hval : Gr.val x = .agg #[.int .i64 x.g, .int .i64 x.q, .int .i64 x.c, .int .i64 x.v, .string ⟨x.tag.toArray⟩] := rfl
  have h4 := h.2.2.1
  have hst := str_size x.tag
  have hss := str_size s
  obtain ⟨wb, hwb⟩ : ∃ wb, wb = w.alloc (.cells x.cells 23) := ⟨_, rfl⟩
  have hbox : GrAt wb w.heap.size x := by rw [hwb]; exact heap_alloc_new w _
  have hBb : Below w.heap.size w wb := by rw [hwb]; exact (by ((repeat' (first | exact Below.refl _ _ | (refine Below.alloc ?_ ?_ _) | (refine Below.setCell ?_ ?_ _) | (refine Below.drew ?_) | (refine Below.trans ?_ (Below.mono (by assumption) ?_)))) <;> ((try simp only [World.size_alloc, World.size_setCell, World.size_drew] at *); omega)))
  have hszb : wb.heap.size = w.heap.size + 1 := by rw [hwb]; simp
  have hall : ∀ wx, Below wb.heap.size wb wx → AllAt m wx := fun wx hx => (h.below hBb h4).below hx (by omega)
  have hk : ∀ wx, Below wb.heap.size wb wx → GrC wx w.heap.size x := fun wx hx => (hbox.below hx (by omega)).c
  have hsm := small_calls m wb (hall wb (Below.refl _ _))
  have hsh := short_calls x.tag s [] 
  rw [hval]
  have Hhbox := Lib.hid hbox
  clear hbox
  have Hhszb := Lib.hid hszb
  clear hszb
  have Hhall := Lib.hid hall
  clear hall
  have Hhk := Lib.hid hk
  clear hk
  have Hhsm := Lib.hid hsm
  clear hsm
  have Hhsh := Lib.hid hsh
  clear hsh
  have Hhval := Lib.hid hval
  clear hval
  have Hhx := Lib.hid hx
  clear hx
  have Hh := Lib.hid h
  clear h
  go_enter Tryd.func4, Tryd.ntmps4
  go_wp2_with fail
  rw [show w.alloc (.cells #[.int .i64 x.g, .int .i64 x.q, .int .i64 x.c, .int .i64 x.v, .string ⟨x.tag.toArray⟩] 23) = wb from hwb.symm]
  clear hwb
  refine (Hhsm.out).mono ?_
  rintro e w1 ⟨rfl, hB1⟩
  obtain ⟨z0, z1, z2, z3, z4⟩ := Hhk.out _ hB1
  have hs1 := hB1.size
  have HhB1 := Lib.hid hB1
  clear hB1
  go_wp2_with fail
  have hsh2 := Hhsh.out w1 htl hsl (by simp)
  by_cases hc : x.tag.length ≤ 300 ∧ s.length ≤ 300
  · obtain ⟨ct, cs⟩ := hc
    rw [show (decide (x.tag.length ≤ 300) && (decide (s.length ≤ 300) && decide (([] : List UInt8).length ≤ 300))) = true by simp [ct, cs]] at hsh2
    have Hhsh2 := Lib.hid hsh2
    clear hsh2
    refine (Hhsh2.out).mono ?_
    rintro e w1' ⟨rfl, rfl⟩
    obtain ⟨B, hB⟩ : ∃ B, B = bytesS x := ⟨_, rfl⟩
    have hc18 := Bytes_calls x m w1 (Hhall.out _ HhB1.out) Hhx.out ct
    rw [← hB, Hhval.out] at hc18
    have Hhc18 := Lib.hid hc18
    clear hc18
    have HhB := Lib.hid hB
    clear hB
    go_wp2_with fail
    refine (Hhc18.out).mono ?_
    rintro e w2 ⟨rfl, hB2⟩
    have hB3 := HhB1.out.trans (hB2.mono hs1)
    have hs2 := hB2.size
    clear z0 z1 z2 z3 z4 hB2
    obtain ⟨z0, z1, z2, z3, z4⟩ := Hhk.out _ hB3
    have hokd : x.ok = (decide (0 ≤ x.g) && decide (x.g < 128) && decide (0 ≤ x.q) && decide (x.q ≤ 1099511627776) && decide (0 ≤ x.c) && decide (x.c < 1006633020) && decide (-1099511627776 ≤ x.v) && decide (x.v ≤ 1099511627776) && decide (x.tag.length = 8)) := by
      rw [Bool.eq_iff_iff]; simp [Gr.ok, Gr.inB, inI]; omega
    have HhB3 := Lib.hid hB3
    clear hB3
    have Hhokd := Lib.hid hokd
    clear hokd
    go_upto_region 5 with (fail)
    go_cut [7] (fun s7 wc => s7 = .bool x.ok ∧ wc = w2)
    case first =>
      go_wp2_with fail
      all_goals go_meet
      all_goals (refine ⟨?_, rfl⟩; rw [Hhokd.out]; congr 1; rw [Bool.eq_iff_iff]; simp; omega)
    case rest =>
      obtain ⟨rfl, rfl⟩ := hcut
      clear z0 z1 z2 z3 z4
      obtain ⟨z0, z1, z2, z3, z4⟩ := Hhk.out _ HhB3.out
      have hread : ∀ (L : List UInt8) (wx : World), Below wb.heap.size wb wx → L.length ≤ 1000000 → Calls Tryd.prog 10 #[.string ⟨L.toArray⟩] wx fun e w' => e = .returned (tupV (readS L).1 (readS L).2) ∧ Below wx.heap.size wx w' := fun L wx hx hL => Read_calls L wx (Hhall.out wx hx).2.1 hL
      have hbytes : ∀ (y : Gr) (wx : World), Below wb.heap.size wb wx → y.wf → y.tag.length ≤ 300 → Calls Tryd.prog 18 #[y.val] wx fun e w' => e = .returned (.string ⟨(bytesS y).toArray⟩) ∧ Below wx.heap.size wx w' := fun y wx hx h1 h2 => Bytes_calls y m wx (Hhall.out wx hx) h1 h2
      have hBl : B.length ≤ 1000 := by
        rw [HhB.out]
        unfold bytesS
        split
        · rw [List.length_append]
          have := coreS_len x Hhx.out
          have := encText_le2 x.tag
          omega
        · simp
      obtain ⟨Bx, hBx⟩ : ∃ L, L = B ++ [120] := ⟨_, rfl⟩
      have cat1 : ∀ w, (Op.stringOp .add ⟨B.toArray⟩ ⟨#[120]⟩).run Tryd.prog w = .ok (.string ⟨Bx.toArray⟩) w := fun w => by rw [hBx]; exact cat_run B [120] (by simp; omega) w
      have hBxl : Bx.length ≤ 1001 := by rw [hBx]; simp; omega
      have heq : ∀ (y : Gr) (w : World), (Op.equalIn 10000 23 (.agg #[.int .i64 y.g, .int .i64 y.q, .int .i64 y.c, .int .i64 y.v, .string ⟨y.tag.toArray⟩]) (.agg #[.int .i64 y.g, .int .i64 y.q, .int .i64 y.c, .int .i64 y.v, .string ⟨y.tag.toArray⟩])).run Tryd.prog w = .ok true w := fun y w => by
        have := equal23 y y w
        simpa using this
      have heqz := heq zeroGr
      have heqx := heq x
      have hbss : ((ByteArray.mk s.toArray).toList == (ByteArray.mk s.toArray).toList) = true := by simp
      have Hhread := Lib.hid hread
      clear hread
      have Hhbytes := Lib.hid hbytes
      clear hbytes
      have HhBl := Lib.hid hBl
      clear hBl
      have HhBx := Lib.hid hBx
      clear hBx
      have HhBxl := Lib.hid hBxl
      clear hBxl
      have Hheq := Lib.hid heq
      clear heq
      cases hok : x.ok
      · have hB0 : B = [] := by rw [HhB.out]; exact bytes_not hok
        have hrB : readS B = (zeroGr, false) := by rw [HhB.out]; rw [bytes_not hok]; exact read_nil
        have hrBx : readS Bx = (zeroGr, false) := by rw [HhBx.out, HhB.out]; rw [bytes_not hok]; exact read_x
        have hBe : (ByteArray.mk B.toArray).toList = [] := by rw [hB0, ByteArray.toList_eq]
        have hBe2 : (!(ByteArray.mk B.toArray).toList.isEmpty) = false := by rw [hBe]; rfl
        have hBi : B.isEmpty = true := by rw [hB0]; rfl
        clear hok
        have HhB0 := Lib.hid hB0
        clear hB0
        have HhrB := Lib.hid hrB
        clear hrB
        have HhrBx := Lib.hid hrBx
        clear hrBx
        rcases readS_cases s with ⟨r2, rok, rby⟩ | r0
        · obtain ⟨y, hy⟩ : ∃ y, y = (readS s).1 := ⟨_, rfl⟩
          rw [← hy] at rok rby
          have hrs : readS s = (y, true) := Prod.ext hy.symm r2
          have hyw := Gr.ok_wf rok
          have hyt := Gr.ok_tag rok
          clear hy r2 rok
          have Hhrs := Lib.hid hrs
          clear hrs
          have Hhyw := Lib.hid hyw
          clear hyw
          have Hhyt := Lib.hid hyt
          clear hyt
          have Hrby := Lib.hid rby
          clear rby
          go_wp2_with fail
          have hc1 := Hhread.out B wc HhB3.out (by have := HhBl.out; omega)
          rw [HhrB.out] at hc1
          refine (show Calls Tryd.prog 10 #[.string ⟨B.toArray⟩] wc (fun e w' => e = .returned (.tuple #[.agg #[.int .i64 0, .int .i64 0, .int .i64 0, .int .i64 0, .string ⟨#[]⟩], .bool false]) ∧ Below wc.heap.size wc w') from hc1).mono ?_
          clear hc1
          rintro e w4 ⟨rfl, hB4⟩
          have hz4 := hB4.size
          have hbel4 := HhB3.out.trans (hB4.mono HhB3.out.size)
          clear hB4 z0 z1 z2 z3 z4
          have Hhbel4 := Lib.hid hbel4
          clear hbel4
          go_wp2_with fail
          generalize hW5 : World.alloc _ _ = w5
          have hE5 : w5.heap[w4.heap.size]? = some (.cells #[.int .i64 0, .int .i64 0, .int .i64 0, .int .i64 0, .string ⟨#[]⟩] 23 (0, 0)) := by rw [← hW5]; exact heap_alloc_new w4 _
          have hs5 : w5.heap.size = w4.heap.size + 1 := by rw [← hW5, World.size_alloc]
          have hbel5 : Below wb.heap.size wb w5 := Hhbel4.out.trans (by rw [← hW5]; have := Hhbel4.out.size; exact (by ((repeat' (first | exact Below.refl _ _ | (refine Below.alloc ?_ ?_ _) | (refine Below.setCell ?_ ?_ _) | (refine Below.drew ?_) | (refine Below.trans ?_ (Below.mono (by assumption) ?_)))) <;> ((try simp only [World.size_alloc, World.size_setCell, World.size_drew] at *); omega))))
          clear hW5
          obtain ⟨b8, hb8⟩ : ∃ b, b = w4.heap.size := ⟨_, rfl⟩
          rw [← hb8] at hE5 hs5 ⊢
          clear hb8
          have HhE5 := Lib.hid hE5
          clear hE5
          have Hhbel5 := Lib.hid hbel5
          clear hbel5
          have hc2 := Hhread.out s w5 Hhbel5.out (by omega)
          rw [Hhrs.out] at hc2
          refine (show Calls Tryd.prog 10 #[.string ⟨s.toArray⟩] w5 (fun e w' => e = .returned (.tuple #[.agg #[.int .i64 y.g, .int .i64 y.q, .int .i64 y.c, .int .i64 y.v, .string ⟨y.tag.toArray⟩], .bool true]) ∧ Below w5.heap.size w5 w') from hc2).mono ?_
          clear hc2
          rintro e w6 ⟨rfl, hB6⟩
          have hz6 := hB6.size
          have hE6 : w6.heap[b8]? = some (.cells #[.int .i64 0, .int .i64 0, .int .i64 0, .int .i64 0, .string ⟨#[]⟩] 23 (0, 0)) := by rw [hB6.block _ (by omega)]; exact HhE5.out
          have hbel6 := Hhbel5.out.trans (hB6.mono Hhbel5.out.size)
          clear hB6
          have HhE6 := Lib.hid hE6
          clear hE6
          have Hhbel6 := Lib.hid hbel6
          clear hbel6
          go_wp2_with fail
          generalize hW7 : World.alloc _ _ = w7
          have hF7 : w7.heap[w6.heap.size]? = some (.cells #[.int .i64 y.g, .int .i64 y.q, .int .i64 y.c, .int .i64 y.v, .string ⟨y.tag.toArray⟩] 23 (0, 0)) := by rw [← hW7]; exact heap_alloc_new w6 _
          have hE7 : w7.heap[b8]? = some (.cells #[.int .i64 0, .int .i64 0, .int .i64 0, .int .i64 0, .string ⟨#[]⟩] 23 (0, 0)) := by rw [← hW7, Below.heap_alloc _ _ _ (by omega)]; exact HhE6.out
          have hs7 : w7.heap.size = w6.heap.size + 1 := by rw [← hW7, World.size_alloc]
          have hbel7 : Below wb.heap.size wb w7 := Hhbel6.out.trans (by rw [← hW7]; have := Hhbel6.out.size; exact (by ((repeat' (first | exact Below.refl _ _ | (refine Below.alloc ?_ ?_ _) | (refine Below.setCell ?_ ?_ _) | (refine Below.drew ?_) | (refine Below.trans ?_ (Below.mono (by assumption) ?_)))) <;> ((try simp only [World.size_alloc, World.size_setCell, World.size_drew] at *); omega))))
          clear hW7
          obtain ⟨b10, hb10⟩ : ∃ b, b = w6.heap.size := ⟨_, rfl⟩
          rw [← hb10] at hF7 hs7 ⊢
          have hb8l : b8 < b10 := by omega
          clear hb10
          have HhF7 := Lib.hid hF7
          clear hF7
          have HhE7 := Lib.hid hE7
          clear hE7
          have Hhbel7 := Lib.hid hbel7
          clear hbel7
          have hc3 := Hhread.out Bx w7 Hhbel7.out (by have := HhBxl.out; omega)
          rw [HhrBx.out] at hc3
          refine (show Calls Tryd.prog 10 #[.string ⟨Bx.toArray⟩] w7 (fun e w' => e = .returned (.tuple #[.agg #[.int .i64 0, .int .i64 0, .int .i64 0, .int .i64 0, .string ⟨#[]⟩], .bool false]) ∧ Below w7.heap.size w7 w') from hc3).mono ?_
          clear hc3
          rintro e w8 ⟨rfl, hB8⟩
          have hz8 := hB8.size
          have hE8 : w8.heap[b8]? = some (.cells #[.int .i64 0, .int .i64 0, .int .i64 0, .int .i64 0, .string ⟨#[]⟩] 23 (0, 0)) := by rw [hB8.block _ (by omega)]; exact HhE7.out
          have hF8 : w8.heap[b10]? = some (.cells #[.int .i64 y.g, .int .i64 y.q, .int .i64 y.c, .int .i64 y.v, .string ⟨y.tag.toArray⟩] 23 (0, 0)) := by rw [hB8.block _ (by omega)]; exact HhF7.out
          have hbel8 := Hhbel7.out.trans (hB8.mono Hhbel7.out.size)
          clear hB8
          obtain ⟨z0, z1, z2, z3, z4⟩ := Hhk.out _ hbel8
          obtain ⟨p0, p1, p2, p3, p4⟩ := gr_cells (x := zeroGr) hE8
          obtain ⟨q0, q1, q2, q3, q4⟩ := gr_cells (x := y) hF8
          have l1 : b8 < w8.heap.size := by omega
          have l2 : b10 < w8.heap.size := by omega
          have l3 : w.heap.size < w8.heap.size := by have := hbel8.size; have := Hhszb.out; omega
          simp only [zeroGr] at p0 p1 p2 p3 p4 q0 q1 q2 q3 q4 heqz
          have Hhbel8 := Lib.hid hbel8
          clear hbel8
          have HhE8 := Lib.hid hE8
          clear hE8
          have HhF8 := Lib.hid hF8
          clear hF8
          go_wp2_with fail
          generalize hW9 : World.alloc _ _ = w9
          have hbel9 : Below wb.heap.size wb w9 := Hhbel8.out.trans (by rw [← hW9]; have := Hhbel8.out.size; exact (by ((repeat' (first | exact Below.refl _ _ | (refine Below.alloc ?_ ?_ _) | (refine Below.setCell ?_ ?_ _) | (refine Below.drew ?_) | (refine Below.trans ?_ (Below.mono (by assumption) ?_)))) <;> ((try simp only [World.size_alloc, World.size_setCell, World.size_drew] at *); omega))))
          clear hW9
          have hc4 := Hhbytes.out y w9 hbel9 Hhyw.out (by have := Hhyt.out; omega)
          rw [Hrby.out] at hc4
          refine (show Calls Tryd.prog 18 #[.agg #[.int .i64 y.g, .int .i64 y.q, .int .i64 y.c, .int .i64 y.v, .string ⟨y.tag.toArray⟩]] w9 (fun e w' => e = .returned (.string ⟨s.toArray⟩) ∧ Below w9.heap.size w9 w') from hc4).mono ?_
          rintro e w10 ⟨rfl, hB10⟩
          have hfin := hBb.trans ((hbel9.trans (hB10.mono hbel9.size)).mono (by have := Hhszb.out; omega))
          clear hB10 hc4
          go_wp2_with fail
          go_ret
          exact ⟨rfl, hfin⟩
        · have hrs : readS s = (zeroGr, false) := r0
          clear r0
          have Hhrs := Lib.hid hrs
          clear hrs
          go_wp2_with fail
          have hc1 := Hhread.out B wc HhB3.out (by have := HhBl.out; omega)
          rw [HhrB.out] at hc1
          refine (show Calls Tryd.prog 10 #[.string ⟨B.toArray⟩] wc (fun e w' => e = .returned (.tuple #[.agg #[.int .i64 0, .int .i64 0, .int .i64 0, .int .i64 0, .string ⟨#[]⟩], .bool false]) ∧ Below wc.heap.size wc w') from hc1).mono ?_
          clear hc1
          rintro e w4 ⟨rfl, hB4⟩
          have hz4 := hB4.size
          have hbel4 := HhB3.out.trans (hB4.mono HhB3.out.size)
          clear hB4 z0 z1 z2 z3 z4
          have Hhbel4 := Lib.hid hbel4
          clear hbel4
          go_wp2_with fail
          generalize hW5 : World.alloc _ _ = w5
          have hE5 : w5.heap[w4.heap.size]? = some (.cells #[.int .i64 0, .int .i64 0, .int .i64 0, .int .i64 0, .string ⟨#[]⟩] 23 (0, 0)) := by rw [← hW5]; exact heap_alloc_new w4 _
          have hs5 : w5.heap.size = w4.heap.size + 1 := by rw [← hW5, World.size_alloc]
          have hbel5 : Below wb.heap.size wb w5 := Hhbel4.out.trans (by rw [← hW5]; have := Hhbel4.out.size; exact (by ((repeat' (first | exact Below.refl _ _ | (refine Below.alloc ?_ ?_ _) | (refine Below.setCell ?_ ?_ _) | (refine Below.drew ?_) | (refine Below.trans ?_ (Below.mono (by assumption) ?_)))) <;> ((try simp only [World.size_alloc, World.size_setCell, World.size_drew] at *); omega))))
          clear hW5
          obtain ⟨b8, hb8⟩ : ∃ b, b = w4.heap.size := ⟨_, rfl⟩
          rw [← hb8] at hE5 hs5 ⊢
          clear hb8
          have HhE5 := Lib.hid hE5
          clear hE5
          have Hhbel5 := Lib.hid hbel5
          clear hbel5
          have hc2 := Hhread.out s w5 Hhbel5.out (by omega)
          rw [Hhrs.out] at hc2
          refine (show Calls Tryd.prog 10 #[.string ⟨s.toArray⟩] w5 (fun e w' => e = .returned (.tuple #[.agg #[.int .i64 0, .int .i64 0, .int .i64 0, .int .i64 0, .string ⟨#[]⟩], .bool false]) ∧ Below w5.heap.size w5 w') from hc2).mono ?_
          clear hc2
          rintro e w6 ⟨rfl, hB6⟩
          have hz6 := hB6.size
          have hE6 : w6.heap[b8]? = some (.cells #[.int .i64 0, .int .i64 0, .int .i64 0, .int .i64 0, .string ⟨#[]⟩] 23 (0, 0)) := by rw [hB6.block _ (by omega)]; exact HhE5.out
          have hbel6 := Hhbel5.out.trans (hB6.mono Hhbel5.out.size)
          clear hB6
          have HhE6 := Lib.hid hE6
          clear hE6
          have Hhbel6 := Lib.hid hbel6
          clear hbel6
          go_wp2_with fail
          generalize hW7 : World.alloc _ _ = w7
          have hF7 : w7.heap[w6.heap.size]? = some (.cells #[.int .i64 0, .int .i64 0, .int .i64 0, .int .i64 0, .string ⟨#[]⟩] 23 (0, 0)) := by rw [← hW7]; exact heap_alloc_new w6 _
          have hE7 : w7.heap[b8]? = some (.cells #[.int .i64 0, .int .i64 0, .int .i64 0, .int .i64 0, .string ⟨#[]⟩] 23 (0, 0)) := by rw [← hW7, Below.heap_alloc _ _ _ (by omega)]; exact HhE6.out
          have hs7 : w7.heap.size = w6.heap.size + 1 := by rw [← hW7, World.size_alloc]
          have hbel7 : Below wb.heap.size wb w7 := Hhbel6.out.trans (by rw [← hW7]; have := Hhbel6.out.size; exact (by ((repeat' (first | exact Below.refl _ _ | (refine Below.alloc ?_ ?_ _) | (refine Below.setCell ?_ ?_ _) | (refine Below.drew ?_) | (refine Below.trans ?_ (Below.mono (by assumption) ?_)))) <;> ((try simp only [World.size_alloc, World.size_setCell, World.size_drew] at *); omega))))
          clear hW7
          obtain ⟨b10, hb10⟩ : ∃ b, b = w6.heap.size := ⟨_, rfl⟩
          rw [← hb10] at hF7 hs7 ⊢
          have hb8l : b8 < b10 := by omega
          clear hb10
          have HhF7 := Lib.hid hF7
          clear hF7
          have HhE7 := Lib.hid hE7
          clear hE7
          have Hhbel7 := Lib.hid hbel7
          clear hbel7
          have hc3 := Hhread.out Bx w7 Hhbel7.out (by have := HhBxl.out; omega)
          rw [HhrBx.out] at hc3
          refine (show Calls Tryd.prog 10 #[.string ⟨Bx.toArray⟩] w7 (fun e w' => e = .returned (.tuple #[.agg #[.int .i64 0, .int .i64 0, .int .i64 0, .int .i64 0, .string ⟨#[]⟩], .bool false]) ∧ Below w7.heap.size w7 w') from hc3).mono ?_
          clear hc3
          rintro e w8 ⟨rfl, hB8⟩
          have hz8 := hB8.size
          have hE8 : w8.heap[b8]? = some (.cells #[.int .i64 0, .int .i64 0, .int .i64 0, .int .i64 0, .string ⟨#[]⟩] 23 (0, 0)) := by rw [hB8.block _ (by omega)]; exact HhE7.out
          have hF8 : w8.heap[b10]? = some (.cells #[.int .i64 0, .int .i64 0, .int .i64 0, .int .i64 0, .string ⟨#[]⟩] 23 (0, 0)) := by rw [hB8.block _ (by omega)]; exact HhF7.out
          have hbel8 := Hhbel7.out.trans (hB8.mono Hhbel7.out.size)
          clear hB8
          obtain ⟨z0, z1, z2, z3, z4⟩ := Hhk.out _ hbel8
          obtain ⟨p0, p1, p2, p3, p4⟩ := gr_cells (x := zeroGr) hE8
          obtain ⟨q0, q1, q2, q3, q4⟩ := gr_cells (x := zeroGr) hF8
          have l1 : b8 < w8.heap.size := by omega
          have l2 : b10 < w8.heap.size := by omega
          have l3 : w.heap.size < w8.heap.size := by have := hbel8.size; have := Hhszb.out; omega
          simp only [zeroGr] at p0 p1 p2 p3 p4 q0 q1 q2 q3 q4 heqz
          have Hhbel8 := Lib.hid hbel8
          clear hbel8
          have HhE8 := Lib.hid hE8
          clear hE8
          have HhF8 := Lib.hid hF8
          clear hF8
          go_wp2_with fail
          generalize hW9 : World.alloc _ _ = w9
          have hbel9 : Below wb.heap.size wb w9 := Hhbel8.out.trans (by rw [← hW9]; have := Hhbel8.out.size; exact (by ((repeat' (first | exact Below.refl _ _ | (refine Below.alloc ?_ ?_ _) | (refine Below.setCell ?_ ?_ _) | (refine Below.drew ?_) | (refine Below.trans ?_ (Below.mono (by assumption) ?_)))) <;> ((try simp only [World.size_alloc, World.size_setCell, World.size_drew] at *); omega))))
          clear hW9
          have hfin := hBb.trans (hbel9.mono (by have := Hhszb.out; omega))
          go_ret
          exact ⟨rfl, hfin⟩
      · have hB0 : B ≠ [] := by rw [HhB.out]; exact bytes_ne hok
        have hrB : readS B = (x, true) := by rw [HhB.out]; exact read_bytes hok
        have hrBx : readS Bx = (zeroGr, false) := by rw [HhBx.out, HhB.out]; exact read_more hok 120
        have hBe : (ByteArray.mk B.toArray).toList.isEmpty = false := by rw [ByteArray.toList_eq]; simpa using hB0
        have hBe2 : (!(ByteArray.mk B.toArray).toList.isEmpty) = true := by rw [hBe]; rfl
        have hBi : B.isEmpty = false := by simpa using hB0
        clear hok
        have HhB0 := Lib.hid hB0
        clear hB0
        have HhrB := Lib.hid hrB
        clear hrB
        have HhrBx := Lib.hid hrBx
        clear hrBx
        rcases readS_cases s with ⟨r2, rok, rby⟩ | r0
        · obtain ⟨y, hy⟩ : ∃ y, y = (readS s).1 := ⟨_, rfl⟩
          rw [← hy] at rok rby
          have hrs : readS s = (y, true) := Prod.ext hy.symm r2
          have hyw := Gr.ok_wf rok
          have hyt := Gr.ok_tag rok
          clear hy r2 rok
          have Hhrs := Lib.hid hrs
          clear hrs
          have Hhyw := Lib.hid hyw
          clear hyw
          have Hhyt := Lib.hid hyt
          clear hyt
          have Hrby := Lib.hid rby
          clear rby
          go_wp2_with fail
          have hc1 := Hhread.out B wc HhB3.out (by have := HhBl.out; omega)
          rw [HhrB.out] at hc1
          refine (show Calls Tryd.prog 10 #[.string ⟨B.toArray⟩] wc (fun e w' => e = .returned (.tuple #[.agg #[.int .i64 x.g, .int .i64 x.q, .int .i64 x.c, .int .i64 x.v, .string ⟨x.tag.toArray⟩], .bool true]) ∧ Below wc.heap.size wc w') from hc1).mono ?_
          clear hc1
          rintro e w4 ⟨rfl, hB4⟩
          have hz4 := hB4.size
          have hbel4 := HhB3.out.trans (hB4.mono HhB3.out.size)
          clear hB4 z0 z1 z2 z3 z4
          have Hhbel4 := Lib.hid hbel4
          clear hbel4
          go_wp2_with fail
          generalize hW5 : World.alloc _ _ = w5
          have hE5 : w5.heap[w4.heap.size]? = some (.cells #[.int .i64 x.g, .int .i64 x.q, .int .i64 x.c, .int .i64 x.v, .string ⟨x.tag.toArray⟩] 23 (0, 0)) := by rw [← hW5]; exact heap_alloc_new w4 _
          have hs5 : w5.heap.size = w4.heap.size + 1 := by rw [← hW5, World.size_alloc]
          have hbel5 : Below wb.heap.size wb w5 := Hhbel4.out.trans (by rw [← hW5]; have := Hhbel4.out.size; exact (by ((repeat' (first | exact Below.refl _ _ | (refine Below.alloc ?_ ?_ _) | (refine Below.setCell ?_ ?_ _) | (refine Below.drew ?_) | (refine Below.trans ?_ (Below.mono (by assumption) ?_)))) <;> ((try simp only [World.size_alloc, World.size_setCell, World.size_drew] at *); omega))))
          clear hW5
          obtain ⟨b8, hb8⟩ : ∃ b, b = w4.heap.size := ⟨_, rfl⟩
          rw [← hb8] at hE5 hs5 ⊢
          clear hb8
          have HhE5 := Lib.hid hE5
          clear hE5
          have Hhbel5 := Lib.hid hbel5
          clear hbel5
          have hc2 := Hhread.out s w5 Hhbel5.out (by omega)
          rw [Hhrs.out] at hc2
          refine (show Calls Tryd.prog 10 #[.string ⟨s.toArray⟩] w5 (fun e w' => e = .returned (.tuple #[.agg #[.int .i64 y.g, .int .i64 y.q, .int .i64 y.c, .int .i64 y.v, .string ⟨y.tag.toArray⟩], .bool true]) ∧ Below w5.heap.size w5 w') from hc2).mono ?_
          clear hc2
          rintro e w6 ⟨rfl, hB6⟩
          have hz6 := hB6.size
          have hE6 : w6.heap[b8]? = some (.cells #[.int .i64 x.g, .int .i64 x.q, .int .i64 x.c, .int .i64 x.v, .string ⟨x.tag.toArray⟩] 23 (0, 0)) := by rw [hB6.block _ (by omega)]; exact HhE5.out
          have hbel6 := Hhbel5.out.trans (hB6.mono Hhbel5.out.size)
          clear hB6
          have HhE6 := Lib.hid hE6
          clear hE6
          have Hhbel6 := Lib.hid hbel6
          clear hbel6
          go_wp2_with fail
          generalize hW7 : World.alloc _ _ = w7
          have hF7 : w7.heap[w6.heap.size]? = some (.cells #[.int .i64 y.g, .int .i64 y.q, .int .i64 y.c, .int .i64 y.v, .string ⟨y.tag.toArray⟩] 23 (0, 0)) := by rw [← hW7]; exact heap_alloc_new w6 _
          have hE7 : w7.heap[b8]? = some (.cells #[.int .i64 x.g, .int .i64 x.q, .int .i64 x.c, .int .i64 x.v, .string ⟨x.tag.toArray⟩] 23 (0, 0)) := by rw [← hW7, Below.heap_alloc _ _ _ (by omega)]; exact HhE6.out
          have hs7 : w7.heap.size = w6.heap.size + 1 := by rw [← hW7, World.size_alloc]
          have hbel7 : Below wb.heap.size wb w7 := Hhbel6.out.trans (by rw [← hW7]; have := Hhbel6.out.size; exact (by ((repeat' (first | exact Below.refl _ _ | (refine Below.alloc ?_ ?_ _) | (refine Below.setCell ?_ ?_ _) | (refine Below.drew ?_) | (refine Below.trans ?_ (Below.mono (by assumption) ?_)))) <;> ((try simp only [World.size_alloc, World.size_setCell, World.size_drew] at *); omega))))
          clear hW7
          obtain ⟨b10, hb10⟩ : ∃ b, b = w6.heap.size := ⟨_, rfl⟩
          rw [← hb10] at hF7 hs7 ⊢
          have hb8l : b8 < b10 := by omega
          clear hb10
          have HhF7 := Lib.hid hF7
          clear hF7
          have HhE7 := Lib.hid hE7
          clear hE7
          have Hhbel7 := Lib.hid hbel7
          clear hbel7
          have hc3 := Hhread.out Bx w7 Hhbel7.out (by have := HhBxl.out; omega)
          rw [HhrBx.out] at hc3
          refine (show Calls Tryd.prog 10 #[.string ⟨Bx.toArray⟩] w7 (fun e w' => e = .returned (.tuple #[.agg #[.int .i64 0, .int .i64 0, .int .i64 0, .int .i64 0, .string ⟨#[]⟩], .bool false]) ∧ Below w7.heap.size w7 w') from hc3).mono ?_
          clear hc3
          rintro e w8 ⟨rfl, hB8⟩
          have hz8 := hB8.size
          have hE8 : w8.heap[b8]? = some (.cells #[.int .i64 x.g, .int .i64 x.q, .int .i64 x.c, .int .i64 x.v, .string ⟨x.tag.toArray⟩] 23 (0, 0)) := by rw [hB8.block _ (by omega)]; exact HhE7.out
          have hF8 : w8.heap[b10]? = some (.cells #[.int .i64 y.g, .int .i64 y.q, .int .i64 y.c, .int .i64 y.v, .string ⟨y.tag.toArray⟩] 23 (0, 0)) := by rw [hB8.block _ (by omega)]; exact HhF7.out
          have hbel8 := Hhbel7.out.trans (hB8.mono Hhbel7.out.size)
          clear hB8
          obtain ⟨z0, z1, z2, z3, z4⟩ := Hhk.out _ hbel8
          obtain ⟨p0, p1, p2, p3, p4⟩ := gr_cells (x := x) hE8
          obtain ⟨q0, q1, q2, q3, q4⟩ := gr_cells (x := y) hF8
          have l1 : b8 < w8.heap.size := by omega
          have l2 : b10 < w8.heap.size := by omega
          have l3 : w.heap.size < w8.heap.size := by have := hbel8.size; have := Hhszb.out; omega
          simp only [zeroGr] at p0 p1 p2 p3 p4 q0 q1 q2 q3 q4 heqz
          have Hhbel8 := Lib.hid hbel8
          clear hbel8
          have HhE8 := Lib.hid hE8
          clear hE8
          have HhF8 := Lib.hid hF8
          clear hF8
          go_wp2_with fail
          generalize hW9 : World.alloc _ _ = w9
          have hbel9 : Below wb.heap.size wb w9 := Hhbel8.out.trans (by rw [← hW9]; have := Hhbel8.out.size; exact (by ((repeat' (first | exact Below.refl _ _ | (refine Below.alloc ?_ ?_ _) | (refine Below.setCell ?_ ?_ _) | (refine Below.drew ?_) | (refine Below.trans ?_ (Below.mono (by assumption) ?_)))) <;> ((try simp only [World.size_alloc, World.size_setCell, World.size_drew] at *); omega))))
          clear hW9
          have hc4 := Hhbytes.out y w9 hbel9 Hhyw.out (by have := Hhyt.out; omega)
          rw [Hrby.out] at hc4
          refine (show Calls Tryd.prog 18 #[.agg #[.int .i64 y.g, .int .i64 y.q, .int .i64 y.c, .int .i64 y.v, .string ⟨y.tag.toArray⟩]] w9 (fun e w' => e = .returned (.string ⟨s.toArray⟩) ∧ Below w9.heap.size w9 w') from hc4).mono ?_
          rintro e w10 ⟨rfl, hB10⟩
          have hfin := hBb.trans ((hbel9.trans (hB10.mono hbel9.size)).mono (by have := Hhszb.out; omega))
          clear hB10 hc4
          go_wp2_with fail
          go_ret
          exact ⟨rfl, hfin⟩
        · have hrs : readS s = (zeroGr, false) := r0
          clear r0
          have Hhrs := Lib.hid hrs
          clear hrs
          go_wp2_with fail
          have hc1 := Hhread.out B wc HhB3.out (by have := HhBl.out; omega)
          rw [HhrB.out] at hc1
          refine (show Calls Tryd.prog 10 #[.string ⟨B.toArray⟩] wc (fun e w' => e = .returned (.tuple #[.agg #[.int .i64 x.g, .int .i64 x.q, .int .i64 x.c, .int .i64 x.v, .string ⟨x.tag.toArray⟩], .bool true]) ∧ Below wc.heap.size wc w') from hc1).mono ?_
          clear hc1
          rintro e w4 ⟨rfl, hB4⟩
          have hz4 := hB4.size
          have hbel4 := HhB3.out.trans (hB4.mono HhB3.out.size)
          clear hB4 z0 z1 z2 z3 z4
          have Hhbel4 := Lib.hid hbel4
          clear hbel4
          go_wp2_with fail
          generalize hW5 : World.alloc _ _ = w5
          have hE5 : w5.heap[w4.heap.size]? = some (.cells #[.int .i64 x.g, .int .i64 x.q, .int .i64 x.c, .int .i64 x.v, .string ⟨x.tag.toArray⟩] 23 (0, 0)) := by rw [← hW5]; exact heap_alloc_new w4 _
          have hs5 : w5.heap.size = w4.heap.size + 1 := by rw [← hW5, World.size_alloc]
          have hbel5 : Below wb.heap.size wb w5 := Hhbel4.out.trans (by rw [← hW5]; have := Hhbel4.out.size; exact (by ((repeat' (first | exact Below.refl _ _ | (refine Below.alloc ?_ ?_ _) | (refine Below.setCell ?_ ?_ _) | (refine Below.drew ?_) | (refine Below.trans ?_ (Below.mono (by assumption) ?_)))) <;> ((try simp only [World.size_alloc, World.size_setCell, World.size_drew] at *); omega))))
          clear hW5
          obtain ⟨b8, hb8⟩ : ∃ b, b = w4.heap.size := ⟨_, rfl⟩
          rw [← hb8] at hE5 hs5 ⊢
          clear hb8
          have HhE5 := Lib.hid hE5
          clear hE5
          have Hhbel5 := Lib.hid hbel5
          clear hbel5
          have hc2 := Hhread.out s w5 Hhbel5.out (by omega)
          rw [Hhrs.out] at hc2
          refine (show Calls Tryd.prog 10 #[.string ⟨s.toArray⟩] w5 (fun e w' => e = .returned (.tuple #[.agg #[.int .i64 0, .int .i64 0, .int .i64 0, .int .i64 0, .string ⟨#[]⟩], .bool false]) ∧ Below w5.heap.size w5 w') from hc2).mono ?_
          clear hc2
          rintro e w6 ⟨rfl, hB6⟩
          have hz6 := hB6.size
          have hE6 : w6.heap[b8]? = some (.cells #[.int .i64 x.g, .int .i64 x.q, .int .i64 x.c, .int .i64 x.v, .string ⟨x.tag.toArray⟩] 23 (0, 0)) := by rw [hB6.block _ (by omega)]; exact HhE5.out
          have hbel6 := Hhbel5.out.trans (hB6.mono Hhbel5.out.size)
          clear hB6
          have HhE6 := Lib.hid hE6
          clear hE6
          have Hhbel6 := Lib.hid hbel6
          clear hbel6
          go_wp2_with fail
          generalize hW7 : World.alloc _ _ = w7
          have hF7 : w7.heap[w6.heap.size]? = some (.cells #[.int .i64 0, .int .i64 0, .int .i64 0, .int .i64 0, .string ⟨#[]⟩] 23 (0, 0)) := by rw [← hW7]; exact heap_alloc_new w6 _
          have hE7 : w7.heap[b8]? = some (.cells #[.int .i64 x.g, .int .i64 x.q, .int .i64 x.c, .int .i64 x.v, .string ⟨x.tag.toArray⟩] 23 (0, 0)) := by rw [← hW7, Below.heap_alloc _ _ _ (by omega)]; exact HhE6.out
          have hs7 : w7.heap.size = w6.heap.size + 1 := by rw [← hW7, World.size_alloc]
          have hbel7 : Below wb.heap.size wb w7 := Hhbel6.out.trans (by rw [← hW7]; have := Hhbel6.out.size; exact (by ((repeat' (first | exact Below.refl _ _ | (refine Below.alloc ?_ ?_ _) | (refine Below.setCell ?_ ?_ _) | (refine Below.drew ?_) | (refine Below.trans ?_ (Below.mono (by assumption) ?_)))) <;> ((try simp only [World.size_alloc, World.size_setCell, World.size_drew] at *); omega))))
          clear hW7
          obtain ⟨b10, hb10⟩ : ∃ b, b = w6.heap.size := ⟨_, rfl⟩
          rw [← hb10] at hF7 hs7 ⊢
          have hb8l : b8 < b10 := by omega
          clear hb10
          have HhF7 := Lib.hid hF7
          clear hF7
          have HhE7 := Lib.hid hE7
          clear hE7
          have Hhbel7 := Lib.hid hbel7
          clear hbel7
          have hc3 := Hhread.out Bx w7 Hhbel7.out (by have := HhBxl.out; omega)
          rw [HhrBx.out] at hc3
          refine (show Calls Tryd.prog 10 #[.string ⟨Bx.toArray⟩] w7 (fun e w' => e = .returned (.tuple #[.agg #[.int .i64 0, .int .i64 0, .int .i64 0, .int .i64 0, .string ⟨#[]⟩], .bool false]) ∧ Below w7.heap.size w7 w') from hc3).mono ?_
          clear hc3
          rintro e w8 ⟨rfl, hB8⟩
          have hz8 := hB8.size
          have hE8 : w8.heap[b8]? = some (.cells #[.int .i64 x.g, .int .i64 x.q, .int .i64 x.c, .int .i64 x.v, .string ⟨x.tag.toArray⟩] 23 (0, 0)) := by rw [hB8.block _ (by omega)]; exact HhE7.out
          have hF8 : w8.heap[b10]? = some (.cells #[.int .i64 0, .int .i64 0, .int .i64 0, .int .i64 0, .string ⟨#[]⟩] 23 (0, 0)) := by rw [hB8.block _ (by omega)]; exact HhF7.out
          have hbel8 := Hhbel7.out.trans (hB8.mono Hhbel7.out.size)
          clear hB8
          obtain ⟨z0, z1, z2, z3, z4⟩ := Hhk.out _ hbel8
          obtain ⟨p0, p1, p2, p3, p4⟩ := gr_cells (x := x) hE8
          obtain ⟨q0, q1, q2, q3, q4⟩ := gr_cells (x := zeroGr) hF8
          have l1 : b8 < w8.heap.size := by omega
          have l2 : b10 < w8.heap.size := by omega
          have l3 : w.heap.size < w8.heap.size := by have := hbel8.size; have := Hhszb.out; omega
          simp only [zeroGr] at p0 p1 p2 p3 p4 q0 q1 q2 q3 q4 heqz
          have Hhbel8 := Lib.hid hbel8
          clear hbel8
          have HhE8 := Lib.hid hE8
          clear hE8
          have HhF8 := Lib.hid hF8
          clear hF8
          go_wp2_with fail
          generalize hW9 : World.alloc _ _ = w9
          have hbel9 : Below wb.heap.size wb w9 := Hhbel8.out.trans (by rw [← hW9]; have := Hhbel8.out.size; exact (by ((repeat' (first | exact Below.refl _ _ | (refine Below.alloc ?_ ?_ _) | (refine Below.setCell ?_ ?_ _) | (refine Below.drew ?_) | (refine Below.trans ?_ (Below.mono (by assumption) ?_)))) <;> ((try simp only [World.size_alloc, World.size_setCell, World.size_drew] at *); omega))))
          clear hW9
          have hfin := hBb.trans (hbel9.mono (by have := Hhszb.out; omega))
          go_ret
          exact ⟨rfl, hfin⟩
  · have hsf : (decide (x.tag.length ≤ 300) && (decide (s.length ≤ 300) && decide (([] : List UInt8).length ≤ 300))) = false := by
      rw [Bool.eq_false_iff]; simp; omega
    rw [hsf] at hsh2
    have Hhsh2 := Lib.hid hsh2
    clear hsh2
    refine (Hhsh2.out).mono ?_
    rintro e w1' ⟨rfl, rfl⟩
    have hfin := hBb.trans (HhB1.out.mono (by have := Hhszb.out; omega))
    go_wp2_with fail
    go_ret
    exact ⟨rfl, hfin⟩
theorem ba_eta (s : ByteArray) : (⟨s.data.toList.toArray⟩ : ByteArray) = s := by
  apply ByteArray.ext
  simp
theorem Reads_at (x : Gr) (s : ByteArray) (m : Int) (w : World) (h : AllAt m w) (hx : x.wf) (htl : x.tag.length ≤ 9223372036854775807) (hsl : s.size ≤ 9223372036854775807) :
    Calls Tryd.prog 4 #[x.val, .string s] w fun e w' => e = .returned (.bool true) ∧ Below w.heap.size w w' := by
  have := Reads_calls x s.data.toList m w h hx htl (by rw [len_data]; exact hsl)
  rwa [ba_eta] at this
end Go.Proofs.YtibhihobpehpbaaDoor
