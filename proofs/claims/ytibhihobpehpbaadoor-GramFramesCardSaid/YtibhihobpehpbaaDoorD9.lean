/- The walks of small and short. -/
import Derived.Test.YtibhihobpehpbaaDoorG2
import Derived.Laws.MakeOwn
set_option linter.unusedSimpArgs false
set_option linter.unusedVariables false
namespace Go.Proofs.YtibhihobpehpbaaDoor
open Go.RowKit

theorem und35 : Tryd.prog.underlying 35 = some (.struct (Tryd.prog.fieldsOf 35)) := by kernel_rfl
theorem sz35 : (Tryd.prog.info? 35).map (·.size) = some 11 := by kernel_rfl
theorem und26 : Tryd.prog.underlying 26 = some (.slice 140) := by kernel_rfl
theorem mk26 (n : Nat) (hn : n ≤ 200) : ∃ o : Obj, ∀ w : World, (Instr.makeSlice 26 (.int .i64 (n : Int)) (.int .i64 (n : Int))).run Tryd.prog w = .ok (.slice (some ⟨w.heap.size, 0, none⟩) n n) (w.alloc o) := by
  have h0 : ((Tryd.prog.info? 140).map (fun i => (i.size, i.bytes))) = some (5, 48) := by kernel_rfl
  have h1 : ((Tryd.prog.info? 140).bind (fun i => i.zero)).isSome = true := by kernel_rfl
  cases hi : Tryd.prog.info? 140 with
  | none => rw [hi] at h0; cases h0
  | some i =>
    rw [hi] at h0 h1
    simp only [Option.map_some, Option.some.injEq, Prod.mk.injEq] at h0
    cases hz : i.zero with
    | none => simp [hz] at h1
    | some z =>
      refine ⟨.cells (madeCells z.cells ((n : Int).toNat * i.size)) 140, fun w => ?_⟩
      have := run_makeSlice (P := Tryd.prog) w 26 140 i z und26 hi hz .i64 .i64 (n : Int) (n : Int) (by omega) (Int.le_refl _) (by rw [h0.1]; omega) (by rw [h0.2]; omega) (by omega)
      simpa using this

set_option maxRecDepth 100000 in
set_option maxHeartbeats 1000000 in
theorem small_calls (m : Int) (w : World) (h : AllAt m w) :
    Calls Tryd.prog 8 #[] w fun e w' => e = .returned (.bool true) ∧ Below w.heap.size w w' := by
  have h4 := h.2.2.1
  obtain ⟨T, hT⟩ : ∃ T, T = tagS [115] g0 := ⟨_, rfl⟩
  obtain ⟨x1, hx1⟩ : ∃ x : Gr, x = sealS [115] g0 := ⟨_, rfl⟩
  have hxT : x1 = ⟨3, 1, 600, -5, T⟩ := by rw [hx1, hT]; rfl
  have hok : x1.ok = true := by rw [hx1, seal_ok]; decide
  have hwf : x1.wf := Gr.ok_wf hok
  have hg1 : genS [115] x1 = true := by rw [hx1, gen_seal]; decide
  have hg2 : genS [116] x1 = false := by
    rw [genS, hok, Bool.true_and, decide_eq_false_iff_not]
    intro e
    apply tag_ne
    have e2 := congrArg Gr.tag e
    rw [hx1] at e2
    exact e2
  obtain ⟨B, hB⟩ : ∃ B, B = bytesS x1 := ⟨_, rfl⟩
  have hrd : readS B = (x1, true) := by rw [hB]; exact read_bytes hok
  have hBl : B.length ≤ 1000 := by
    rw [hB, bytesS, if_pos hok, List.length_append]
    have := coreS_len x1 hwf
    have := encText_le2 x1.tag
    have := Gr.ok_tag hok
    omega
  have hxc : x1.cells = #[.int .i64 3, .int .i64 1, .int .i64 600, .int .i64 (-5), .string ⟨T.toArray⟩] := by rw [hxT]; rfl
  have hxt : decide (x1.g < 4) = true := by rw [hxT]; rfl
  have hxv : x1.val = .agg #[.int .i64 3, .int .i64 1, .int .i64 600, .int .i64 (-5), .string ⟨T.toArray⟩] := by rw [hxT]; rfl
  have hq : ∀ w, (Op.equalIn 10000 23 (.agg #[.int .i64 3, .int .i64 1, .int .i64 600, .int .i64 (-5), .string ⟨T.toArray⟩]) (.agg #[.int .i64 3, .int .i64 1, .int .i64 600, .int .i64 (-5), .string ⟨T.toArray⟩])).run Tryd.prog w = .ok true w := fun w => by
    have := equal23 x1 x1 w
    rw [hxT] at this
    simpa using this
  have hc12 := Seal_calls [115] g0 m w h (by simp [Gr.wf, g0, In64]) (by decide)
  rw [show sealS [115] g0 = x1 from hx1.symm, hxv] at hc12
  have hc18 : ∀ wx, AllAt m wx → Calls Tryd.prog 18 #[.agg #[.int .i64 3, .int .i64 1, .int .i64 600, .int .i64 (-5), .string ⟨T.toArray⟩]] wx fun e w' => e = .returned (.string ⟨B.toArray⟩) ∧ Below wx.heap.size wx w' := fun wx ha => by
    have := Bytes_calls x1 m wx ha hwf (by have := Gr.ok_tag hok; omega)
    rw [hxv, ← hB] at this; exact this
  have hc10 : ∀ wx, AllAt m wx → Calls Tryd.prog 10 #[.string ⟨B.toArray⟩] wx fun e w' => e = .returned (.tuple #[.agg #[.int .i64 3, .int .i64 1, .int .i64 600, .int .i64 (-5), .string ⟨T.toArray⟩], .bool true]) ∧ Below wx.heap.size wx w' := fun wx ha => by
    have := Read_calls B wx ha.2.1 (by omega)
    rw [hrd] at this
    simp only [tupV, hxc] at this; exact this
  have hc10n : ∀ wx, AllAt m wx → Calls Tryd.prog 10 #[.string ⟨#[]⟩] wx fun e w' => e = .returned (.tuple #[.agg #[.int .i64 0, .int .i64 0, .int .i64 0, .int .i64 0, .string ⟨#[]⟩], .bool false]) ∧ Below wx.heap.size wx w' := fun wx ha => by
    have := Read_calls [] wx ha.2.1 (by simp)
    rw [read_nil] at this; exact this
  obtain ⟨og, hog⟩ := mk26 4 (by omega)
  have hmk : ∀ w : World, (Instr.makeSlice 26 (.int .i64 4) (.int .i64 4)).run Tryd.prog w = .ok (.slice (some ⟨w.heap.size, 0, none⟩) 4 4) (w.alloc og) := hog
  clear hog
  have Hh := Lib.hid h
  clear h
  have HhT := Lib.hid hT
  clear hT
  have Hhx1 := Lib.hid hx1
  clear hx1
  have HhxT := Lib.hid hxT
  clear hxT
  have Hhok := Lib.hid hok
  clear hok
  have Hhwf := Lib.hid hwf
  clear hwf
  have Hhg1 := Lib.hid hg1
  clear hg1
  have Hhg2 := Lib.hid hg2
  clear hg2
  have HhB := Lib.hid hB
  clear hB
  have Hhrd := Lib.hid hrd
  clear hrd
  have HhBl := Lib.hid hBl
  clear hBl
  have Hhxc := Lib.hid hxc
  clear hxc
  have Hhxt := Lib.hid hxt
  clear hxt
  have Hhxv := Lib.hid hxv
  clear hxv
  have Hhc12 := Lib.hid hc12
  clear hc12
  have Hhc18 := Lib.hid hc18
  clear hc18
  have Hhc10 := Lib.hid hc10
  clear hc10
  have Hhc10n := Lib.hid hc10n
  clear hc10n
  go_enter Tryd.func8, Tryd.ntmps8
  go_wp2_with fail
  refine (Hhc12.out).mono ?_
  rintro e w1 ⟨rfl, hB1⟩
  have hz1 := hB1.size
  have HhB1 := Lib.hid hB1
  clear hB1
  go_wp2_with fail
  generalize hW2 : World.alloc _ _ = w2
  have hA2 : w2.heap[w1.heap.size]? = some (.cells #[.int .i64 3, .int .i64 1, .int .i64 600, .int .i64 (-5), .string ⟨T.toArray⟩] 23 (0, 0)) := by rw [← hW2]; exact heap_alloc_new w1 _
  have hs2 : w2.heap.size = w1.heap.size + 1 := by rw [← hW2, World.size_alloc]
  have hB2 : Below w.heap.size w w2 := HhB1.out.trans (by rw [← hW2]; exact (by ((repeat' (first | exact Below.refl _ _ | (refine Below.alloc ?_ ?_ _) | (refine Below.setCell ?_ ?_ _) | (refine Below.drew ?_) | (refine Below.trans ?_ (Below.mono (by assumption) ?_)))) <;> ((try simp only [World.size_alloc, World.size_setCell, World.size_drew] at *); omega))))
  clear hW2
  obtain ⟨b1, hb1⟩ : ∃ b, b = w1.heap.size := ⟨_, rfl⟩
  rw [← hb1] at hA2 hs2 hz1 ⊢
  clear hb1
  have HhA2 := Lib.hid hA2
  clear hA2
  have HhB2 := Lib.hid hB2
  clear hB2
  refine (Hhc18.out w2 (Hh.out.below HhB2.out h4)).mono ?_
  rintro e w3 ⟨rfl, hB3⟩
  have hA3 : w3.heap[b1]? = some (.cells #[.int .i64 3, .int .i64 1, .int .i64 600, .int .i64 (-5), .string ⟨T.toArray⟩] 23 (0, 0)) := by rw [hB3.block _ (by omega)]; exact HhA2.out
  have hz3 := hB3.size
  have hbel3 := HhB2.out.trans (hB3.mono HhB2.out.size)
  clear hB3
  have HhA3 := Lib.hid hA3
  clear hA3
  have Hhbel3 := Lib.hid hbel3
  clear hbel3
  go_wp2_with fail
  refine (Hhc10.out w3 (Hh.out.below Hhbel3.out h4)).mono ?_
  rintro e w4 ⟨rfl, hB4⟩
  have hA4 : w4.heap[b1]? = some (.cells #[.int .i64 3, .int .i64 1, .int .i64 600, .int .i64 (-5), .string ⟨T.toArray⟩] 23 (0, 0)) := by rw [hB4.block _ (by omega)]; exact HhA3.out
  have hz4 := hB4.size
  have hbel4 := Hhbel3.out.trans (hB4.mono Hhbel3.out.size)
  clear hB4
  have HhA4 := Lib.hid hA4
  clear hA4
  have Hhbel4 := Lib.hid hbel4
  clear hbel4
  go_wp2_with fail
  generalize hW5 : World.alloc _ _ = w5
  have hC5 : w5.heap[w4.heap.size]? = some (.cells #[.int .i64 3, .int .i64 1, .int .i64 600, .int .i64 (-5), .string ⟨T.toArray⟩] 23 (0, 0)) := by rw [← hW5]; exact heap_alloc_new w4 _
  have hA5 : w5.heap[b1]? = some (.cells #[.int .i64 3, .int .i64 1, .int .i64 600, .int .i64 (-5), .string ⟨T.toArray⟩] 23 (0, 0)) := by rw [← hW5, Below.heap_alloc _ _ _ (by omega)]; exact HhA4.out
  have hs5 : w5.heap.size = w4.heap.size + 1 := by rw [← hW5, World.size_alloc]
  have hbel5 : Below w.heap.size w w5 := Hhbel4.out.trans (by rw [← hW5]; exact (by ((repeat' (first | exact Below.refl _ _ | (refine Below.alloc ?_ ?_ _) | (refine Below.setCell ?_ ?_ _) | (refine Below.drew ?_) | (refine Below.trans ?_ (Below.mono (by assumption) ?_)))) <;> ((try simp only [World.size_alloc, World.size_setCell, World.size_drew] at *); omega))))
  clear hW5
  obtain ⟨b2, hb2⟩ : ∃ b, b = w4.heap.size := ⟨_, rfl⟩
  rw [← hb2] at hC5 hs5 hz4 ⊢
  clear hb2
  have HhC5 := Lib.hid hC5
  clear hC5
  have HhA5 := Lib.hid hA5
  clear hA5
  have Hhbel5 := Lib.hid hbel5
  clear hbel5
  refine (Hhc10n.out w5 (Hh.out.below Hhbel5.out h4)).mono ?_
  rintro e w6 ⟨rfl, hB6⟩
  have hA6 : w6.heap[b1]? = some (.cells #[.int .i64 3, .int .i64 1, .int .i64 600, .int .i64 (-5), .string ⟨T.toArray⟩] 23 (0, 0)) := by rw [hB6.block _ (by omega)]; exact HhA5.out
  have hC6 : w6.heap[b2]? = some (.cells #[.int .i64 3, .int .i64 1, .int .i64 600, .int .i64 (-5), .string ⟨T.toArray⟩] 23 (0, 0)) := by rw [hB6.block _ (by omega)]; exact HhC5.out
  have hz6 := hB6.size
  have hbel6 := Hhbel5.out.trans (hB6.mono Hhbel5.out.size)
  clear hB6
  have hcell : ∀ (wx : World) (b : Nat), wx.heap[b]? = some (.cells #[.int .i64 3, .int .i64 1, .int .i64 600, .int .i64 (-5), .string ⟨T.toArray⟩] 23 (0, 0)) → wx.cell? ⟨b, 0, none⟩ = some (.int .i64 3) ∧ wx.cell? ⟨b, 1, none⟩ = some (.int .i64 1) ∧ wx.cell? ⟨b, 2, none⟩ = some (.int .i64 600) ∧ wx.cell? ⟨b, 3, none⟩ = some (.int .i64 (-5)) ∧ wx.cell? ⟨b, 4, none⟩ = some (.string ⟨T.toArray⟩) := by
    intro wx b hb
    refine ⟨?_, ?_, ?_, ?_, ?_⟩ <;> (rw [cell_of_row _ _ _ _ _ _ hb]; rfl)
  obtain ⟨z0, z1, z2, z3, z4⟩ := hcell _ _ hA6
  have hb1 : b1 < w6.heap.size := by omega
  have hb2 : b2 < w6.heap.size := by omega
  have hb11 : b1 < w6.heap.size + 1 := by omega
  have hb12 : b1 < w6.heap.size + 2 := by omega
  have HhA6 := Lib.hid hA6
  clear hA6
  have HhC6 := Lib.hid hC6
  clear hC6
  have Hhbel6 := Lib.hid hbel6
  clear hbel6
  have Hhcell := Lib.hid hcell
  clear hcell
  go_wp2_with fail
  clear z0 z1 z2 z3 z4
  generalize hW7 : World.alloc (World.alloc _ _) _ = w7
  have hB67 : Below w6.heap.size w6 w7 := by rw [← hW7]; exact (by ((repeat' (first | exact Below.refl _ _ | (refine Below.alloc ?_ ?_ _) | (refine Below.setCell ?_ ?_ _) | (refine Below.drew ?_) | (refine Below.trans ?_ (Below.mono (by assumption) ?_)))) <;> ((try simp only [World.size_alloc, World.size_setCell, World.size_drew] at *); omega)))
  have hs7 : w7.heap.size = w6.heap.size + 3 := by rw [← hW7, World.size_alloc, World.size_alloc, World.size_alloc]
  have hD7 : w7.heap[w6.heap.size + 2]? = some (.cells #[.string ⟨#[]⟩, .slice none 0 0, .int .i64 0, .slice none 0 0, .slice none 0 0, .slice none 0 0, .slice (some ⟨w6.heap.size + 1, 0, none⟩) 4 4, .slice none 0 0, .slice none 0 0, .slice none 0 0, .int .i64 0] 35 (0, 0)) := by
    rw [← hW7]
    have := heap_alloc_new ((w6.alloc (Obj.cells #[Value.int .i64 0, .int .i64 0, .int .i64 0, .int .i64 0, .string ⟨#[]⟩] 23)).alloc og) (Obj.cells #[.string ⟨#[]⟩, .slice none 0 0, .int .i64 0, .slice none 0 0, .slice none 0 0, .slice none 0 0, .slice (some ⟨w6.heap.size + 1, 0, none⟩) 4 4, .slice none 0 0, .slice none 0 0, .slice none 0 0, .int .i64 0] 35)
    rw [World.size_alloc, World.size_alloc] at this
    exact this
  have hA7 : w7.heap[b1]? = some (.cells #[.int .i64 3, .int .i64 1, .int .i64 600, .int .i64 (-5), .string ⟨T.toArray⟩] 23 (0, 0)) := by rw [hB67.block _ hb1]; exact HhA6.out
  have hC7 : w7.heap[b2]? = some (.cells #[.int .i64 3, .int .i64 1, .int .i64 600, .int .i64 (-5), .string ⟨T.toArray⟩] 23 (0, 0)) := by rw [hB67.block _ hb2]; exact HhC6.out
  have hbel7 := Hhbel6.out.trans (hB67.mono Hhbel6.out.size)
  clear hW7 hB67
  obtain ⟨b6, hb6⟩ : ∃ b, b = w6.heap.size + 2 := ⟨_, rfl⟩
  rw [← hb6] at hD7 ⊢
  have hK : ∀ wx, Below w7.heap.size w7 wx → (wx.cell? ⟨b1, 0, none⟩ = some (.int .i64 3) ∧ wx.cell? ⟨b1, 1, none⟩ = some (.int .i64 1) ∧ wx.cell? ⟨b1, 2, none⟩ = some (.int .i64 600) ∧ wx.cell? ⟨b1, 3, none⟩ = some (.int .i64 (-5)) ∧ wx.cell? ⟨b1, 4, none⟩ = some (.string ⟨T.toArray⟩)) ∧ (wx.cell? ⟨b2, 0, none⟩ = some (.int .i64 3) ∧ wx.cell? ⟨b2, 1, none⟩ = some (.int .i64 1) ∧ wx.cell? ⟨b2, 2, none⟩ = some (.int .i64 600) ∧ wx.cell? ⟨b2, 3, none⟩ = some (.int .i64 (-5)) ∧ wx.cell? ⟨b2, 4, none⟩ = some (.string ⟨T.toArray⟩)) ∧ wx.heap[b6]? = some (.cells #[.string ⟨#[]⟩, .slice none 0 0, .int .i64 0, .slice none 0 0, .slice none 0 0, .slice none 0 0, .slice (some ⟨w6.heap.size + 1, 0, none⟩) 4 4, .slice none 0 0, .slice none 0 0, .slice none 0 0, .int .i64 0] 35 (0, 0)) := fun wx hx => by
    refine ⟨Hhcell.out wx b1 ?_, Hhcell.out wx b2 ?_, ?_⟩
    · rw [hx.block _ (by omega)]; exact hA7
    · rw [hx.block _ (by omega)]; exact hC7
    · rw [hx.block _ (by omega)]; exact hD7
  have hall : ∀ wx, Below w7.heap.size w7 wx → AllAt m wx := fun wx hx => Hh.out.below (hbel7.trans (hx.mono hbel7.size)) h4
  have hc14s : ∀ wx, Below w7.heap.size w7 wx → Calls Tryd.prog 14 #[.string ⟨#[115]⟩, .agg #[.int .i64 3, .int .i64 1, .int .i64 600, .int .i64 (-5), .string ⟨T.toArray⟩]] wx fun e w' => e = .returned (.bool true) ∧ Below w7.heap.size w7 w' := fun wx hx => by
    have := Genuine_calls [115] x1 m wx (hall wx hx) Hhwf.out (by decide)
    rw [Hhxv.out, Hhg1.out] at this
    exact this.mono fun e w' h => ⟨h.1, hx.trans (h.2.mono hx.size)⟩
  have hc14t : ∀ wx, Below w7.heap.size w7 wx → Calls Tryd.prog 14 #[.string ⟨#[116]⟩, .agg #[.int .i64 3, .int .i64 1, .int .i64 600, .int .i64 (-5), .string ⟨T.toArray⟩]] wx fun e w' => e = .returned (.bool false) ∧ Below w7.heap.size w7 w' := fun wx hx => by
    have := Genuine_calls [116] x1 m wx (hall wx hx) Hhwf.out (by decide)
    rw [Hhxv.out, Hhg2.out] at this
    exact this.mono fun e w' h => ⟨h.1, hx.trans (h.2.mono hx.size)⟩
  have hc16a : ∀ wx, Below w7.heap.size w7 wx → Calls Tryd.prog 16 #[.agg #[.string ⟨#[]⟩, .slice none 0 0, .int .i64 0, .slice none 0 0, .slice none 0 0, .slice none 0 0, .slice (some ⟨w6.heap.size + 1, 0, none⟩) 4 4, .slice none 0 0, .slice none 0 0, .slice none 0 0, .int .i64 0], .agg #[.int .i64 3, .int .i64 1, .int .i64 600, .int .i64 (-5), .string ⟨T.toArray⟩]] wx fun e w' => e = .returned (.bool true) ∧ Below w7.heap.size w7 w' := fun wx hx => by
    have := Right_calls (.string ⟨#[]⟩) (.slice none 0 0) (.int .i64 0) (.slice none 0 0) (.slice none 0 0) (.slice none 0 0) (.slice none 0 0) (.slice none 0 0) (.slice none 0 0) (.int .i64 0) (some ⟨w6.heap.size + 1, 0, none⟩) 4 4 x1 wx (hall wx hx).2.1 (by omega)
    rw [Hhxv.out, Hhok.out, show decide (x1.g < (4 : Nat)) = true from Hhxt.out] at this
    exact this.mono fun e w' h => ⟨h.1, hx.trans (h.2.mono hx.size)⟩
  have hc16b : ∀ wx, Below w7.heap.size w7 wx → Calls Tryd.prog 16 #[.agg #[.string ⟨#[]⟩, .slice none 0 0, .int .i64 0, .slice none 0 0, .slice none 0 0, .slice none 0 0, .slice none 0 0, .slice none 0 0, .slice none 0 0, .slice none 0 0, .int .i64 0], .agg #[.int .i64 3, .int .i64 1, .int .i64 600, .int .i64 (-5), .string ⟨T.toArray⟩]] wx fun e w' => e = .returned (.bool false) ∧ Below w7.heap.size w7 w' := fun wx hx => by
    have := Right_calls (.string ⟨#[]⟩) (.slice none 0 0) (.int .i64 0) (.slice none 0 0) (.slice none 0 0) (.slice none 0 0) (.slice none 0 0) (.slice none 0 0) (.slice none 0 0) (.int .i64 0) none 0 0 x1 wx (hall wx hx).2.1 (by omega)
    rw [Hhxv.out, Hhok.out, show decide (x1.g < (0 : Nat)) = false from by rw [HhxT.out]; rfl] at this
    exact this.mono fun e w' h => ⟨h.1, hx.trans (h.2.mono hx.size)⟩
  have hc18z : ∀ wx, Below w7.heap.size w7 wx → Calls Tryd.prog 18 #[.agg #[.int .i64 0, .int .i64 0, .int .i64 0, .int .i64 0, .string ⟨#[]⟩]] wx fun e w' => e = .returned (.string ⟨#[]⟩) ∧ Below w7.heap.size w7 w' := fun wx hx => by
    have := Bytes_calls zeroGr m wx (hall wx hx) zeroGr_wf (by decide)
    rw [bytes_not zeroGr_ok] at this
    exact this.mono fun e w' h => ⟨h.1, hx.trans (h.2.mono hx.size)⟩
  clear hA7 hC7 hD7 hb1 hb2 hb6 hb11 hb12
  have HhK := Lib.hid hK
  clear hK
  have Hhall := Lib.hid hall
  clear hall
  have Hhc14s := Lib.hid hc14s
  clear hc14s
  have Hhc14t := Lib.hid hc14t
  clear hc14t
  have Hhc16a := Lib.hid hc16a
  clear hc16a
  have Hhc16b := Lib.hid hc16b
  clear hc16b
  have Hhc18z := Lib.hid hc18z
  clear hc18z
  have Hhbel7 := Lib.hid hbel7
  clear hbel7
  have Hhs7 := Lib.hid hs7
  clear hs7
  refine (Hhc14s.out w7 (Below.refl _ _)).mono ?_
  rintro e wa ⟨rfl, hba⟩
  obtain ⟨⟨z0, z1, z2, z3, z4⟩, -, -⟩ := HhK.out _ hba
  go_wp2_with fail
  refine (Hhc14t.out _ hba).mono ?_
  rintro e wb ⟨rfl, hbb⟩
  clear z0 z1 z2 z3 z4 hba
  obtain ⟨⟨z0, z1, z2, z3, z4⟩, ⟨y0, y1, y2, y3, y4⟩, hrow⟩ := HhK.out _ hbb
  have y0' : wb.cell? ⟨b6, 0, none⟩ = some (.string ⟨#[]⟩) := by rw [cell_of_row _ _ _ _ _ _ hrow]; rfl
  have y1' : wb.cell? ⟨b6, 1, none⟩ = some (.slice none 0 0) := by rw [cell_of_row _ _ _ _ _ _ hrow]; rfl
  have y2' : wb.cell? ⟨b6, 2, none⟩ = some (.int .i64 0) := by rw [cell_of_row _ _ _ _ _ _ hrow]; rfl
  have y3' : wb.cell? ⟨b6, 3, none⟩ = some (.slice none 0 0) := by rw [cell_of_row _ _ _ _ _ _ hrow]; rfl
  have y4' : wb.cell? ⟨b6, 4, none⟩ = some (.slice none 0 0) := by rw [cell_of_row _ _ _ _ _ _ hrow]; rfl
  have y5' : wb.cell? ⟨b6, 5, none⟩ = some (.slice none 0 0) := by rw [cell_of_row _ _ _ _ _ _ hrow]; rfl
  have y6' : wb.cell? ⟨b6, 6, none⟩ = some (.slice (some ⟨w6.heap.size + 1, 0, none⟩) 4 4) := by rw [cell_of_row _ _ _ _ _ _ hrow]; rfl
  have y7' : wb.cell? ⟨b6, 7, none⟩ = some (.slice none 0 0) := by rw [cell_of_row _ _ _ _ _ _ hrow]; rfl
  have y8' : wb.cell? ⟨b6, 8, none⟩ = some (.slice none 0 0) := by rw [cell_of_row _ _ _ _ _ _ hrow]; rfl
  have y9' : wb.cell? ⟨b6, 9, none⟩ = some (.slice none 0 0) := by rw [cell_of_row _ _ _ _ _ _ hrow]; rfl
  have y10' : wb.cell? ⟨b6, 10, none⟩ = some (.int .i64 0) := by rw [cell_of_row _ _ _ _ _ _ hrow]; rfl
  clear hrow
  go_wp2_with fail
  refine (Hhc16a.out _ hbb).mono ?_
  rintro e wc ⟨rfl, hbc⟩
  clear z0 z1 z2 z3 z4 y0 y1 y2 y3 y4 y0' y1' y2' y3' y4' y5' y6' y7' y8' y9' y10' hbb
  obtain ⟨⟨z0, z1, z2, z3, z4⟩, -, -⟩ := HhK.out _ hbc
  go_wp2_with fail
  refine (Hhc16b.out _ hbc).mono ?_
  rintro e wd ⟨rfl, hbd⟩
  clear z0 z1 z2 z3 z4 hbc
  go_wp2_with fail
  refine (Hhc18z.out _ hbd).mono ?_
  rintro e we ⟨rfl, hbe⟩
  have hfin := Hhbel7.out.trans (hbe.mono Hhbel7.out.size)
  clear hbd
  go_wp2_with fail
  go_ret
  exact ⟨rfl, hfin⟩

theorem short_calls (a b c : List UInt8) (w : World) (ha : a.length ≤ 9223372036854775807) (hb : b.length ≤ 9223372036854775807) (hc : c.length ≤ 9223372036854775807) :
    Calls Tryd.prog 9 #[.string ⟨a.toArray⟩, .string ⟨b.toArray⟩, .string ⟨c.toArray⟩] w fun e w' => e = .returned (.bool (decide (a.length ≤ 300) && (decide (b.length ≤ 300) && decide (c.length ≤ 300)))) ∧ w = w' := by
  have h1 := str_size a
  have h2 := str_size b
  have h3 := str_size c
  by_cases ca : a.length ≤ 300
  · by_cases cb : b.length ≤ 300
    · by_cases cc : c.length ≤ 300
      · go_enter Tryd.func9, Tryd.ntmps9
        go_wp2_with fail
        go_ret
        exact ⟨by simp [ca, cb, cc]; try omega, rfl⟩
      · go_enter Tryd.func9, Tryd.ntmps9
        go_wp2_with fail
        go_ret
        exact ⟨by simp [ca, cb, cc]; try omega, rfl⟩
    · go_enter Tryd.func9, Tryd.ntmps9
      go_wp2_with fail
      go_ret
      exact ⟨by simp [ca, cb], rfl⟩
  · go_enter Tryd.func9, Tryd.ntmps9
    go_wp2_with fail
    go_ret
    exact ⟨by simp [ca], rfl⟩
end Go.Proofs.YtibhihobpehpbaaDoor
