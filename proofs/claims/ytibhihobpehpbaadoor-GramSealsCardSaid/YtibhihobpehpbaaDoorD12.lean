/- The walk of GramSeals. -/
import Derived.Test.YtibhihobpehpbaaDoorD10
set_option linter.unusedSimpArgs false
set_option linter.unusedVariables false
namespace Go.Proofs.YtibhihobpehpbaaDoor
open Go.RowKit

theorem ofList_toList' (l : List UInt8) : (ByteArray.mk l.toArray).toList = l := by rw [ByteArray.toList_eq]
set_option maxRecDepth 100000 in
set_option maxHeartbeats 4000000 in
theorem Seals_calls (secret : List UInt8) (x : Gr) (m : Int) (w : World) (h : AllAt m w) (hx : x.wf) (hsl : secret.length ≤ 9223372036854775807) (htl : x.tag.length ≤ 9223372036854775807) :
    Calls Tryd.prog 6 #[.string ⟨secret.toArray⟩, x.val] w fun e w' => e = .returned (.bool true) ∧ Below w.heap.size w w' := by
  have hval : Gr.val x = .agg #[.int .i64 x.g, .int .i64 x.q, .int .i64 x.c, .int .i64 x.v, .string ⟨x.tag.toArray⟩] := rfl
  have h4 := h.2.2.1
  have hst := str_size x.tag
  have hss := str_size secret
  obtain ⟨wb, hwb⟩ : ∃ wb, wb = w.alloc (.cells x.cells 23) := ⟨_, rfl⟩
  have hbox : GrAt wb w.heap.size x := by rw [hwb]; exact heap_alloc_new w _
  have hBb : Below w.heap.size w wb := by rw [hwb]; exact (by ((repeat' (first | exact Below.refl _ _ | (refine Below.alloc ?_ ?_ _) | (refine Below.setCell ?_ ?_ _) | (refine Below.drew ?_) | (refine Below.trans ?_ (Below.mono (by assumption) ?_)))) <;> ((try simp only [World.size_alloc, World.size_setCell, World.size_drew] at *); omega)))
  have hszb : wb.heap.size = w.heap.size + 1 := by rw [hwb]; simp
  have hall : ∀ wx, Below wb.heap.size wb wx → AllAt m wx := fun wx hx => (h.below hBb h4).below hx (by omega)
  have hk : ∀ wx, Below wb.heap.size wb wx → GrC wx w.heap.size x := fun wx hx => (hbox.below hx (by omega)).c
  have hsm := small_calls m wb (hall wb (Below.refl _ _))
  have hsh := short_calls secret x.tag []
  rw [hval]
  have Hhbox := Lib.hid hbox
  clear hbox
  have Hhszb := Lib.hid hszb
  clear hszb
  have Hhall := Lib.hid hall
  clear hall
  have Hhk := Lib.hid hk
  clear hk
  have Hhsm := Lib.hid hsm
  clear hsm
  have Hhsh := Lib.hid hsh
  clear hsh
  have Hhval := Lib.hid hval
  clear hval
  have Hhx := Lib.hid hx
  clear hx
  have Hh := Lib.hid h
  clear h
  go_enter Tryd.func6, Tryd.ntmps6
  go_wp2_with fail
  rw [show w.alloc (.cells #[.int .i64 x.g, .int .i64 x.q, .int .i64 x.c, .int .i64 x.v, .string ⟨x.tag.toArray⟩] 23) = wb from hwb.symm]
  clear hwb
  refine (Hhsm.out).mono ?_
  rintro e w1 ⟨rfl, hB1⟩
  obtain ⟨z0, z1, z2, z3, z4⟩ := Hhk.out _ hB1
  have hs1 := hB1.size
  have HhB1 := Lib.hid hB1
  clear hB1
  go_wp2_with fail
  have hsh2 := Hhsh.out w1 hsl htl (by simp)
  by_cases hc : secret.length ≤ 300 ∧ x.tag.length ≤ 300
  · obtain ⟨cs, ct⟩ := hc
    rw [show (decide (secret.length ≤ 300) && (decide (x.tag.length ≤ 300) && decide (([] : List UInt8).length ≤ 300))) = true by simp [ct, cs]] at hsh2
    have Hhsh2 := Lib.hid hsh2
    clear hsh2
    refine (Hhsh2.out).mono ?_
    rintro e w1' ⟨rfl, rfl⟩
    obtain ⟨T, hT⟩ : ∃ T, T = tagS secret x := ⟨_, rfl⟩
    have hc12 := Seal_calls secret x m w1 (Hhall.out _ HhB1.out) Hhx.out cs
    rw [show (sealS secret x).val = .agg #[.int .i64 x.g, .int .i64 x.q, .int .i64 x.c, .int .i64 x.v, .string ⟨T.toArray⟩] by rw [hT]; rfl, Hhval.out] at hc12
    have Hhc12 := Lib.hid hc12
    clear hc12
    have HhT := Lib.hid hT
    clear hT
    go_wp2_with fail
    refine (Hhc12.out).mono ?_
    rintro e w2 ⟨rfl, hB2⟩
    have hB3 := HhB1.out.trans (hB2.mono hs1)
    have hs2 := hB2.size
    clear z0 z1 z2 z3 z4 hB2
    obtain ⟨z0, z1, z2, z3, z4⟩ := Hhk.out _ hB3
    have l1 : w.heap.size < w2.heap.size := by have := hB3.size; have := Hhszb.out; omega
    have l2 : w.heap.size < w2.heap.size + 1 := by omega
    have l3 : w.heap.size < w2.heap.size + 2 := by omega
    have HhB3 := Lib.hid hB3
    clear hB3
    go_wp2_with fail
    generalize hW3 : World.alloc (World.alloc _ _) _ = w3
    have hX3 : w3.heap[w2.heap.size]? = some (.cells #[.int .i64 x.g, .int .i64 x.q, .int .i64 x.c, .int .i64 x.v, .string ⟨T.toArray⟩] 23 (0, 0)) := by
      rw [← hW3, Below.heap_alloc _ _ _ (by rw [World.size_alloc]; omega)]
      exact heap_alloc_new w2 _
    have hY3 : w3.heap[w2.heap.size + 1]? = some (.cells #[.int .i64 x.g, .int .i64 x.q, .int .i64 x.c, .int .i64 x.v, .string ⟨x.tag.toArray⟩] 23 (0, 0)) := by
      rw [← hW3]
      have := heap_alloc_new (w2.alloc (Obj.cells #[.int .i64 x.g, .int .i64 x.q, .int .i64 x.c, .int .i64 x.v, .string ⟨T.toArray⟩] 23)) (Obj.cells #[.int .i64 x.g, .int .i64 x.q, .int .i64 x.c, .int .i64 x.v, .string ⟨x.tag.toArray⟩] 23)
      rw [World.size_alloc] at this
      exact this
    have hs3 : w3.heap.size = w2.heap.size + 2 := by rw [← hW3, World.size_alloc, World.size_alloc]
    have hB23 : Below w2.heap.size w2 w3 := by rw [← hW3]; exact (by ((repeat' (first | exact Below.refl _ _ | (refine Below.alloc ?_ ?_ _) | (refine Below.setCell ?_ ?_ _) | (refine Below.drew ?_) | (refine Below.trans ?_ (Below.mono (by assumption) ?_)))) <;> ((try simp only [World.size_alloc, World.size_setCell, World.size_drew] at *); omega)))
    have hbel3 := HhB3.out.trans (hB23.mono HhB3.out.size)
    clear hW3 hB23 z0 z1 z2 z3 z4
    obtain ⟨b6, hb6⟩ : ∃ b, b = w2.heap.size := ⟨_, rfl⟩
    obtain ⟨b7, hb7⟩ : ∃ b, b = w2.heap.size + 1 := ⟨_, rfl⟩
    rw [← hb6] at hX3 ⊢
    rw [show b6 + 1 = b7 by omega]
    rw [← hb7] at hY3
    have hallX : ∀ wx, Below w3.heap.size w3 wx → AllAt m wx := fun wx hx => Hhall.out _ (hbel3.trans (hx.mono hbel3.size))
    have hK : ∀ wx, Below w3.heap.size w3 wx → (wx.cell? ⟨w.heap.size, 0, none⟩ = some (.int .i64 x.g) ∧ wx.cell? ⟨w.heap.size, 1, none⟩ = some (.int .i64 x.q) ∧ wx.cell? ⟨w.heap.size, 2, none⟩ = some (.int .i64 x.c) ∧ wx.cell? ⟨w.heap.size, 3, none⟩ = some (.int .i64 x.v) ∧ wx.cell? ⟨w.heap.size, 4, none⟩ = some (.string ⟨x.tag.toArray⟩)) ∧ (wx.cell? ⟨b6, 0, none⟩ = some (.int .i64 x.g) ∧ wx.cell? ⟨b6, 1, none⟩ = some (.int .i64 x.q) ∧ wx.cell? ⟨b6, 2, none⟩ = some (.int .i64 x.c) ∧ wx.cell? ⟨b6, 3, none⟩ = some (.int .i64 x.v) ∧ wx.cell? ⟨b6, 4, none⟩ = some (.string ⟨T.toArray⟩)) ∧ (wx.cell? ⟨b7, 0, none⟩ = some (.int .i64 x.g) ∧ wx.cell? ⟨b7, 1, none⟩ = some (.int .i64 x.q) ∧ wx.cell? ⟨b7, 2, none⟩ = some (.int .i64 x.c) ∧ wx.cell? ⟨b7, 3, none⟩ = some (.int .i64 x.v) ∧ wx.cell? ⟨b7, 4, none⟩ = some (.string ⟨x.tag.toArray⟩)) := fun wx hx =>
      ⟨Hhk.out _ (hbel3.trans (hx.mono hbel3.size)), gr_cells (x := { x with tag := T }) (by rw [hx.block _ (by omega)]; exact hX3), gr_cells (x := x) (by rw [hx.block _ (by omega)]; exact hY3)⟩
    have hend : ∀ wx, Below w3.heap.size w3 wx → Below w.heap.size w wx := fun wx hx => hBb.trans ((hbel3.trans (hx.mono hbel3.size)).mono (by have := Hhszb.out; omega))
    clear hX3 hY3 hb6 hb7 l1 l2 l3
    obtain ⟨A, hA⟩ : ∃ A, A = encText gramL := ⟨_, rfl⟩
    obtain ⟨S, hS⟩ : ∃ S, S = encText secret := ⟨_, rfl⟩
    obtain ⟨I0, hI0⟩ : ∃ S, S = encInt x.g := ⟨_, rfl⟩
    obtain ⟨I1, hI1⟩ : ∃ S, S = encInt x.q := ⟨_, rfl⟩
    obtain ⟨I2, hI2⟩ : ∃ S, S = encInt x.c := ⟨_, rfl⟩
    obtain ⟨I3, hI3⟩ : ∃ S, S = encInt x.v := ⟨_, rfl⟩
    obtain ⟨C1, hC1⟩ : ∃ L, L = A ++ S := ⟨_, rfl⟩
    obtain ⟨C2, hC2⟩ : ∃ L, L = C1 ++ I0 := ⟨_, rfl⟩
    obtain ⟨C3, hC3⟩ : ∃ L, L = C2 ++ I1 := ⟨_, rfl⟩
    obtain ⟨C4, hC4⟩ : ∃ L, L = C3 ++ I2 := ⟨_, rfl⟩
    obtain ⟨C5, hC5⟩ : ∃ L, L = C4 ++ I3 := ⟨_, rfl⟩
    obtain ⟨D, hD⟩ : ∃ L, L = digestS C5 := ⟨_, rfl⟩
    have hTD : T = D.take 8 := by
      rw [HhT.out, tagS, hD, hC5, hC4, hC3, hC2, hC1, hA, hS, hI0, hI1, hI2, hI3]; simp [coreS]
    have lA : A.length ≤ 10 := by rw [hA]; exact encText_le2 gramL
    have lS : S.length ≤ 602 := by rw [hS]; have := encText_le2 secret; omega
    have lI0 : I0.length ≤ 9 := by rw [hI0]; exact encInt_len _ Hhx.out.1
    have lI1 : I1.length ≤ 9 := by rw [hI1]; exact encInt_len _ Hhx.out.2.1
    have lI2 : I2.length ≤ 9 := by rw [hI2]; exact encInt_len _ Hhx.out.2.2.1
    have lI3 : I3.length ≤ 9 := by rw [hI3]; exact encInt_len _ Hhx.out.2.2.2
    have lC1 : C1.length ≤ 612 := by rw [hC1, List.length_append]; omega
    have lC2 : C2.length ≤ 621 := by rw [hC2, List.length_append]; omega
    have lC3 : C3.length ≤ 630 := by rw [hC3, List.length_append]; omega
    have lC4 : C4.length ≤ 639 := by rw [hC4, List.length_append]; omega
    have lC5 : C5.length ≤ 4611686018427387904 := by rw [hC5, List.length_append]; omega
    have cat1 : ∀ w, (Op.stringOp .add ⟨A.toArray⟩ ⟨S.toArray⟩).run Tryd.prog w = .ok (.string ⟨C1.toArray⟩) w := fun w => by rw [hC1]; exact cat_run A S (by omega) w
    have cat2 : ∀ w, (Op.stringOp .add ⟨C1.toArray⟩ ⟨I0.toArray⟩).run Tryd.prog w = .ok (.string ⟨C2.toArray⟩) w := fun w => by rw [hC2]; exact cat_run C1 I0 (by omega) w
    have cat3 : ∀ w, (Op.stringOp .add ⟨C2.toArray⟩ ⟨I1.toArray⟩).run Tryd.prog w = .ok (.string ⟨C3.toArray⟩) w := fun w => by rw [hC3]; exact cat_run C2 I1 (by omega) w
    have cat4 : ∀ w, (Op.stringOp .add ⟨C3.toArray⟩ ⟨I2.toArray⟩).run Tryd.prog w = .ok (.string ⟨C4.toArray⟩) w := fun w => by rw [hC4]; exact cat_run C3 I2 (by omega) w
    have cat5 : ∀ w, (Op.stringOp .add ⟨C4.toArray⟩ ⟨I3.toArray⟩).run Tryd.prog w = .ok (.string ⟨C5.toArray⟩) w := fun w => by rw [hC5]; exact cat_run C4 I3 (by omega) w
    have hDl : D.length = 32 := by rw [hD]; exact digestS_len _
    have hDs := str_size D
    have hext : (ByteArray.mk D.toArray).extract 0 8 = ⟨T.toArray⟩ := by rw [hTD]; apply ByteArray.ext; simp [ByteArray.data_extract]
    have hc21a : ∀ wx, Below w3.heap.size w3 wx → Calls Tryd.prog 21 #[.string ⟨#[103, 114, 97, 109]⟩] wx fun e w' => e = .returned (.string ⟨A.toArray⟩) ∧ Below w3.heap.size w3 w' := fun wx hx =>
      (Text_calls ⟨#[103, 114, 97, 109]⟩ m wx (by decide) (hallX wx hx).2.2.2).mono fun e w' ⟨h1, h2⟩ => ⟨by rw [h1, hA]; rfl, hx.trans (h2.mono hx.size)⟩
    have hc21b : ∀ wx, Below w3.heap.size w3 wx → Calls Tryd.prog 21 #[.string ⟨secret.toArray⟩] wx fun e w' => e = .returned (.string ⟨S.toArray⟩) ∧ Below w3.heap.size w3 w' := fun wx hx =>
      (Text_calls ⟨secret.toArray⟩ m wx (by rw [str_size]; omega) (hallX wx hx).2.2.2).mono fun e w' ⟨h1, h2⟩ => ⟨by rw [h1, hS], hx.trans (h2.mono hx.size)⟩
    have hc22_0 : ∀ wx, Below w3.heap.size w3 wx → Calls Tryd.prog 22 #[.int .i64 x.g] wx fun e w' => e = .returned (.string ⟨I0.toArray⟩) ∧ Below w3.heap.size w3 w' := fun wx hx =>
      (Int_calls x.g wx Hhx.out.1).mono fun e w' ⟨h1, h2⟩ => ⟨by rw [h1, hI0], hx.trans (h2.mono hx.size)⟩
    have hc22_1 : ∀ wx, Below w3.heap.size w3 wx → Calls Tryd.prog 22 #[.int .i64 x.q] wx fun e w' => e = .returned (.string ⟨I1.toArray⟩) ∧ Below w3.heap.size w3 w' := fun wx hx =>
      (Int_calls x.q wx Hhx.out.2.1).mono fun e w' ⟨h1, h2⟩ => ⟨by rw [h1, hI1], hx.trans (h2.mono hx.size)⟩
    have hc22_2 : ∀ wx, Below w3.heap.size w3 wx → Calls Tryd.prog 22 #[.int .i64 x.c] wx fun e w' => e = .returned (.string ⟨I2.toArray⟩) ∧ Below w3.heap.size w3 w' := fun wx hx =>
      (Int_calls x.c wx Hhx.out.2.2.1).mono fun e w' ⟨h1, h2⟩ => ⟨by rw [h1, hI2], hx.trans (h2.mono hx.size)⟩
    have hc22_3 : ∀ wx, Below w3.heap.size w3 wx → Calls Tryd.prog 22 #[.int .i64 x.v] wx fun e w' => e = .returned (.string ⟨I3.toArray⟩) ∧ Below w3.heap.size w3 w' := fun wx hx =>
      (Int_calls x.v wx Hhx.out.2.2.2).mono fun e w' ⟨h1, h2⟩ => ⟨by rw [h1, hI3], hx.trans (h2.mono hx.size)⟩
    have hc20 : ∀ wx, Below w3.heap.size w3 wx → Calls Tryd.prog 20 #[.string ⟨C5.toArray⟩] wx fun e w' => e = .returned (.string ⟨D.toArray⟩) ∧ Below w3.heap.size w3 w' := fun wx hx =>
      (Sum_calls C5 wx (hallX wx hx).1 lC5).mono fun e w' ⟨h1, h2⟩ => ⟨by rw [h1, hD], hx.trans (h2.mono hx.size)⟩
    have hsX : sealS secret x = { x with tag := T } := by rw [sealS, HhT.out]
    have hc12X : ∀ wx, Below w3.heap.size w3 wx → Calls Tryd.prog 12 #[.string ⟨secret.toArray⟩, .agg #[.int .i64 x.g, .int .i64 x.q, .int .i64 x.c, .int .i64 x.v, .string ⟨T.toArray⟩]] wx fun e w' => e = .returned (.agg #[.int .i64 x.g, .int .i64 x.q, .int .i64 x.c, .int .i64 x.v, .string ⟨T.toArray⟩]) ∧ Below w3.heap.size w3 w' := fun wx hy => by
      have h1 := Seal_calls secret (sealS secret x) m wx (hallX wx hy) (seal_wf Hhx.out) cs
      rw [seal_seal, hsX] at h1
      exact h1.mono fun e w' ⟨h1, h2⟩ => ⟨h1, hy.trans (h2.mono hy.size)⟩
    obtain ⟨ib, hib⟩ : ∃ b, b = x.inB := ⟨_, rfl⟩
    obtain ⟨G, hG⟩ : ∃ b, b = genS secret x := ⟨_, rfl⟩
    obtain ⟨BX, hBX⟩ : ∃ b, b = bytesS (sealS secret x) := ⟨_, rfl⟩
    obtain ⟨BG, hBG⟩ : ∃ b, b = bytesS x := ⟨_, rfl⟩
    have hc14X : ∀ wx, Below w3.heap.size w3 wx → Calls Tryd.prog 14 #[.string ⟨secret.toArray⟩, .agg #[.int .i64 x.g, .int .i64 x.q, .int .i64 x.c, .int .i64 x.v, .string ⟨T.toArray⟩]] wx fun e w' => e = .returned (.bool ib) ∧ Below w3.heap.size w3 w' := fun wx hy => by
      have h1 := Genuine_calls secret (sealS secret x) m wx (hallX wx hy) (seal_wf Hhx.out) cs
      rw [gen_seal, hsX, ← hib] at h1
      exact h1.mono fun e w' ⟨h1, h2⟩ => ⟨h1, hy.trans (h2.mono hy.size)⟩
    have hc14G : ∀ wx, Below w3.heap.size w3 wx → Calls Tryd.prog 14 #[.string ⟨secret.toArray⟩, .agg #[.int .i64 x.g, .int .i64 x.q, .int .i64 x.c, .int .i64 x.v, .string ⟨x.tag.toArray⟩]] wx fun e w' => e = .returned (.bool G) ∧ Below w3.heap.size w3 w' := fun wx hy => by
      have h1 := Genuine_calls secret x m wx (hallX wx hy) Hhx.out cs
      rw [← hG] at h1
      exact h1.mono fun e w' ⟨h1, h2⟩ => ⟨h1, hy.trans (h2.mono hy.size)⟩
    have hc18X : ∀ wx, Below w3.heap.size w3 wx → Calls Tryd.prog 18 #[.agg #[.int .i64 x.g, .int .i64 x.q, .int .i64 x.c, .int .i64 x.v, .string ⟨T.toArray⟩]] wx fun e w' => e = .returned (.string ⟨BX.toArray⟩) ∧ Below w3.heap.size w3 w' := fun wx hy => by
      have h1 := Bytes_calls (sealS secret x) m wx (hallX wx hy) (seal_wf Hhx.out) (by have : (sealS secret x).tag.length = 8 := tagS_len secret x; omega)
      rw [← hBX, hsX] at h1
      exact h1.mono fun e w' ⟨h1, h2⟩ => ⟨h1, hy.trans (h2.mono hy.size)⟩
    have hc18G : ∀ wx, Below w3.heap.size w3 wx → Calls Tryd.prog 18 #[.agg #[.int .i64 x.g, .int .i64 x.q, .int .i64 x.c, .int .i64 x.v, .string ⟨x.tag.toArray⟩]] wx fun e w' => e = .returned (.string ⟨BG.toArray⟩) ∧ Below w3.heap.size w3 w' := fun wx hy => by
      have h1 := Bytes_calls x m wx (hallX wx hy) Hhx.out ct
      rw [← hBG] at h1
      exact h1.mono fun e w' ⟨h1, h2⟩ => ⟨h1, hy.trans (h2.mono hy.size)⟩
    have heq : ∀ w : World, (Op.equalIn 10000 23 (.agg #[.int .i64 x.g, .int .i64 x.q, .int .i64 x.c, .int .i64 x.v, .string ⟨x.tag.toArray⟩]) (.agg #[.int .i64 x.g, .int .i64 x.q, .int .i64 x.c, .int .i64 x.v, .string ⟨x.tag.toArray⟩])).run Tryd.prog w = .ok true w := fun w => by
      have := equal23 x x w
      simpa using this
    have heqX : ∀ w : World, (Op.equalIn 10000 23 (.agg #[.int .i64 x.g, .int .i64 x.q, .int .i64 x.c, .int .i64 x.v, .string ⟨T.toArray⟩]) (.agg #[.int .i64 x.g, .int .i64 x.q, .int .i64 x.c, .int .i64 x.v, .string ⟨T.toArray⟩])).run Tryd.prog w = .ok true w := fun w => by
      have := equal23 { x with tag := T } { x with tag := T } w
      simpa using this
    obtain ⟨Q, hQ⟩ : ∃ b, b = decide (x = sealS secret x) := ⟨_, rfl⟩
    have heqQ : ∀ w : World, (Op.equalIn 10000 23 (.agg #[.int .i64 x.g, .int .i64 x.q, .int .i64 x.c, .int .i64 x.v, .string ⟨x.tag.toArray⟩]) (.agg #[.int .i64 x.g, .int .i64 x.q, .int .i64 x.c, .int .i64 x.v, .string ⟨T.toArray⟩])).run Tryd.prog w = .ok Q w := fun w => by
      have := equal23 x (sealS secret x) w
      rw [hQ, ← this, hsX]
    have hGQ : G = (x.ok && Q) := by rw [hG, genS, hQ]; congr 1; rw [decide_eq_decide]; exact ⟨fun e => e.symm, fun e => e.symm⟩
    have hBXe : BX.isEmpty = !ib := by
      rw [hBX, hib, ← seal_ok secret x]
      cases ho : (sealS secret x).ok
      · rw [bytes_not ho]; rfl
      · have := bytes_ne ho
        cases hb : bytesS (sealS secret x) with
        | nil => exact absurd hb this
        | cons a b => rfl
    have hBGe : BG.isEmpty = !x.ok := by
      rw [hBG]
      cases ho : x.ok
      · rw [bytes_not ho]; rfl
      · have := bytes_ne ho
        cases hb : bytesS x with
        | nil => exact absurd hb this
        | cons a b => rfl
    have hQok : Q = true → x.ok = ib := fun h => by
      rw [hQ, decide_eq_true_eq] at h
      rw [h, seal_ok, hib]
    obtain ⟨ok, hok⟩ : ∃ b, b = x.ok := ⟨_, rfl⟩
    rw [← hok] at hGQ hBGe hQok
    have h8 : (8 : Int) ≤ (D.length : Int) := by omega
    have h8n : 8 ≤ D.length := by omega
    have h32 : ((D.length : Int) == 32) = true := by rw [hDl]; rfl
    have h32' : ((D.length : Int) != 32) = false := by rw [hDl]; rfl
    have HhA := Lib.hid hA
    clear hA
    have HhS := Lib.hid hS
    clear hS
    have HhI0 := Lib.hid hI0
    clear hI0
    have HhI1 := Lib.hid hI1
    clear hI1
    have HhI2 := Lib.hid hI2
    clear hI2
    have HhI3 := Lib.hid hI3
    clear hI3
    have HhC1 := Lib.hid hC1
    clear hC1
    have HhC2 := Lib.hid hC2
    clear hC2
    have HhC3 := Lib.hid hC3
    clear hC3
    have HhC4 := Lib.hid hC4
    clear hC4
    have HhC5 := Lib.hid hC5
    clear hC5
    have HhD := Lib.hid hD
    clear hD
    have HhTD := Lib.hid hTD
    clear hTD
    have HhDl := Lib.hid hDl
    clear hDl
    have Hhc21a := Lib.hid hc21a
    clear hc21a
    have Hhc21b := Lib.hid hc21b
    clear hc21b
    have Hhc22_0 := Lib.hid hc22_0
    clear hc22_0
    have Hhc22_1 := Lib.hid hc22_1
    clear hc22_1
    have Hhc22_2 := Lib.hid hc22_2
    clear hc22_2
    have Hhc22_3 := Lib.hid hc22_3
    clear hc22_3
    have Hhc20 := Lib.hid hc20
    clear hc20
    have HhsX := Lib.hid hsX
    clear hsX
    have Hhc12X := Lib.hid hc12X
    clear hc12X
    have Hhib := Lib.hid hib
    clear hib
    have HhG := Lib.hid hG
    clear hG
    have HhBX := Lib.hid hBX
    clear hBX
    have HhBG := Lib.hid hBG
    clear hBG
    have Hhc14X := Lib.hid hc14X
    clear hc14X
    have Hhc14G := Lib.hid hc14G
    clear hc14G
    have Hhc18X := Lib.hid hc18X
    clear hc18X
    have Hhc18G := Lib.hid hc18G
    clear hc18G
    have HhQ := Lib.hid hQ
    clear hQ
    have Hhok := Lib.hid hok
    clear hok
    have HhK := Lib.hid hK
    clear hK
    have Hhend := Lib.hid hend
    clear hend
    have HhallX := Lib.hid hallX
    clear hallX
    have Hhbel3 := Lib.hid hbel3
    clear hbel3
    have Hhs3 := Lib.hid hs3
    clear hs3
    clear lA lS lI0 lI1 lI2 lI3 lC1 lC2 lC3 lC4 lC5
    cases hib2 : ib <;> cases hQ2 : Q
    · rw [hib2] at hBXe Hhc14X
      rw [hQ2] at heqQ hGQ
      rw [Bool.and_false] at hGQ
      skip
      have hGl : G = false := by rw [hGQ]
      rw [hGl] at Hhc14G
      have hBXs : (ByteArray.mk BX.toArray).toList.isEmpty = true := by rw [ofList_toList']; exact hBXe
      skip
      rw [Bool.not_false] at hBXe
      clear hBGe
      clear hib2 hQ2 hGQ hGl hQok
      first | (go_region_held3 (fun w' => (w'.cell? ⟨w.heap.size, 0, none⟩ = some (.int .i64 x.g) ∧ w'.cell? ⟨w.heap.size, 1, none⟩ = some (.int .i64 x.q) ∧ w'.cell? ⟨w.heap.size, 2, none⟩ = some (.int .i64 x.c) ∧ w'.cell? ⟨w.heap.size, 3, none⟩ = some (.int .i64 x.v) ∧ w'.cell? ⟨w.heap.size, 4, none⟩ = some (.string ⟨x.tag.toArray⟩)) ∧ (w'.cell? ⟨b6, 0, none⟩ = some (.int .i64 x.g) ∧ w'.cell? ⟨b6, 1, none⟩ = some (.int .i64 x.q) ∧ w'.cell? ⟨b6, 2, none⟩ = some (.int .i64 x.c) ∧ w'.cell? ⟨b6, 3, none⟩ = some (.int .i64 x.v) ∧ w'.cell? ⟨b6, 4, none⟩ = some (.string ⟨T.toArray⟩)) ∧ (w'.cell? ⟨b7, 0, none⟩ = some (.int .i64 x.g) ∧ w'.cell? ⟨b7, 1, none⟩ = some (.int .i64 x.q) ∧ w'.cell? ⟨b7, 2, none⟩ = some (.int .i64 x.c) ∧ w'.cell? ⟨b7, 3, none⟩ = some (.int .i64 x.v) ∧ w'.cell? ⟨b7, 4, none⟩ = some (.string ⟨x.tag.toArray⟩))) (exact HhK.out _ (by first | assumption | exact Below.refl _ _ | exact (Below.refl _ _).drew | exact Below.drew (by assumption))) (first | (go_at_call_of 21 secret.toArray; refine (Hhc21b.out _ (by first | assumption | exact Below.refl _ _ | exact (Below.refl _ _).drew | exact Below.drew (by assumption))).mono ?_; rintro e wa ⟨rfl, hba⟩) | (go_at_call 21; refine (Hhc21a.out _ (by first | assumption | exact Below.refl _ _ | exact (Below.refl _ _).drew | exact Below.drew (by assumption))).mono ?_; rintro e wa ⟨rfl, hba⟩) | (go_at_call_of 22 x.g; refine (Hhc22_0.out _ (by first | assumption | exact Below.refl _ _ | exact (Below.refl _ _).drew | exact Below.drew (by assumption))).mono ?_; rintro e wa ⟨rfl, hba⟩) | (go_at_call_of 22 x.q; refine (Hhc22_1.out _ (by first | assumption | exact Below.refl _ _ | exact (Below.refl _ _).drew | exact Below.drew (by assumption))).mono ?_; rintro e wa ⟨rfl, hba⟩) | (go_at_call_of 22 x.c; refine (Hhc22_2.out _ (by first | assumption | exact Below.refl _ _ | exact (Below.refl _ _).drew | exact Below.drew (by assumption))).mono ?_; rintro e wa ⟨rfl, hba⟩) | (go_at_call_of 22 x.v; refine (Hhc22_3.out _ (by first | assumption | exact Below.refl _ _ | exact (Below.refl _ _).drew | exact Below.drew (by assumption))).mono ?_; rintro e wa ⟨rfl, hba⟩) | (go_at_call 20; refine (Hhc20.out _ (by first | assumption | exact Below.refl _ _ | exact (Below.refl _ _).drew | exact Below.drew (by assumption))).mono ?_; rintro e wa ⟨rfl, hba⟩))) | fail
      go_wp2_with fail
      first | (go_region_held3 (fun w' => (w'.cell? ⟨w.heap.size, 0, none⟩ = some (.int .i64 x.g) ∧ w'.cell? ⟨w.heap.size, 1, none⟩ = some (.int .i64 x.q) ∧ w'.cell? ⟨w.heap.size, 2, none⟩ = some (.int .i64 x.c) ∧ w'.cell? ⟨w.heap.size, 3, none⟩ = some (.int .i64 x.v) ∧ w'.cell? ⟨w.heap.size, 4, none⟩ = some (.string ⟨x.tag.toArray⟩)) ∧ (w'.cell? ⟨b6, 0, none⟩ = some (.int .i64 x.g) ∧ w'.cell? ⟨b6, 1, none⟩ = some (.int .i64 x.q) ∧ w'.cell? ⟨b6, 2, none⟩ = some (.int .i64 x.c) ∧ w'.cell? ⟨b6, 3, none⟩ = some (.int .i64 x.v) ∧ w'.cell? ⟨b6, 4, none⟩ = some (.string ⟨T.toArray⟩)) ∧ (w'.cell? ⟨b7, 0, none⟩ = some (.int .i64 x.g) ∧ w'.cell? ⟨b7, 1, none⟩ = some (.int .i64 x.q) ∧ w'.cell? ⟨b7, 2, none⟩ = some (.int .i64 x.c) ∧ w'.cell? ⟨b7, 3, none⟩ = some (.int .i64 x.v) ∧ w'.cell? ⟨b7, 4, none⟩ = some (.string ⟨x.tag.toArray⟩))) (exact HhK.out _ (by first | assumption | exact Below.refl _ _ | exact (Below.refl _ _).drew | exact Below.drew (by assumption))) (first | (go_at_call 12; refine (Hhc12X.out _ (by first | assumption | exact Below.refl _ _ | exact (Below.refl _ _).drew | exact Below.drew (by assumption))).mono ?_; rintro e wa ⟨rfl, hba⟩))) | fail
      go_wp2_with fail
      refine wp_region_held_drew (S := (fun w' => (w'.cell? ⟨w.heap.size, 0, none⟩ = some (.int .i64 x.g) ∧ w'.cell? ⟨w.heap.size, 1, none⟩ = some (.int .i64 x.q) ∧ w'.cell? ⟨w.heap.size, 2, none⟩ = some (.int .i64 x.c) ∧ w'.cell? ⟨w.heap.size, 3, none⟩ = some (.int .i64 x.v) ∧ w'.cell? ⟨w.heap.size, 4, none⟩ = some (.string ⟨x.tag.toArray⟩)) ∧ (w'.cell? ⟨b6, 0, none⟩ = some (.int .i64 x.g) ∧ w'.cell? ⟨b6, 1, none⟩ = some (.int .i64 x.q) ∧ w'.cell? ⟨b6, 2, none⟩ = some (.int .i64 x.c) ∧ w'.cell? ⟨b6, 3, none⟩ = some (.int .i64 x.v) ∧ w'.cell? ⟨b6, 4, none⟩ = some (.string ⟨T.toArray⟩)) ∧ (w'.cell? ⟨b7, 0, none⟩ = some (.int .i64 x.g) ∧ w'.cell? ⟨b7, 1, none⟩ = some (.int .i64 x.q) ∧ w'.cell? ⟨b7, 2, none⟩ = some (.int .i64 x.c) ∧ w'.cell? ⟨b7, 3, none⟩ = some (.int .i64 x.v) ∧ w'.cell? ⟨b7, 4, none⟩ = some (.string ⟨x.tag.toArray⟩)))) (by kernel_rfl) ?hs0 (fun hHeld => ?rest0)
      case hs0 => ((try dsimp only); exact HhK.out _ (by first | assumption | exact Below.refl _ _ | exact (Below.refl _ _).drew | exact Below.drew (by assumption)))
      case rest0 =>
        refine wpAnyH_take (i := 0) (v := ?_) rfl (by kernel_rfl) (by kernel_rfl) (by kernel_rfl) (fun _ _ _ h => h) (Or.inl ⟨by rfl, fun wz hSw => ?_⟩) (by assumption) ?_
        rotate_left 1
        · ((try dsimp only at hSw); go_simp; (try with_reducible rfl))
        simp only [List.getElem_toArray, List.getElem_cons_zero, List.getElem_cons_succ, Act.put, List.setIfInBounds_toArray, List.set_cons_zero, List.set_cons_succ]
        refine wpAnyH_take (i := 1) (v := ?_) rfl (by kernel_rfl) (by kernel_rfl) (by kernel_rfl) (fun _ _ _ h => h) (Or.inl ⟨by rfl, fun wz hSw => ?_⟩) (by assumption) ?_
        rotate_left 1
        · ((try dsimp only at hSw); go_simp; (try with_reducible rfl))
        simp only [List.getElem_toArray, List.getElem_cons_zero, List.getElem_cons_succ, Act.put, List.setIfInBounds_toArray, List.set_cons_zero, List.set_cons_succ]
        refine wpAnyH_take (i := 2) (v := ?_) rfl (by kernel_rfl) (by kernel_rfl) (by kernel_rfl) (fun _ _ _ h => h) (Or.inl ⟨by rfl, fun wz hSw => ?_⟩) (by assumption) ?_
        rotate_left 1
        · ((try dsimp only at hSw); go_simp; (try with_reducible rfl))
        simp only [List.getElem_toArray, List.getElem_cons_zero, List.getElem_cons_succ, Act.put, List.setIfInBounds_toArray, List.set_cons_zero, List.set_cons_succ]
        refine wpAnyH_take (i := 3) (v := ?_) rfl (by kernel_rfl) (by kernel_rfl) (by kernel_rfl) (fun _ _ _ h => h) (Or.inl ⟨by rfl, fun wz hSw => ?_⟩) (by assumption) ?_
        rotate_left 1
        · ((try dsimp only at hSw); go_simp; (try with_reducible rfl))
        simp only [List.getElem_toArray, List.getElem_cons_zero, List.getElem_cons_succ, Act.put, List.setIfInBounds_toArray, List.set_cons_zero, List.set_cons_succ]
        refine wpAnyH_take (i := 5) (v := ?_) rfl (by kernel_rfl) (by kernel_rfl) (by kernel_rfl) (fun _ _ _ h => h) (Or.inl ⟨by rfl, fun wz hSw => ?_⟩) (by assumption) ?_
        rotate_left 1
        · ((try dsimp only at hSw); go_simp; (try with_reducible rfl))
        simp only [List.getElem_toArray, List.getElem_cons_zero, List.getElem_cons_succ, Act.put, List.setIfInBounds_toArray, List.set_cons_zero, List.set_cons_succ]
        refine wpAnyH_ready (rs := [4]) (by kernel_rfl) (by simp) ?_
        refine AllReadyH.cons rfl (fun K hK => ?_) AllReadyH.nil
        go_simp
        (refine (Hhc14X.out _ (by first | assumption | exact Below.refl _ _ | exact (Below.refl _ _).drew | exact Below.drew (by assumption))).mono ?_; rintro e wa ⟨rfl, hba⟩)
        first | refine hK.out _ _ ?hS (fun hHeld => ?_) | (go_wp2_with fail; refine hK.out _ _ ?hS (fun hHeld => ?_))
        case hS => ((try dsimp only); exact HhK.out _ (by first | assumption | exact Below.refl _ _ | exact (Below.refl _ _).drew | exact Below.drew (by assumption)))
        clear hK K
        try simp only [List.getElem_toArray, List.getElem_cons_zero, List.getElem_cons_succ, Act.put, List.setIfInBounds_toArray, List.set_cons_zero, List.set_cons_succ]
        refine wpAnyH_ready (rs := [6]) (by kernel_rfl) (by simp) ?_
        refine AllReadyH.cons rfl (fun K hK => ?_) AllReadyH.nil
        go_simp
        (refine (Hhc18X.out _ (by first | assumption | exact Below.refl _ _ | exact (Below.refl _ _).drew | exact Below.drew (by assumption))).mono ?_; rintro e wa ⟨rfl, hba⟩)
        first | refine hK.out _ _ ?hS (fun hHeld => ?_) | (go_wp2_with fail; refine hK.out _ _ ?hS (fun hHeld => ?_))
        case hS => ((try dsimp only); exact HhK.out _ (by first | assumption | exact Below.refl _ _ | exact (Below.refl _ _).drew | exact Below.drew (by assumption)))
        clear hK K
        try simp only [List.getElem_toArray, List.getElem_cons_zero, List.getElem_cons_succ, Act.put, List.setIfInBounds_toArray, List.set_cons_zero, List.set_cons_succ]
        refine wpAnyH_take (i := 7) (v := ?_) rfl (by kernel_rfl) (by kernel_rfl) (by kernel_rfl) (fun _ _ _ h => h) (Or.inl ⟨by rfl, fun wz hSw => ?_⟩) (by assumption) ?_
        rotate_left 1
        · ((try dsimp only at hSw); go_simp; (try with_reducible rfl))
        simp only [List.getElem_toArray, List.getElem_cons_zero, List.getElem_cons_succ, Act.put, List.setIfInBounds_toArray, List.set_cons_zero, List.set_cons_succ]
        refine wpAnyH_take (i := 8) (v := ?_) rfl (by kernel_rfl) (by kernel_rfl) (by kernel_rfl) (fun _ _ _ h => h) (Or.inl ⟨by rfl, fun wz hSw => ?_⟩) (by assumption) ?_
        rotate_left 1
        · ((try dsimp only at hSw); go_simp; (try with_reducible rfl))
        simp only [List.getElem_toArray, List.getElem_cons_zero, List.getElem_cons_succ, Act.put, List.setIfInBounds_toArray, List.set_cons_zero, List.set_cons_succ]
        refine wpAnyH_take (i := 9) (v := ?_) rfl (by kernel_rfl) (by kernel_rfl) (by kernel_rfl) (fun _ _ _ h => h) (Or.inl ⟨by rfl, fun wz hSw => ?_⟩) (by assumption) ?_
        rotate_left 1
        · ((try dsimp only at hSw); go_simp; (try with_reducible rfl))
        simp only [List.getElem_toArray, List.getElem_cons_zero, List.getElem_cons_succ, Act.put, List.setIfInBounds_toArray, List.set_cons_zero, List.set_cons_succ]
        refine wpAnyH_take (i := 10) (v := ?_) rfl (by kernel_rfl) (by kernel_rfl) (by kernel_rfl) (fun _ _ _ h => h) (Or.inl ⟨by rfl, fun wz hSw => ?_⟩) (by assumption) ?_
        rotate_left 1
        · ((try dsimp only at hSw); go_simp; (try with_reducible rfl))
        simp only [List.getElem_toArray, List.getElem_cons_zero, List.getElem_cons_succ, Act.put, List.setIfInBounds_toArray, List.set_cons_zero, List.set_cons_succ]
        refine wpAnyH_take (i := 11) (v := ?_) rfl (by kernel_rfl) (by kernel_rfl) (by kernel_rfl) (fun _ _ _ h => h) (Or.inl ⟨by rfl, fun wz hSw => ?_⟩) (by assumption) ?_
        rotate_left 1
        · ((try dsimp only at hSw); go_simp; (try with_reducible rfl))
        simp only [List.getElem_toArray, List.getElem_cons_zero, List.getElem_cons_succ, Act.put, List.setIfInBounds_toArray, List.set_cons_zero, List.set_cons_succ]
        refine wpAnyH_take (i := 12) (v := ?_) rfl (by kernel_rfl) (by kernel_rfl) (by kernel_rfl) (fun _ _ _ h => h) (Or.inl ⟨by rfl, fun wz hSw => ?_⟩) (by assumption) ?_
        rotate_left 1
        · ((try dsimp only at hSw); go_simp; (try with_reducible rfl))
        simp only [List.getElem_toArray, List.getElem_cons_zero, List.getElem_cons_succ, Act.put, List.setIfInBounds_toArray, List.set_cons_zero, List.set_cons_succ]
        refine wpAnyH_take (i := 14) (v := ?_) rfl (by kernel_rfl) (by kernel_rfl) (by kernel_rfl) (fun _ _ _ h => h) (Or.inl ⟨by rfl, fun wz hSw => ?_⟩) (by assumption) ?_
        rotate_left 1
        · ((try dsimp only at hSw); go_simp; (try with_reducible rfl))
        simp only [List.getElem_toArray, List.getElem_cons_zero, List.getElem_cons_succ, Act.put, List.setIfInBounds_toArray, List.set_cons_zero, List.set_cons_succ]
        refine wpAnyH_take (i := 15) (v := ?_) rfl (by kernel_rfl) (by kernel_rfl) (by kernel_rfl) (fun _ _ _ h => h) (Or.inl ⟨by rfl, fun wz hSw => ?_⟩) (by assumption) ?_
        rotate_left 1
        · ((try dsimp only at hSw); go_simp; (try with_reducible rfl))
        simp only [List.getElem_toArray, List.getElem_cons_zero, List.getElem_cons_succ, Act.put, List.setIfInBounds_toArray, List.set_cons_zero, List.set_cons_succ]
        refine wpAnyH_take (i := 16) (v := ?_) rfl (by kernel_rfl) (by kernel_rfl) (by kernel_rfl) (fun _ _ _ h => h) (Or.inl ⟨by rfl, fun wz hSw => ?_⟩) (by assumption) ?_
        rotate_left 1
        · ((try dsimp only at hSw); go_simp; (try with_reducible rfl))
        simp only [List.getElem_toArray, List.getElem_cons_zero, List.getElem_cons_succ, Act.put, List.setIfInBounds_toArray, List.set_cons_zero, List.set_cons_succ]
        refine wpAnyH_ready (rs := [13]) (by kernel_rfl) (by simp) ?_
        refine AllReadyH.cons rfl (fun K hK => ?_) AllReadyH.nil
        go_simp
        (refine (Hhc14G.out _ (by first | assumption | exact Below.refl _ _ | exact (Below.refl _ _).drew | exact Below.drew (by assumption))).mono ?_; rintro e wa ⟨rfl, hba⟩)
        first | refine hK.out _ _ ?hS (fun hHeld => ?_) | (go_wp2_with fail; refine hK.out _ _ ?hS (fun hHeld => ?_))
        case hS => ((try dsimp only); exact HhK.out _ (by first | assumption | exact Below.refl _ _ | exact (Below.refl _ _).drew | exact Below.drew (by assumption)))
        clear hK K
        try simp only [List.getElem_toArray, List.getElem_cons_zero, List.getElem_cons_succ, Act.put, List.setIfInBounds_toArray, List.set_cons_zero, List.set_cons_succ]
        refine wpAnyH_take (i := 17) (v := ?_) rfl (by kernel_rfl) (by kernel_rfl) (by kernel_rfl) (fun _ _ _ h => h) (Or.inl ⟨by rfl, fun wz hSw => ?_⟩) (by assumption) ?_
        rotate_left 1
        · ((try dsimp only at hSw); go_simp; (try with_reducible rfl))
        simp only [List.getElem_toArray, List.getElem_cons_zero, List.getElem_cons_succ, Act.put, List.setIfInBounds_toArray, List.set_cons_zero, List.set_cons_succ]
        refine wpAnyH_take (i := 18) (v := undef) rfl (by kernel_rfl) (by kernel_rfl) (by kernel_rfl) (fun _ _ _ h => h) (Or.inr ⟨by rfl, rfl⟩) (by assumption) ?_
        simp only [List.getElem_toArray, List.getElem_cons_zero, List.getElem_cons_succ, Act.put, List.setIfInBounds_toArray, List.set_cons_zero, List.set_cons_succ]
        refine wpAnyH_take (i := 19) (v := undef) rfl (by kernel_rfl) (by kernel_rfl) (by kernel_rfl) (fun _ _ _ h => h) (Or.inr ⟨by rfl, rfl⟩) (by assumption) ?_
        simp only [List.getElem_toArray, List.getElem_cons_zero, List.getElem_cons_succ, Act.put, List.setIfInBounds_toArray, List.set_cons_zero, List.set_cons_succ]
        refine wpAnyH_take (i := 20) (v := undef) rfl (by kernel_rfl) (by kernel_rfl) (by kernel_rfl) (fun _ _ _ h => h) (Or.inr ⟨by rfl, rfl⟩) (by assumption) ?_
        simp only [List.getElem_toArray, List.getElem_cons_zero, List.getElem_cons_succ, Act.put, List.setIfInBounds_toArray, List.set_cons_zero, List.set_cons_succ]
        refine wpAnyH_take (i := 21) (v := ?_) rfl (by kernel_rfl) (by kernel_rfl) (by kernel_rfl) (fun _ _ _ h => h) (Or.inl ⟨by rfl, fun wz hSw => ?_⟩) (by assumption) ?_
        rotate_left 1
        · ((try dsimp only at hSw); go_simp; (try with_reducible rfl))
        simp only [List.getElem_toArray, List.getElem_cons_zero, List.getElem_cons_succ, Act.put, List.setIfInBounds_toArray, List.set_cons_zero, List.set_cons_succ]
        refine wpAnyH_take (i := 22) (v := ?_) rfl (by kernel_rfl) (by kernel_rfl) (by kernel_rfl) (fun _ _ _ h => h) (Or.inl ⟨by rfl, fun wz hSw => ?_⟩) (by assumption) ?_
        rotate_left 1
        · ((try dsimp only at hSw); go_simp; (try with_reducible rfl))
        simp only [List.getElem_toArray, List.getElem_cons_zero, List.getElem_cons_succ, Act.put, List.setIfInBounds_toArray, List.set_cons_zero, List.set_cons_succ]
        refine wpAnyH_take (i := 23) (v := ?_) rfl (by kernel_rfl) (by kernel_rfl) (by kernel_rfl) (fun _ _ _ h => h) (Or.inl ⟨by rfl, fun wz hSw => ?_⟩) (by assumption) ?_
        rotate_left 1
        · ((try dsimp only at hSw); go_simp; (try with_reducible rfl))
        simp only [List.getElem_toArray, List.getElem_cons_zero, List.getElem_cons_succ, Act.put, List.setIfInBounds_toArray, List.set_cons_zero, List.set_cons_succ]
        refine wpAnyH_take (i := 24) (v := ?_) rfl (by kernel_rfl) (by kernel_rfl) (by kernel_rfl) (fun _ _ _ h => h) (Or.inl ⟨by rfl, fun wz hSw => ?_⟩) (by assumption) ?_
        rotate_left 1
        · ((try dsimp only at hSw); go_simp; (try with_reducible rfl))
        simp only [List.getElem_toArray, List.getElem_cons_zero, List.getElem_cons_succ, Act.put, List.setIfInBounds_toArray, List.set_cons_zero, List.set_cons_succ]
        refine wpAnyH_done (by kernel_rfl) ?_ _
        go_wp2_with fail
        go_ret
        exact ⟨rfl, Hhend.out _ hba⟩
    · rw [hib2] at hBXe hQok Hhc14X
      rw [hQ2] at heqQ hGQ
      have hokb := hQok hQ2
      rw [hokb] at hGQ hBGe
      have hGl : G = false := by rw [hGQ]; rfl
      rw [hGl] at Hhc14G
      have hBXs : (ByteArray.mk BX.toArray).toList.isEmpty = true := by rw [ofList_toList']; exact hBXe
      have hBGs : (ByteArray.mk BG.toArray).toList.isEmpty = true := by rw [ofList_toList']; exact hBGe
      rw [Bool.not_false] at hBXe
      rw [Bool.not_false] at hBGe
      clear hib2 hQ2 hGQ hGl hQok hokb
      first | (go_region_held3 (fun w' => (w'.cell? ⟨w.heap.size, 0, none⟩ = some (.int .i64 x.g) ∧ w'.cell? ⟨w.heap.size, 1, none⟩ = some (.int .i64 x.q) ∧ w'.cell? ⟨w.heap.size, 2, none⟩ = some (.int .i64 x.c) ∧ w'.cell? ⟨w.heap.size, 3, none⟩ = some (.int .i64 x.v) ∧ w'.cell? ⟨w.heap.size, 4, none⟩ = some (.string ⟨x.tag.toArray⟩)) ∧ (w'.cell? ⟨b6, 0, none⟩ = some (.int .i64 x.g) ∧ w'.cell? ⟨b6, 1, none⟩ = some (.int .i64 x.q) ∧ w'.cell? ⟨b6, 2, none⟩ = some (.int .i64 x.c) ∧ w'.cell? ⟨b6, 3, none⟩ = some (.int .i64 x.v) ∧ w'.cell? ⟨b6, 4, none⟩ = some (.string ⟨T.toArray⟩)) ∧ (w'.cell? ⟨b7, 0, none⟩ = some (.int .i64 x.g) ∧ w'.cell? ⟨b7, 1, none⟩ = some (.int .i64 x.q) ∧ w'.cell? ⟨b7, 2, none⟩ = some (.int .i64 x.c) ∧ w'.cell? ⟨b7, 3, none⟩ = some (.int .i64 x.v) ∧ w'.cell? ⟨b7, 4, none⟩ = some (.string ⟨x.tag.toArray⟩))) (exact HhK.out _ (by first | assumption | exact Below.refl _ _ | exact (Below.refl _ _).drew | exact Below.drew (by assumption))) (first | (go_at_call_of 21 secret.toArray; refine (Hhc21b.out _ (by first | assumption | exact Below.refl _ _ | exact (Below.refl _ _).drew | exact Below.drew (by assumption))).mono ?_; rintro e wa ⟨rfl, hba⟩) | (go_at_call 21; refine (Hhc21a.out _ (by first | assumption | exact Below.refl _ _ | exact (Below.refl _ _).drew | exact Below.drew (by assumption))).mono ?_; rintro e wa ⟨rfl, hba⟩) | (go_at_call_of 22 x.g; refine (Hhc22_0.out _ (by first | assumption | exact Below.refl _ _ | exact (Below.refl _ _).drew | exact Below.drew (by assumption))).mono ?_; rintro e wa ⟨rfl, hba⟩) | (go_at_call_of 22 x.q; refine (Hhc22_1.out _ (by first | assumption | exact Below.refl _ _ | exact (Below.refl _ _).drew | exact Below.drew (by assumption))).mono ?_; rintro e wa ⟨rfl, hba⟩) | (go_at_call_of 22 x.c; refine (Hhc22_2.out _ (by first | assumption | exact Below.refl _ _ | exact (Below.refl _ _).drew | exact Below.drew (by assumption))).mono ?_; rintro e wa ⟨rfl, hba⟩) | (go_at_call_of 22 x.v; refine (Hhc22_3.out _ (by first | assumption | exact Below.refl _ _ | exact (Below.refl _ _).drew | exact Below.drew (by assumption))).mono ?_; rintro e wa ⟨rfl, hba⟩) | (go_at_call 20; refine (Hhc20.out _ (by first | assumption | exact Below.refl _ _ | exact (Below.refl _ _).drew | exact Below.drew (by assumption))).mono ?_; rintro e wa ⟨rfl, hba⟩))) | fail
      go_wp2_with fail
      first | (go_region_held3 (fun w' => (w'.cell? ⟨w.heap.size, 0, none⟩ = some (.int .i64 x.g) ∧ w'.cell? ⟨w.heap.size, 1, none⟩ = some (.int .i64 x.q) ∧ w'.cell? ⟨w.heap.size, 2, none⟩ = some (.int .i64 x.c) ∧ w'.cell? ⟨w.heap.size, 3, none⟩ = some (.int .i64 x.v) ∧ w'.cell? ⟨w.heap.size, 4, none⟩ = some (.string ⟨x.tag.toArray⟩)) ∧ (w'.cell? ⟨b6, 0, none⟩ = some (.int .i64 x.g) ∧ w'.cell? ⟨b6, 1, none⟩ = some (.int .i64 x.q) ∧ w'.cell? ⟨b6, 2, none⟩ = some (.int .i64 x.c) ∧ w'.cell? ⟨b6, 3, none⟩ = some (.int .i64 x.v) ∧ w'.cell? ⟨b6, 4, none⟩ = some (.string ⟨T.toArray⟩)) ∧ (w'.cell? ⟨b7, 0, none⟩ = some (.int .i64 x.g) ∧ w'.cell? ⟨b7, 1, none⟩ = some (.int .i64 x.q) ∧ w'.cell? ⟨b7, 2, none⟩ = some (.int .i64 x.c) ∧ w'.cell? ⟨b7, 3, none⟩ = some (.int .i64 x.v) ∧ w'.cell? ⟨b7, 4, none⟩ = some (.string ⟨x.tag.toArray⟩))) (exact HhK.out _ (by first | assumption | exact Below.refl _ _ | exact (Below.refl _ _).drew | exact Below.drew (by assumption))) (first | (go_at_call 12; refine (Hhc12X.out _ (by first | assumption | exact Below.refl _ _ | exact (Below.refl _ _).drew | exact Below.drew (by assumption))).mono ?_; rintro e wa ⟨rfl, hba⟩))) | fail
      go_wp2_with fail
      first | (go_region_held3 (fun w' => (w'.cell? ⟨w.heap.size, 0, none⟩ = some (.int .i64 x.g) ∧ w'.cell? ⟨w.heap.size, 1, none⟩ = some (.int .i64 x.q) ∧ w'.cell? ⟨w.heap.size, 2, none⟩ = some (.int .i64 x.c) ∧ w'.cell? ⟨w.heap.size, 3, none⟩ = some (.int .i64 x.v) ∧ w'.cell? ⟨w.heap.size, 4, none⟩ = some (.string ⟨x.tag.toArray⟩)) ∧ (w'.cell? ⟨b6, 0, none⟩ = some (.int .i64 x.g) ∧ w'.cell? ⟨b6, 1, none⟩ = some (.int .i64 x.q) ∧ w'.cell? ⟨b6, 2, none⟩ = some (.int .i64 x.c) ∧ w'.cell? ⟨b6, 3, none⟩ = some (.int .i64 x.v) ∧ w'.cell? ⟨b6, 4, none⟩ = some (.string ⟨T.toArray⟩)) ∧ (w'.cell? ⟨b7, 0, none⟩ = some (.int .i64 x.g) ∧ w'.cell? ⟨b7, 1, none⟩ = some (.int .i64 x.q) ∧ w'.cell? ⟨b7, 2, none⟩ = some (.int .i64 x.c) ∧ w'.cell? ⟨b7, 3, none⟩ = some (.int .i64 x.v) ∧ w'.cell? ⟨b7, 4, none⟩ = some (.string ⟨x.tag.toArray⟩))) (exact HhK.out _ (by first | assumption | exact Below.refl _ _ | exact (Below.refl _ _).drew | exact Below.drew (by assumption))) (first | (go_at_call_of 14 T.toArray; refine (Hhc14X.out _ (by first | assumption | exact Below.refl _ _ | exact (Below.refl _ _).drew | exact Below.drew (by assumption))).mono ?_; rintro e wa ⟨rfl, hba⟩) | (go_at_call 14; refine (Hhc14G.out _ (by first | assumption | exact Below.refl _ _ | exact (Below.refl _ _).drew | exact Below.drew (by assumption))).mono ?_; rintro e wa ⟨rfl, hba⟩) | (go_at_call_of 18 T.toArray; refine (Hhc18X.out _ (by first | assumption | exact Below.refl _ _ | exact (Below.refl _ _).drew | exact Below.drew (by assumption))).mono ?_; rintro e wa ⟨rfl, hba⟩) | (go_at_call 18; refine (Hhc18G.out _ (by first | assumption | exact Below.refl _ _ | exact (Below.refl _ _).drew | exact Below.drew (by assumption))).mono ?_; rintro e wa ⟨rfl, hba⟩))) | fail
      go_wp2_with fail
      go_ret
      exact ⟨rfl, Hhend.out _ hba⟩
    · rw [hib2] at hBXe Hhc14X
      rw [hQ2] at heqQ hGQ
      rw [Bool.and_false] at hGQ
      skip
      have hGl : G = false := by rw [hGQ]
      rw [hGl] at Hhc14G
      have hBXs : (ByteArray.mk BX.toArray).toList.isEmpty = false := by rw [ofList_toList']; exact hBXe
      skip
      rw [Bool.not_true] at hBXe
      clear hBGe
      clear hib2 hQ2 hGQ hGl hQok
      first | (go_region_held3 (fun w' => (w'.cell? ⟨w.heap.size, 0, none⟩ = some (.int .i64 x.g) ∧ w'.cell? ⟨w.heap.size, 1, none⟩ = some (.int .i64 x.q) ∧ w'.cell? ⟨w.heap.size, 2, none⟩ = some (.int .i64 x.c) ∧ w'.cell? ⟨w.heap.size, 3, none⟩ = some (.int .i64 x.v) ∧ w'.cell? ⟨w.heap.size, 4, none⟩ = some (.string ⟨x.tag.toArray⟩)) ∧ (w'.cell? ⟨b6, 0, none⟩ = some (.int .i64 x.g) ∧ w'.cell? ⟨b6, 1, none⟩ = some (.int .i64 x.q) ∧ w'.cell? ⟨b6, 2, none⟩ = some (.int .i64 x.c) ∧ w'.cell? ⟨b6, 3, none⟩ = some (.int .i64 x.v) ∧ w'.cell? ⟨b6, 4, none⟩ = some (.string ⟨T.toArray⟩)) ∧ (w'.cell? ⟨b7, 0, none⟩ = some (.int .i64 x.g) ∧ w'.cell? ⟨b7, 1, none⟩ = some (.int .i64 x.q) ∧ w'.cell? ⟨b7, 2, none⟩ = some (.int .i64 x.c) ∧ w'.cell? ⟨b7, 3, none⟩ = some (.int .i64 x.v) ∧ w'.cell? ⟨b7, 4, none⟩ = some (.string ⟨x.tag.toArray⟩))) (exact HhK.out _ (by first | assumption | exact Below.refl _ _ | exact (Below.refl _ _).drew | exact Below.drew (by assumption))) (first | (go_at_call_of 21 secret.toArray; refine (Hhc21b.out _ (by first | assumption | exact Below.refl _ _ | exact (Below.refl _ _).drew | exact Below.drew (by assumption))).mono ?_; rintro e wa ⟨rfl, hba⟩) | (go_at_call 21; refine (Hhc21a.out _ (by first | assumption | exact Below.refl _ _ | exact (Below.refl _ _).drew | exact Below.drew (by assumption))).mono ?_; rintro e wa ⟨rfl, hba⟩) | (go_at_call_of 22 x.g; refine (Hhc22_0.out _ (by first | assumption | exact Below.refl _ _ | exact (Below.refl _ _).drew | exact Below.drew (by assumption))).mono ?_; rintro e wa ⟨rfl, hba⟩) | (go_at_call_of 22 x.q; refine (Hhc22_1.out _ (by first | assumption | exact Below.refl _ _ | exact (Below.refl _ _).drew | exact Below.drew (by assumption))).mono ?_; rintro e wa ⟨rfl, hba⟩) | (go_at_call_of 22 x.c; refine (Hhc22_2.out _ (by first | assumption | exact Below.refl _ _ | exact (Below.refl _ _).drew | exact Below.drew (by assumption))).mono ?_; rintro e wa ⟨rfl, hba⟩) | (go_at_call_of 22 x.v; refine (Hhc22_3.out _ (by first | assumption | exact Below.refl _ _ | exact (Below.refl _ _).drew | exact Below.drew (by assumption))).mono ?_; rintro e wa ⟨rfl, hba⟩) | (go_at_call 20; refine (Hhc20.out _ (by first | assumption | exact Below.refl _ _ | exact (Below.refl _ _).drew | exact Below.drew (by assumption))).mono ?_; rintro e wa ⟨rfl, hba⟩))) | fail
      go_wp2_with fail
      first | (go_region_held3 (fun w' => (w'.cell? ⟨w.heap.size, 0, none⟩ = some (.int .i64 x.g) ∧ w'.cell? ⟨w.heap.size, 1, none⟩ = some (.int .i64 x.q) ∧ w'.cell? ⟨w.heap.size, 2, none⟩ = some (.int .i64 x.c) ∧ w'.cell? ⟨w.heap.size, 3, none⟩ = some (.int .i64 x.v) ∧ w'.cell? ⟨w.heap.size, 4, none⟩ = some (.string ⟨x.tag.toArray⟩)) ∧ (w'.cell? ⟨b6, 0, none⟩ = some (.int .i64 x.g) ∧ w'.cell? ⟨b6, 1, none⟩ = some (.int .i64 x.q) ∧ w'.cell? ⟨b6, 2, none⟩ = some (.int .i64 x.c) ∧ w'.cell? ⟨b6, 3, none⟩ = some (.int .i64 x.v) ∧ w'.cell? ⟨b6, 4, none⟩ = some (.string ⟨T.toArray⟩)) ∧ (w'.cell? ⟨b7, 0, none⟩ = some (.int .i64 x.g) ∧ w'.cell? ⟨b7, 1, none⟩ = some (.int .i64 x.q) ∧ w'.cell? ⟨b7, 2, none⟩ = some (.int .i64 x.c) ∧ w'.cell? ⟨b7, 3, none⟩ = some (.int .i64 x.v) ∧ w'.cell? ⟨b7, 4, none⟩ = some (.string ⟨x.tag.toArray⟩))) (exact HhK.out _ (by first | assumption | exact Below.refl _ _ | exact (Below.refl _ _).drew | exact Below.drew (by assumption))) (first | (go_at_call 12; refine (Hhc12X.out _ (by first | assumption | exact Below.refl _ _ | exact (Below.refl _ _).drew | exact Below.drew (by assumption))).mono ?_; rintro e wa ⟨rfl, hba⟩))) | fail
      go_wp2_with fail
      refine wp_region_held_drew (S := (fun w' => (w'.cell? ⟨w.heap.size, 0, none⟩ = some (.int .i64 x.g) ∧ w'.cell? ⟨w.heap.size, 1, none⟩ = some (.int .i64 x.q) ∧ w'.cell? ⟨w.heap.size, 2, none⟩ = some (.int .i64 x.c) ∧ w'.cell? ⟨w.heap.size, 3, none⟩ = some (.int .i64 x.v) ∧ w'.cell? ⟨w.heap.size, 4, none⟩ = some (.string ⟨x.tag.toArray⟩)) ∧ (w'.cell? ⟨b6, 0, none⟩ = some (.int .i64 x.g) ∧ w'.cell? ⟨b6, 1, none⟩ = some (.int .i64 x.q) ∧ w'.cell? ⟨b6, 2, none⟩ = some (.int .i64 x.c) ∧ w'.cell? ⟨b6, 3, none⟩ = some (.int .i64 x.v) ∧ w'.cell? ⟨b6, 4, none⟩ = some (.string ⟨T.toArray⟩)) ∧ (w'.cell? ⟨b7, 0, none⟩ = some (.int .i64 x.g) ∧ w'.cell? ⟨b7, 1, none⟩ = some (.int .i64 x.q) ∧ w'.cell? ⟨b7, 2, none⟩ = some (.int .i64 x.c) ∧ w'.cell? ⟨b7, 3, none⟩ = some (.int .i64 x.v) ∧ w'.cell? ⟨b7, 4, none⟩ = some (.string ⟨x.tag.toArray⟩)))) (by kernel_rfl) ?hs0 (fun hHeld => ?rest0)
      case hs0 => ((try dsimp only); exact HhK.out _ (by first | assumption | exact Below.refl _ _ | exact (Below.refl _ _).drew | exact Below.drew (by assumption)))
      case rest0 =>
        refine wpAnyH_take (i := 0) (v := ?_) rfl (by kernel_rfl) (by kernel_rfl) (by kernel_rfl) (fun _ _ _ h => h) (Or.inl ⟨by rfl, fun wz hSw => ?_⟩) (by assumption) ?_
        rotate_left 1
        · ((try dsimp only at hSw); go_simp; (try with_reducible rfl))
        simp only [List.getElem_toArray, List.getElem_cons_zero, List.getElem_cons_succ, Act.put, List.setIfInBounds_toArray, List.set_cons_zero, List.set_cons_succ]
        refine wpAnyH_take (i := 1) (v := ?_) rfl (by kernel_rfl) (by kernel_rfl) (by kernel_rfl) (fun _ _ _ h => h) (Or.inl ⟨by rfl, fun wz hSw => ?_⟩) (by assumption) ?_
        rotate_left 1
        · ((try dsimp only at hSw); go_simp; (try with_reducible rfl))
        simp only [List.getElem_toArray, List.getElem_cons_zero, List.getElem_cons_succ, Act.put, List.setIfInBounds_toArray, List.set_cons_zero, List.set_cons_succ]
        refine wpAnyH_take (i := 2) (v := ?_) rfl (by kernel_rfl) (by kernel_rfl) (by kernel_rfl) (fun _ _ _ h => h) (Or.inl ⟨by rfl, fun wz hSw => ?_⟩) (by assumption) ?_
        rotate_left 1
        · ((try dsimp only at hSw); go_simp; (try with_reducible rfl))
        simp only [List.getElem_toArray, List.getElem_cons_zero, List.getElem_cons_succ, Act.put, List.setIfInBounds_toArray, List.set_cons_zero, List.set_cons_succ]
        refine wpAnyH_take (i := 3) (v := ?_) rfl (by kernel_rfl) (by kernel_rfl) (by kernel_rfl) (fun _ _ _ h => h) (Or.inl ⟨by rfl, fun wz hSw => ?_⟩) (by assumption) ?_
        rotate_left 1
        · ((try dsimp only at hSw); go_simp; (try with_reducible rfl))
        simp only [List.getElem_toArray, List.getElem_cons_zero, List.getElem_cons_succ, Act.put, List.setIfInBounds_toArray, List.set_cons_zero, List.set_cons_succ]
        refine wpAnyH_take (i := 5) (v := ?_) rfl (by kernel_rfl) (by kernel_rfl) (by kernel_rfl) (fun _ _ _ h => h) (Or.inl ⟨by rfl, fun wz hSw => ?_⟩) (by assumption) ?_
        rotate_left 1
        · ((try dsimp only at hSw); go_simp; (try with_reducible rfl))
        simp only [List.getElem_toArray, List.getElem_cons_zero, List.getElem_cons_succ, Act.put, List.setIfInBounds_toArray, List.set_cons_zero, List.set_cons_succ]
        refine wpAnyH_ready (rs := [4]) (by kernel_rfl) (by simp) ?_
        refine AllReadyH.cons rfl (fun K hK => ?_) AllReadyH.nil
        go_simp
        (refine (Hhc14X.out _ (by first | assumption | exact Below.refl _ _ | exact (Below.refl _ _).drew | exact Below.drew (by assumption))).mono ?_; rintro e wa ⟨rfl, hba⟩)
        first | refine hK.out _ _ ?hS (fun hHeld => ?_) | (go_wp2_with fail; refine hK.out _ _ ?hS (fun hHeld => ?_))
        case hS => ((try dsimp only); exact HhK.out _ (by first | assumption | exact Below.refl _ _ | exact (Below.refl _ _).drew | exact Below.drew (by assumption)))
        clear hK K
        try simp only [List.getElem_toArray, List.getElem_cons_zero, List.getElem_cons_succ, Act.put, List.setIfInBounds_toArray, List.set_cons_zero, List.set_cons_succ]
        refine wpAnyH_ready (rs := [6]) (by kernel_rfl) (by simp) ?_
        refine AllReadyH.cons rfl (fun K hK => ?_) AllReadyH.nil
        go_simp
        (refine (Hhc18X.out _ (by first | assumption | exact Below.refl _ _ | exact (Below.refl _ _).drew | exact Below.drew (by assumption))).mono ?_; rintro e wa ⟨rfl, hba⟩)
        first | refine hK.out _ _ ?hS (fun hHeld => ?_) | (go_wp2_with fail; refine hK.out _ _ ?hS (fun hHeld => ?_))
        case hS => ((try dsimp only); exact HhK.out _ (by first | assumption | exact Below.refl _ _ | exact (Below.refl _ _).drew | exact Below.drew (by assumption)))
        clear hK K
        try simp only [List.getElem_toArray, List.getElem_cons_zero, List.getElem_cons_succ, Act.put, List.setIfInBounds_toArray, List.set_cons_zero, List.set_cons_succ]
        refine wpAnyH_take (i := 7) (v := ?_) rfl (by kernel_rfl) (by kernel_rfl) (by kernel_rfl) (fun _ _ _ h => h) (Or.inl ⟨by rfl, fun wz hSw => ?_⟩) (by assumption) ?_
        rotate_left 1
        · ((try dsimp only at hSw); go_simp; (try with_reducible rfl))
        simp only [List.getElem_toArray, List.getElem_cons_zero, List.getElem_cons_succ, Act.put, List.setIfInBounds_toArray, List.set_cons_zero, List.set_cons_succ]
        refine wpAnyH_take (i := 8) (v := ?_) rfl (by kernel_rfl) (by kernel_rfl) (by kernel_rfl) (fun _ _ _ h => h) (Or.inl ⟨by rfl, fun wz hSw => ?_⟩) (by assumption) ?_
        rotate_left 1
        · ((try dsimp only at hSw); go_simp; (try with_reducible rfl))
        simp only [List.getElem_toArray, List.getElem_cons_zero, List.getElem_cons_succ, Act.put, List.setIfInBounds_toArray, List.set_cons_zero, List.set_cons_succ]
        refine wpAnyH_take (i := 9) (v := ?_) rfl (by kernel_rfl) (by kernel_rfl) (by kernel_rfl) (fun _ _ _ h => h) (Or.inl ⟨by rfl, fun wz hSw => ?_⟩) (by assumption) ?_
        rotate_left 1
        · ((try dsimp only at hSw); go_simp; (try with_reducible rfl))
        simp only [List.getElem_toArray, List.getElem_cons_zero, List.getElem_cons_succ, Act.put, List.setIfInBounds_toArray, List.set_cons_zero, List.set_cons_succ]
        refine wpAnyH_take (i := 10) (v := ?_) rfl (by kernel_rfl) (by kernel_rfl) (by kernel_rfl) (fun _ _ _ h => h) (Or.inl ⟨by rfl, fun wz hSw => ?_⟩) (by assumption) ?_
        rotate_left 1
        · ((try dsimp only at hSw); go_simp; (try with_reducible rfl))
        simp only [List.getElem_toArray, List.getElem_cons_zero, List.getElem_cons_succ, Act.put, List.setIfInBounds_toArray, List.set_cons_zero, List.set_cons_succ]
        refine wpAnyH_take (i := 11) (v := ?_) rfl (by kernel_rfl) (by kernel_rfl) (by kernel_rfl) (fun _ _ _ h => h) (Or.inl ⟨by rfl, fun wz hSw => ?_⟩) (by assumption) ?_
        rotate_left 1
        · ((try dsimp only at hSw); go_simp; (try with_reducible rfl))
        simp only [List.getElem_toArray, List.getElem_cons_zero, List.getElem_cons_succ, Act.put, List.setIfInBounds_toArray, List.set_cons_zero, List.set_cons_succ]
        refine wpAnyH_take (i := 12) (v := ?_) rfl (by kernel_rfl) (by kernel_rfl) (by kernel_rfl) (fun _ _ _ h => h) (Or.inl ⟨by rfl, fun wz hSw => ?_⟩) (by assumption) ?_
        rotate_left 1
        · ((try dsimp only at hSw); go_simp; (try with_reducible rfl))
        simp only [List.getElem_toArray, List.getElem_cons_zero, List.getElem_cons_succ, Act.put, List.setIfInBounds_toArray, List.set_cons_zero, List.set_cons_succ]
        refine wpAnyH_take (i := 14) (v := ?_) rfl (by kernel_rfl) (by kernel_rfl) (by kernel_rfl) (fun _ _ _ h => h) (Or.inl ⟨by rfl, fun wz hSw => ?_⟩) (by assumption) ?_
        rotate_left 1
        · ((try dsimp only at hSw); go_simp; (try with_reducible rfl))
        simp only [List.getElem_toArray, List.getElem_cons_zero, List.getElem_cons_succ, Act.put, List.setIfInBounds_toArray, List.set_cons_zero, List.set_cons_succ]
        refine wpAnyH_take (i := 15) (v := ?_) rfl (by kernel_rfl) (by kernel_rfl) (by kernel_rfl) (fun _ _ _ h => h) (Or.inl ⟨by rfl, fun wz hSw => ?_⟩) (by assumption) ?_
        rotate_left 1
        · ((try dsimp only at hSw); go_simp; (try with_reducible rfl))
        simp only [List.getElem_toArray, List.getElem_cons_zero, List.getElem_cons_succ, Act.put, List.setIfInBounds_toArray, List.set_cons_zero, List.set_cons_succ]
        refine wpAnyH_take (i := 16) (v := ?_) rfl (by kernel_rfl) (by kernel_rfl) (by kernel_rfl) (fun _ _ _ h => h) (Or.inl ⟨by rfl, fun wz hSw => ?_⟩) (by assumption) ?_
        rotate_left 1
        · ((try dsimp only at hSw); go_simp; (try with_reducible rfl))
        simp only [List.getElem_toArray, List.getElem_cons_zero, List.getElem_cons_succ, Act.put, List.setIfInBounds_toArray, List.set_cons_zero, List.set_cons_succ]
        refine wpAnyH_ready (rs := [13]) (by kernel_rfl) (by simp) ?_
        refine AllReadyH.cons rfl (fun K hK => ?_) AllReadyH.nil
        go_simp
        (refine (Hhc14G.out _ (by first | assumption | exact Below.refl _ _ | exact (Below.refl _ _).drew | exact Below.drew (by assumption))).mono ?_; rintro e wa ⟨rfl, hba⟩)
        first | refine hK.out _ _ ?hS (fun hHeld => ?_) | (go_wp2_with fail; refine hK.out _ _ ?hS (fun hHeld => ?_))
        case hS => ((try dsimp only); exact HhK.out _ (by first | assumption | exact Below.refl _ _ | exact (Below.refl _ _).drew | exact Below.drew (by assumption)))
        clear hK K
        try simp only [List.getElem_toArray, List.getElem_cons_zero, List.getElem_cons_succ, Act.put, List.setIfInBounds_toArray, List.set_cons_zero, List.set_cons_succ]
        refine wpAnyH_take (i := 17) (v := ?_) rfl (by kernel_rfl) (by kernel_rfl) (by kernel_rfl) (fun _ _ _ h => h) (Or.inl ⟨by rfl, fun wz hSw => ?_⟩) (by assumption) ?_
        rotate_left 1
        · ((try dsimp only at hSw); go_simp; (try with_reducible rfl))
        simp only [List.getElem_toArray, List.getElem_cons_zero, List.getElem_cons_succ, Act.put, List.setIfInBounds_toArray, List.set_cons_zero, List.set_cons_succ]
        refine wpAnyH_take (i := 18) (v := undef) rfl (by kernel_rfl) (by kernel_rfl) (by kernel_rfl) (fun _ _ _ h => h) (Or.inr ⟨by rfl, rfl⟩) (by assumption) ?_
        simp only [List.getElem_toArray, List.getElem_cons_zero, List.getElem_cons_succ, Act.put, List.setIfInBounds_toArray, List.set_cons_zero, List.set_cons_succ]
        refine wpAnyH_take (i := 19) (v := undef) rfl (by kernel_rfl) (by kernel_rfl) (by kernel_rfl) (fun _ _ _ h => h) (Or.inr ⟨by rfl, rfl⟩) (by assumption) ?_
        simp only [List.getElem_toArray, List.getElem_cons_zero, List.getElem_cons_succ, Act.put, List.setIfInBounds_toArray, List.set_cons_zero, List.set_cons_succ]
        refine wpAnyH_take (i := 20) (v := undef) rfl (by kernel_rfl) (by kernel_rfl) (by kernel_rfl) (fun _ _ _ h => h) (Or.inr ⟨by rfl, rfl⟩) (by assumption) ?_
        simp only [List.getElem_toArray, List.getElem_cons_zero, List.getElem_cons_succ, Act.put, List.setIfInBounds_toArray, List.set_cons_zero, List.set_cons_succ]
        refine wpAnyH_take (i := 21) (v := ?_) rfl (by kernel_rfl) (by kernel_rfl) (by kernel_rfl) (fun _ _ _ h => h) (Or.inl ⟨by rfl, fun wz hSw => ?_⟩) (by assumption) ?_
        rotate_left 1
        · ((try dsimp only at hSw); go_simp; (try with_reducible rfl))
        simp only [List.getElem_toArray, List.getElem_cons_zero, List.getElem_cons_succ, Act.put, List.setIfInBounds_toArray, List.set_cons_zero, List.set_cons_succ]
        refine wpAnyH_take (i := 22) (v := ?_) rfl (by kernel_rfl) (by kernel_rfl) (by kernel_rfl) (fun _ _ _ h => h) (Or.inl ⟨by rfl, fun wz hSw => ?_⟩) (by assumption) ?_
        rotate_left 1
        · ((try dsimp only at hSw); go_simp; (try with_reducible rfl))
        simp only [List.getElem_toArray, List.getElem_cons_zero, List.getElem_cons_succ, Act.put, List.setIfInBounds_toArray, List.set_cons_zero, List.set_cons_succ]
        refine wpAnyH_take (i := 23) (v := ?_) rfl (by kernel_rfl) (by kernel_rfl) (by kernel_rfl) (fun _ _ _ h => h) (Or.inl ⟨by rfl, fun wz hSw => ?_⟩) (by assumption) ?_
        rotate_left 1
        · ((try dsimp only at hSw); go_simp; (try with_reducible rfl))
        simp only [List.getElem_toArray, List.getElem_cons_zero, List.getElem_cons_succ, Act.put, List.setIfInBounds_toArray, List.set_cons_zero, List.set_cons_succ]
        refine wpAnyH_take (i := 24) (v := ?_) rfl (by kernel_rfl) (by kernel_rfl) (by kernel_rfl) (fun _ _ _ h => h) (Or.inl ⟨by rfl, fun wz hSw => ?_⟩) (by assumption) ?_
        rotate_left 1
        · ((try dsimp only at hSw); go_simp; (try with_reducible rfl))
        simp only [List.getElem_toArray, List.getElem_cons_zero, List.getElem_cons_succ, Act.put, List.setIfInBounds_toArray, List.set_cons_zero, List.set_cons_succ]
        refine wpAnyH_done (by kernel_rfl) ?_ _
        go_wp2_with fail
        go_ret
        exact ⟨rfl, Hhend.out _ hba⟩
    · rw [hib2] at hBXe hQok Hhc14X
      rw [hQ2] at heqQ hGQ
      have hokb := hQok hQ2
      rw [hokb] at hGQ hBGe
      have hGl : G = true := by rw [hGQ]; rfl
      rw [hGl] at Hhc14G
      have hBXs : (ByteArray.mk BX.toArray).toList.isEmpty = false := by rw [ofList_toList']; exact hBXe
      have hBGs : (ByteArray.mk BG.toArray).toList.isEmpty = false := by rw [ofList_toList']; exact hBGe
      rw [Bool.not_true] at hBXe
      rw [Bool.not_true] at hBGe
      clear hib2 hQ2 hGQ hGl hQok hokb
      first | (go_region_held3 (fun w' => (w'.cell? ⟨w.heap.size, 0, none⟩ = some (.int .i64 x.g) ∧ w'.cell? ⟨w.heap.size, 1, none⟩ = some (.int .i64 x.q) ∧ w'.cell? ⟨w.heap.size, 2, none⟩ = some (.int .i64 x.c) ∧ w'.cell? ⟨w.heap.size, 3, none⟩ = some (.int .i64 x.v) ∧ w'.cell? ⟨w.heap.size, 4, none⟩ = some (.string ⟨x.tag.toArray⟩)) ∧ (w'.cell? ⟨b6, 0, none⟩ = some (.int .i64 x.g) ∧ w'.cell? ⟨b6, 1, none⟩ = some (.int .i64 x.q) ∧ w'.cell? ⟨b6, 2, none⟩ = some (.int .i64 x.c) ∧ w'.cell? ⟨b6, 3, none⟩ = some (.int .i64 x.v) ∧ w'.cell? ⟨b6, 4, none⟩ = some (.string ⟨T.toArray⟩)) ∧ (w'.cell? ⟨b7, 0, none⟩ = some (.int .i64 x.g) ∧ w'.cell? ⟨b7, 1, none⟩ = some (.int .i64 x.q) ∧ w'.cell? ⟨b7, 2, none⟩ = some (.int .i64 x.c) ∧ w'.cell? ⟨b7, 3, none⟩ = some (.int .i64 x.v) ∧ w'.cell? ⟨b7, 4, none⟩ = some (.string ⟨x.tag.toArray⟩))) (exact HhK.out _ (by first | assumption | exact Below.refl _ _ | exact (Below.refl _ _).drew | exact Below.drew (by assumption))) (first | (go_at_call_of 21 secret.toArray; refine (Hhc21b.out _ (by first | assumption | exact Below.refl _ _ | exact (Below.refl _ _).drew | exact Below.drew (by assumption))).mono ?_; rintro e wa ⟨rfl, hba⟩) | (go_at_call 21; refine (Hhc21a.out _ (by first | assumption | exact Below.refl _ _ | exact (Below.refl _ _).drew | exact Below.drew (by assumption))).mono ?_; rintro e wa ⟨rfl, hba⟩) | (go_at_call_of 22 x.g; refine (Hhc22_0.out _ (by first | assumption | exact Below.refl _ _ | exact (Below.refl _ _).drew | exact Below.drew (by assumption))).mono ?_; rintro e wa ⟨rfl, hba⟩) | (go_at_call_of 22 x.q; refine (Hhc22_1.out _ (by first | assumption | exact Below.refl _ _ | exact (Below.refl _ _).drew | exact Below.drew (by assumption))).mono ?_; rintro e wa ⟨rfl, hba⟩) | (go_at_call_of 22 x.c; refine (Hhc22_2.out _ (by first | assumption | exact Below.refl _ _ | exact (Below.refl _ _).drew | exact Below.drew (by assumption))).mono ?_; rintro e wa ⟨rfl, hba⟩) | (go_at_call_of 22 x.v; refine (Hhc22_3.out _ (by first | assumption | exact Below.refl _ _ | exact (Below.refl _ _).drew | exact Below.drew (by assumption))).mono ?_; rintro e wa ⟨rfl, hba⟩) | (go_at_call 20; refine (Hhc20.out _ (by first | assumption | exact Below.refl _ _ | exact (Below.refl _ _).drew | exact Below.drew (by assumption))).mono ?_; rintro e wa ⟨rfl, hba⟩))) | fail
      go_wp2_with fail
      first | (go_region_held3 (fun w' => (w'.cell? ⟨w.heap.size, 0, none⟩ = some (.int .i64 x.g) ∧ w'.cell? ⟨w.heap.size, 1, none⟩ = some (.int .i64 x.q) ∧ w'.cell? ⟨w.heap.size, 2, none⟩ = some (.int .i64 x.c) ∧ w'.cell? ⟨w.heap.size, 3, none⟩ = some (.int .i64 x.v) ∧ w'.cell? ⟨w.heap.size, 4, none⟩ = some (.string ⟨x.tag.toArray⟩)) ∧ (w'.cell? ⟨b6, 0, none⟩ = some (.int .i64 x.g) ∧ w'.cell? ⟨b6, 1, none⟩ = some (.int .i64 x.q) ∧ w'.cell? ⟨b6, 2, none⟩ = some (.int .i64 x.c) ∧ w'.cell? ⟨b6, 3, none⟩ = some (.int .i64 x.v) ∧ w'.cell? ⟨b6, 4, none⟩ = some (.string ⟨T.toArray⟩)) ∧ (w'.cell? ⟨b7, 0, none⟩ = some (.int .i64 x.g) ∧ w'.cell? ⟨b7, 1, none⟩ = some (.int .i64 x.q) ∧ w'.cell? ⟨b7, 2, none⟩ = some (.int .i64 x.c) ∧ w'.cell? ⟨b7, 3, none⟩ = some (.int .i64 x.v) ∧ w'.cell? ⟨b7, 4, none⟩ = some (.string ⟨x.tag.toArray⟩))) (exact HhK.out _ (by first | assumption | exact Below.refl _ _ | exact (Below.refl _ _).drew | exact Below.drew (by assumption))) (first | (go_at_call 12; refine (Hhc12X.out _ (by first | assumption | exact Below.refl _ _ | exact (Below.refl _ _).drew | exact Below.drew (by assumption))).mono ?_; rintro e wa ⟨rfl, hba⟩))) | fail
      go_wp2_with fail
      first | (go_region_held3 (fun w' => (w'.cell? ⟨w.heap.size, 0, none⟩ = some (.int .i64 x.g) ∧ w'.cell? ⟨w.heap.size, 1, none⟩ = some (.int .i64 x.q) ∧ w'.cell? ⟨w.heap.size, 2, none⟩ = some (.int .i64 x.c) ∧ w'.cell? ⟨w.heap.size, 3, none⟩ = some (.int .i64 x.v) ∧ w'.cell? ⟨w.heap.size, 4, none⟩ = some (.string ⟨x.tag.toArray⟩)) ∧ (w'.cell? ⟨b6, 0, none⟩ = some (.int .i64 x.g) ∧ w'.cell? ⟨b6, 1, none⟩ = some (.int .i64 x.q) ∧ w'.cell? ⟨b6, 2, none⟩ = some (.int .i64 x.c) ∧ w'.cell? ⟨b6, 3, none⟩ = some (.int .i64 x.v) ∧ w'.cell? ⟨b6, 4, none⟩ = some (.string ⟨T.toArray⟩)) ∧ (w'.cell? ⟨b7, 0, none⟩ = some (.int .i64 x.g) ∧ w'.cell? ⟨b7, 1, none⟩ = some (.int .i64 x.q) ∧ w'.cell? ⟨b7, 2, none⟩ = some (.int .i64 x.c) ∧ w'.cell? ⟨b7, 3, none⟩ = some (.int .i64 x.v) ∧ w'.cell? ⟨b7, 4, none⟩ = some (.string ⟨x.tag.toArray⟩))) (exact HhK.out _ (by first | assumption | exact Below.refl _ _ | exact (Below.refl _ _).drew | exact Below.drew (by assumption))) (first | (go_at_call_of 14 T.toArray; refine (Hhc14X.out _ (by first | assumption | exact Below.refl _ _ | exact (Below.refl _ _).drew | exact Below.drew (by assumption))).mono ?_; rintro e wa ⟨rfl, hba⟩) | (go_at_call 14; refine (Hhc14G.out _ (by first | assumption | exact Below.refl _ _ | exact (Below.refl _ _).drew | exact Below.drew (by assumption))).mono ?_; rintro e wa ⟨rfl, hba⟩) | (go_at_call_of 18 T.toArray; refine (Hhc18X.out _ (by first | assumption | exact Below.refl _ _ | exact (Below.refl _ _).drew | exact Below.drew (by assumption))).mono ?_; rintro e wa ⟨rfl, hba⟩) | (go_at_call 18; refine (Hhc18G.out _ (by first | assumption | exact Below.refl _ _ | exact (Below.refl _ _).drew | exact Below.drew (by assumption))).mono ?_; rintro e wa ⟨rfl, hba⟩))) | fail
      go_wp2_with fail
      go_ret
      exact ⟨rfl, Hhend.out _ hba⟩
  · have hsf : (decide (secret.length ≤ 300) && (decide (x.tag.length ≤ 300) && decide (([] : List UInt8).length ≤ 300))) = false := by
      rw [Bool.eq_false_iff]; simp; omega
    rw [hsf] at hsh2
    have Hhsh2 := Lib.hid hsh2
    clear hsh2
    refine (Hhsh2.out).mono ?_
    rintro e w1' ⟨rfl, rfl⟩
    have hfin := hBb.trans (HhB1.out.mono (by have := Hhszb.out; omega))
    go_wp2_with fail
    go_ret
    exact ⟨rfl, hfin⟩
theorem Seals_at (s : ByteArray) (x : Gr) (m : Int) (w : World) (h : AllAt m w) (hx : x.wf) (hsl : s.size ≤ 9223372036854775807) (htl : x.tag.length ≤ 9223372036854775807) :
    Calls Tryd.prog 6 #[.string s, x.val] w fun e w' => e = .returned (.bool true) ∧ Below w.heap.size w w' := by
  have := Seals_calls s.data.toList x m w h hx (by rw [len_data]; exact hsl) htl
  rwa [ba_eta] at this
end Go.Proofs.YtibhihobpehpbaaDoor
