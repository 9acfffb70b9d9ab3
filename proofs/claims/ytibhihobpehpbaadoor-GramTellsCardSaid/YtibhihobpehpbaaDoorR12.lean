/- The walk of GramTells. -/
import Derived.Test.YtibhihobpehpbaaDoorR11
import Derived.Test.YtibhihobpehpbaaDoorD10
set_option linter.unusedSimpArgs false
set_option linter.unusedVariables false
namespace Go.Proofs.YtibhihobpehpbaaDoor
open Go.RowKit

set_option maxRecDepth 100000 in
set_option maxHeartbeats 8000000 in
theorem Tells_calls (secret : List UInt8) (x : Gr) (s : List UInt8) (n : Int) (m : Int) (w : World) (h : AllAt m w) (hx : x.wf) (hsec : secret.length ≤ 9223372036854775807) (htl : x.tag.length ≤ 9223372036854775807) (hsl : s.length ≤ 9223372036854775807) :
    Calls Tryd.prog 3 #[.string ⟨secret.toArray⟩, x.val, .string ⟨s.toArray⟩, .int .i64 n] w fun e w' => e = .returned (.bool true) ∧ Below w.heap.size w w' := by
  have hval : Gr.val x = .agg #[.int .i64 x.g, .int .i64 x.q, .int .i64 x.c, .int .i64 x.v, .string ⟨x.tag.toArray⟩] := rfl
  have h4 := h.2.2.1
  have hst := str_size x.tag
  have hss := str_size s
  obtain ⟨wb, hwb⟩ : ∃ wb, wb = w.alloc (.cells x.cells 23) := ⟨_, rfl⟩
  have hbox : GrAt wb w.heap.size x := by rw [hwb]; exact heap_alloc_new w _
  have hBb : Below w.heap.size w wb := by rw [hwb]; exact (by ((repeat' (first | exact Below.refl _ _ | (refine Below.alloc ?_ ?_ _) | (refine Below.setCell ?_ ?_ _) | (refine Below.drew ?_) | (refine Below.trans ?_ (Below.mono (by assumption) ?_)))) <;> ((try simp only [World.size_alloc, World.size_setCell, World.size_drew] at *); omega)))
  have hszb : wb.heap.size = w.heap.size + 1 := by rw [hwb]; simp
  have hall : ∀ wx, Below wb.heap.size wb wx → AllAt m wx := fun wx hx => (h.below hBb h4).below hx (by omega)
  have hk : ∀ wx, Below wb.heap.size wb wx → GrC wx w.heap.size x := fun wx hx => (hbox.below hx (by omega)).c
  have hsm := small_calls m wb (hall wb (Below.refl _ _))
  have hsh := short_calls secret x.tag s
  rw [hval]
  have Hhbox := Lib.hid hbox
  clear hbox
  have Hhszb := Lib.hid hszb
  clear hszb
  have Hhall := Lib.hid hall
  clear hall
  have Hhk := Lib.hid hk
  clear hk
  have Hhsm := Lib.hid hsm
  clear hsm
  have Hhsh := Lib.hid hsh
  clear hsh
  have Hhval := Lib.hid hval
  clear hval
  have Hhx := Lib.hid hx
  clear hx
  have Hh := Lib.hid h
  clear h
  go_enter Tryd.func3, Tryd.ntmps3
  go_wp2_with fail
  rw [show w.alloc (.cells #[.int .i64 x.g, .int .i64 x.q, .int .i64 x.c, .int .i64 x.v, .string ⟨x.tag.toArray⟩] 23) = wb from hwb.symm]
  clear hwb
  refine (Hhsm.out).mono ?_
  rintro e w1 ⟨rfl, hB1⟩
  obtain ⟨z0, z1, z2, z3, z4⟩ := Hhk.out _ hB1
  have hs1 := hB1.size
  have HhB1 := Lib.hid hB1
  clear hB1
  go_wp2_with fail
  have hsh2 := Hhsh.out w1 hsec htl hsl
  by_cases hc : secret.length ≤ 300 ∧ (x.tag.length ≤ 300 ∧ s.length ≤ 300)
  · obtain ⟨cs, ct, cl⟩ := hc
    rw [show (decide (secret.length ≤ 300) && (decide (x.tag.length ≤ 300) && decide (s.length ≤ 300))) = true by simp [cs, ct, cl]] at hsh2
    have Hhsh2 := Lib.hid hsh2
    clear hsh2
    refine (Hhsh2.out).mono ?_
    rintro e w1' ⟨rfl, rfl⟩
    by_cases hn0 : n < 0
    · have hd0 : decide (n < 0) = true := by simpa using hn0
      have hfin := hBb.trans (HhB1.out.mono (by have := Hhszb.out; omega))
      go_wp2_with fail
      go_ret
      exact ⟨rfl, hfin⟩
    · have hd0 : decide (n < 0) = false := by simpa using hn0
      by_cases hn1 : 200 < n
      · have hd1 : decide (n > 200) = true := by simpa using hn1
        have hfin := hBb.trans (HhB1.out.mono (by have := Hhszb.out; omega))
        go_wp2_with fail
        go_ret
        exact ⟨rfl, hfin⟩
      · have hd1 : decide (n > 200) = false := by simp; omega
        obtain ⟨N, rfl⟩ : ∃ N : Nat, n = (N : Int) := ⟨n.toNat, by omega⟩
        have hN : N ≤ 200 := by omega
        obtain ⟨o, hmk⟩ := mk26 N hN
        have hmk1 := hmk w1
        have Hhmk := Lib.hid hmk
        clear hmk
        go_wp2_with fail
        generalize hW2 : World.alloc (World.alloc _ _) _ = w2
        have hC2 : w2.heap[w1.heap.size + 1]? = some (.cells #[.string ⟨#[]⟩, .slice none 0 0, .int .i64 0, .slice none 0 0, .slice none 0 0, .slice none 0 0, .slice (some ⟨w1.heap.size, 0, none⟩) N N, .slice none 0 0, .slice none 0 0, .slice none 0 0, .int .i64 0] 35 (0, 0)) := by
          rw [← hW2]
          have := heap_alloc_new (w1.alloc o) (.cells #[.string ⟨#[]⟩, .slice none 0 0, .int .i64 0, .slice none 0 0, .slice none 0 0, .slice none 0 0, .slice (some ⟨w1.heap.size, 0, none⟩) N N, .slice none 0 0, .slice none 0 0, .slice none 0 0, .int .i64 0] 35)
          rw [World.size_alloc] at this
          exact this
        have hs2 : w2.heap.size = w1.heap.size + 2 := by rw [← hW2, World.size_alloc, World.size_alloc]
        have hb12 : Below w1.heap.size w1 w2 := by rw [← hW2]; exact (by ((repeat' (first | exact Below.refl _ _ | (refine Below.alloc ?_ ?_ _) | (refine Below.setCell ?_ ?_ _) | (refine Below.drew ?_) | (refine Below.trans ?_ (Below.mono (by assumption) ?_)))) <;> ((try simp only [World.size_alloc, World.size_setCell, World.size_drew] at *); omega)))
        have hbel2 : Below wb.heap.size wb w2 := HhB1.out.trans (hb12.mono hs1)
        clear hW2 hb12
        obtain ⟨BC, hBC⟩ : ∃ b, b = w1.heap.size + 1 := ⟨_, rfl⟩
        rw [← hBC] at hC2 ⊢
        have q1 : BC < w2.heap.size := by omega
        clear hBC
        clear z0 z1 z2 z3 z4 hmk1
        obtain ⟨y, hy⟩ : ∃ y : Gr, y = (readS s).1 := ⟨_, rfl⟩
        obtain ⟨B, hB⟩ : ∃ B : Bool, B = (readS s).2 := ⟨_, rfl⟩
        have hr1 := Read_calls s w2 (Hhall.out w2 hbel2).2.1 (by omega)
        have hr2 := fun wx => ReadR_calls s wx (by omega)
        rw [← hy, ← hB] at hr1
        rw [← hy, ← hB] at hr2
        clear hy hB
        have HhC2 := Lib.hid hC2
        clear hC2
        have Hhbel2 := Lib.hid hbel2
        clear hbel2
        have Hhr2 := Lib.hid hr2
        clear hr2
        refine (show Calls Tryd.prog 10 #[.string ⟨s.toArray⟩] w2 (fun e w' => e = .returned (.tuple #[.agg #[.int .i64 y.g, .int .i64 y.q, .int .i64 y.c, .int .i64 y.v, .string ⟨y.tag.toArray⟩], .bool B]) ∧ Below w2.heap.size w2 w') from hr1).mono ?_
        clear hr1
        rintro e w3 ⟨rfl, hB3⟩
        have hs3 := hB3.size
        have hC3 : w3.heap[BC]? = some (.cells #[.string ⟨#[]⟩, .slice none 0 0, .int .i64 0, .slice none 0 0, .slice none 0 0, .slice none 0 0, .slice (some ⟨w1.heap.size, 0, none⟩) N N, .slice none 0 0, .slice none 0 0, .slice none 0 0, .int .i64 0] 35 (0, 0)) := by rw [hB3.block _ (by omega)]; exact HhC2.out
        have hbel3 := Hhbel2.out.trans (hB3.mono (by omega))
        clear hB3
        have HhC3 := Lib.hid hC3
        clear hC3
        have Hhbel3 := Lib.hid hbel3
        clear hbel3
        go_wp2_with fail
        generalize hW4 : World.alloc _ _ = w4
        have hD4 : GrAt w4 w3.heap.size y := by rw [← hW4]; exact heap_alloc_new w3 _
        have hb34 : Below w3.heap.size w3 w4 := by rw [← hW4]; exact (by ((repeat' (first | exact Below.refl _ _ | (refine Below.alloc ?_ ?_ _) | (refine Below.setCell ?_ ?_ _) | (refine Below.drew ?_) | (refine Below.trans ?_ (Below.mono (by assumption) ?_)))) <;> ((try simp only [World.size_alloc, World.size_setCell, World.size_drew] at *); omega)))
        have hs4 : w4.heap.size = w3.heap.size + 1 := by rw [← hW4, World.size_alloc]
        have hC4 : w4.heap[BC]? = some (.cells #[.string ⟨#[]⟩, .slice none 0 0, .int .i64 0, .slice none 0 0, .slice none 0 0, .slice none 0 0, .slice (some ⟨w1.heap.size, 0, none⟩) N N, .slice none 0 0, .slice none 0 0, .slice none 0 0, .int .i64 0] 35 (0, 0)) := by rw [hb34.block _ (by omega)]; exact HhC3.out
        have hbel4 := Hhbel3.out.trans (hb34.mono (by omega))
        clear hW4 hb34
        obtain ⟨D1, hD1⟩ : ∃ b, b = w3.heap.size := ⟨_, rfl⟩
        rw [← hD1] at hD4 ⊢
        have q2 : D1 < w4.heap.size := by omega
        clear hD1
        have HhD4 := Lib.hid hD4
        clear hD4
        have HhC4 := Lib.hid hC4
        clear hC4
        have Hhbel4 := Lib.hid hbel4
        clear hbel4
        refine (show Calls Tryd.prog 11 #[.string ⟨s.toArray⟩] w4 (fun e w' => e = .returned (.tuple #[.agg #[.int .i64 y.g, .int .i64 y.q, .int .i64 y.c, .int .i64 y.v, .string ⟨y.tag.toArray⟩], .bool B]) ∧ Below w4.heap.size w4 w') from Hhr2.out w4).mono ?_
        rintro e w5 ⟨rfl, hB5⟩
        have hs5 := hB5.size
        have hC5 : w5.heap[BC]? = some (.cells #[.string ⟨#[]⟩, .slice none 0 0, .int .i64 0, .slice none 0 0, .slice none 0 0, .slice none 0 0, .slice (some ⟨w1.heap.size, 0, none⟩) N N, .slice none 0 0, .slice none 0 0, .slice none 0 0, .int .i64 0] 35 (0, 0)) := by rw [hB5.block _ (by omega)]; exact HhC4.out
        have hD5 : GrAt w5 D1 y := HhD4.out.below hB5 (by omega)
        have hbel5 := Hhbel4.out.trans (hB5.mono (by omega))
        clear hB5
        have HhC5 := Lib.hid hC5
        clear hC5
        have HhD5 := Lib.hid hD5
        clear hD5
        have Hhbel5 := Lib.hid hbel5
        clear hbel5
        go_wp2_with fail
        generalize hW6 : World.alloc _ _ = w6
        have hE6 : GrAt w6 w5.heap.size y := by rw [← hW6]; exact heap_alloc_new w5 _
        have hb56 : Below w5.heap.size w5 w6 := by rw [← hW6]; exact (by ((repeat' (first | exact Below.refl _ _ | (refine Below.alloc ?_ ?_ _) | (refine Below.setCell ?_ ?_ _) | (refine Below.drew ?_) | (refine Below.trans ?_ (Below.mono (by assumption) ?_)))) <;> ((try simp only [World.size_alloc, World.size_setCell, World.size_drew] at *); omega)))
        have hs6 : w6.heap.size = w5.heap.size + 1 := by rw [← hW6, World.size_alloc]
        have hC6 : w6.heap[BC]? = some (.cells #[.string ⟨#[]⟩, .slice none 0 0, .int .i64 0, .slice none 0 0, .slice none 0 0, .slice none 0 0, .slice (some ⟨w1.heap.size, 0, none⟩) N N, .slice none 0 0, .slice none 0 0, .slice none 0 0, .int .i64 0] 35 (0, 0)) := by rw [hb56.block _ (by omega)]; exact HhC5.out
        have hD6 : GrAt w6 D1 y := HhD5.out.below hb56 (by omega)
        have hbel6 := Hhbel5.out.trans (hb56.mono (by omega))
        clear hW6 hb56
        obtain ⟨D2, hD2⟩ : ∃ b, b = w5.heap.size := ⟨_, rfl⟩
        rw [← hD2] at hE6 ⊢
        have q3 : D2 < w6.heap.size := by omega
        clear hD2
        have hlow : ∀ wx, Below w6.heap.size w6 wx → Below wb.heap.size wb wx := fun wx hx => hbel6.trans (hx.mono hbel6.size)
        have hkeep : ∀ wx, Below w6.heap.size w6 wx → wx.cell? ⟨w.heap.size, 0, none⟩ = some (.int .i64 x.g) ∧ wx.cell? ⟨w.heap.size, 1, none⟩ = some (.int .i64 x.q) ∧ wx.cell? ⟨w.heap.size, 2, none⟩ = some (.int .i64 x.c) ∧ wx.cell? ⟨w.heap.size, 3, none⟩ = some (.int .i64 x.v) ∧ wx.cell? ⟨w.heap.size, 4, none⟩ = some (.string ⟨x.tag.toArray⟩) ∧ wx.cell? ⟨BC, 0, none⟩ = some (.string ⟨#[]⟩) ∧ wx.cell? ⟨BC, 1, none⟩ = some (.slice none 0 0) ∧ wx.cell? ⟨BC, 2, none⟩ = some (.int .i64 0) ∧ wx.cell? ⟨BC, 3, none⟩ = some (.slice none 0 0) ∧ wx.cell? ⟨BC, 4, none⟩ = some (.slice none 0 0) ∧ wx.cell? ⟨BC, 5, none⟩ = some (.slice none 0 0) ∧ wx.cell? ⟨BC, 6, none⟩ = some (.slice (some ⟨w1.heap.size, 0, none⟩) N N) ∧ wx.cell? ⟨BC, 7, none⟩ = some (.slice none 0 0) ∧ wx.cell? ⟨BC, 8, none⟩ = some (.slice none 0 0) ∧ wx.cell? ⟨BC, 9, none⟩ = some (.slice none 0 0) ∧ wx.cell? ⟨BC, 10, none⟩ = some (.int .i64 0) ∧ wx.cell? ⟨D1, 0, none⟩ = some (.int .i64 y.g) ∧ wx.cell? ⟨D1, 1, none⟩ = some (.int .i64 y.q) ∧ wx.cell? ⟨D1, 2, none⟩ = some (.int .i64 y.c) ∧ wx.cell? ⟨D1, 3, none⟩ = some (.int .i64 y.v) ∧ wx.cell? ⟨D1, 4, none⟩ = some (.string ⟨y.tag.toArray⟩) ∧ wx.cell? ⟨D2, 0, none⟩ = some (.int .i64 y.g) ∧ wx.cell? ⟨D2, 1, none⟩ = some (.int .i64 y.q) ∧ wx.cell? ⟨D2, 2, none⟩ = some (.int .i64 y.c) ∧ wx.cell? ⟨D2, 3, none⟩ = some (.int .i64 y.v) ∧ wx.cell? ⟨D2, 4, none⟩ = some (.string ⟨y.tag.toArray⟩) := by
          intro wx hx
          have hc : wx.heap[BC]? = some (.cells #[.string ⟨#[]⟩, .slice none 0 0, .int .i64 0, .slice none 0 0, .slice none 0 0, .slice none 0 0, .slice (some ⟨w1.heap.size, 0, none⟩) N N, .slice none 0 0, .slice none 0 0, .slice none 0 0, .int .i64 0] 35 (0, 0)) := by rw [hx.block _ (by omega)]; exact hC6
          obtain ⟨a0, a1, a2, a3, a4⟩ := Hhk.out wx (hlow wx hx)
          obtain ⟨d0, d1, d2, d3, d4⟩ := (hD6.below hx (by omega)).c
          obtain ⟨e0, e1, e2, e3, e4⟩ := (hE6.below hx (by omega)).c
          refine ⟨a0, a1, a2, a3, a4, ?_, ?_, ?_, ?_, ?_, ?_, ?_, ?_, ?_, ?_, ?_, d0, d1, d2, d3, d4, e0, e1, e2, e3, e4⟩ <;> (rw [cell_of_row _ _ _ _ _ _ hc]; rfl)
        obtain ⟨z, hz⟩ : ∃ z : Gr, z = sealS secret x := ⟨_, rfl⟩
        obtain ⟨GB, hGB⟩ : ∃ B : Bool, B = genS secret x := ⟨_, rfl⟩
        obtain ⟨RB, hRB⟩ : ∃ B : Bool, B = (x.ok && decide (x.g < (N : Int))) := ⟨_, rfl⟩
        obtain ⟨L, hL⟩ : ∃ L, L = bytesS x := ⟨_, rfl⟩
        have heq : ∀ (y : Gr) (w : World), (Op.equalIn 10000 23 (.agg #[.int .i64 y.g, .int .i64 y.q, .int .i64 y.c, .int .i64 y.v, .string ⟨y.tag.toArray⟩]) (.agg #[.int .i64 y.g, .int .i64 y.q, .int .i64 y.c, .int .i64 y.v, .string ⟨y.tag.toArray⟩])).run Tryd.prog w = .ok true w := fun y w => by
          have := equal23 y y w
          simpa using this
        have hc12 : ∀ wx, Below w6.heap.size w6 wx → Calls Tryd.prog 12 #[.string ⟨secret.toArray⟩, .agg #[.int .i64 x.g, .int .i64 x.q, .int .i64 x.c, .int .i64 x.v, .string ⟨x.tag.toArray⟩]] wx fun e w' => e = .returned (.agg #[.int .i64 z.g, .int .i64 z.q, .int .i64 z.c, .int .i64 z.v, .string ⟨z.tag.toArray⟩]) ∧ Below w6.heap.size w6 w' := fun wx hy =>
          (Seal_calls secret x m wx (Hhall.out wx (hlow wx hy)) Hhx.out cs).mono fun e w' ⟨h1, h2⟩ => ⟨by rw [h1, ← hz]; rfl, hy.trans (h2.mono hy.size)⟩
        have hc13 : ∀ wx, Below w6.heap.size w6 wx → Calls Tryd.prog 13 #[.string ⟨secret.toArray⟩, .agg #[.int .i64 x.g, .int .i64 x.q, .int .i64 x.c, .int .i64 x.v, .string ⟨x.tag.toArray⟩]] wx fun e w' => e = .returned (.agg #[.int .i64 z.g, .int .i64 z.q, .int .i64 z.c, .int .i64 z.v, .string ⟨z.tag.toArray⟩]) ∧ Below w6.heap.size w6 w' := fun wx hy =>
          (SealR_calls secret x wx Hhx.out cs).mono fun e w' ⟨h1, h2⟩ => ⟨by rw [h1, ← hz]; rfl, hy.trans (h2.mono hy.size)⟩
        have hc14 : ∀ wx, Below w6.heap.size w6 wx → Calls Tryd.prog 14 #[.string ⟨secret.toArray⟩, .agg #[.int .i64 x.g, .int .i64 x.q, .int .i64 x.c, .int .i64 x.v, .string ⟨x.tag.toArray⟩]] wx fun e w' => e = .returned (.bool GB) ∧ Below w6.heap.size w6 w' := fun wx hy =>
          (Genuine_calls secret x m wx (Hhall.out wx (hlow wx hy)) Hhx.out cs).mono fun e w' ⟨h1, h2⟩ => ⟨by rw [h1, hGB], hy.trans (h2.mono hy.size)⟩
        have hc15 : ∀ wx, Below w6.heap.size w6 wx → Calls Tryd.prog 15 #[.string ⟨secret.toArray⟩, .agg #[.int .i64 x.g, .int .i64 x.q, .int .i64 x.c, .int .i64 x.v, .string ⟨x.tag.toArray⟩]] wx fun e w' => e = .returned (.bool GB) ∧ Below w6.heap.size w6 w' := fun wx hy =>
          (GenuineR_calls secret x wx Hhx.out cs (by omega)).mono fun e w' ⟨h1, h2⟩ => ⟨by rw [h1, hGB], hy.trans (h2.mono hy.size)⟩
        have hc16 : ∀ wx, Below w6.heap.size w6 wx → Calls Tryd.prog 16 #[.agg #[.string ⟨#[]⟩, .slice none 0 0, .int .i64 0, .slice none 0 0, .slice none 0 0, .slice none 0 0, .slice (some ⟨w1.heap.size, 0, none⟩) N N, .slice none 0 0, .slice none 0 0, .slice none 0 0, .int .i64 0], .agg #[.int .i64 x.g, .int .i64 x.q, .int .i64 x.c, .int .i64 x.v, .string ⟨x.tag.toArray⟩]] wx fun e w' => e = .returned (.bool RB) ∧ Below w6.heap.size w6 w' := fun wx hy =>
          (Right_calls _ _ _ _ _ _ _ _ _ _ _ N N x wx (Hhall.out wx (hlow wx hy)).2.1 (by omega)).mono fun e w' ⟨h1, h2⟩ => ⟨by rw [h1, hRB], hy.trans (h2.mono hy.size)⟩
        have hc17 : ∀ wx, Below w6.heap.size w6 wx → Calls Tryd.prog 17 #[.agg #[.string ⟨#[]⟩, .slice none 0 0, .int .i64 0, .slice none 0 0, .slice none 0 0, .slice none 0 0, .slice (some ⟨w1.heap.size, 0, none⟩) N N, .slice none 0 0, .slice none 0 0, .slice none 0 0, .int .i64 0], .agg #[.int .i64 x.g, .int .i64 x.q, .int .i64 x.c, .int .i64 x.v, .string ⟨x.tag.toArray⟩]] wx fun e w' => e = .returned (.bool RB) ∧ Below w6.heap.size w6 w' := fun wx hy =>
          (RightR_calls _ _ _ _ _ _ _ _ _ _ _ N N x wx (by omega) (by omega)).mono fun e w' ⟨h1, h2⟩ => ⟨by rw [h1, hRB], hy.trans (h2.mono hy.size)⟩
        have hc18 : ∀ wx, Below w6.heap.size w6 wx → Calls Tryd.prog 18 #[.agg #[.int .i64 x.g, .int .i64 x.q, .int .i64 x.c, .int .i64 x.v, .string ⟨x.tag.toArray⟩]] wx fun e w' => e = .returned (.string ⟨L.toArray⟩) ∧ Below w6.heap.size w6 w' := fun wx hy =>
          (Bytes_calls x m wx (Hhall.out wx (hlow wx hy)) Hhx.out ct).mono fun e w' ⟨h1, h2⟩ => ⟨by rw [h1, hL], hy.trans (h2.mono hy.size)⟩
        have hc19 : ∀ wx, Below w6.heap.size w6 wx → Calls Tryd.prog 19 #[.agg #[.int .i64 x.g, .int .i64 x.q, .int .i64 x.c, .int .i64 x.v, .string ⟨x.tag.toArray⟩]] wx fun e w' => e = .returned (.string ⟨L.toArray⟩) ∧ Below w6.heap.size w6 w' := fun wx hy =>
          (BytesR_calls x wx Hhx.out ct).mono fun e w' ⟨h1, h2⟩ => ⟨by rw [h1, hL], hy.trans (h2.mono hy.size)⟩
        have heqy := heq y
        have heqz := heq z
        have hbB : (B == B) = true := by simp
        have hbG : (GB == GB) = true := by simp
        have hbR : (RB == RB) = true := by simp
        have hbL : ((ByteArray.mk L.toArray).toList == (ByteArray.mk L.toArray).toList) = true := by simp
        have hfin : ∀ wx, Below w6.heap.size w6 wx → Below w.heap.size w wx := fun wx hx => hBb.trans ((hlow wx hx).mono (by have := Hhszb.out; omega))
        clear heq
        have Hhkeep := Lib.hid hkeep
        clear hkeep
        have Hhc12 := Lib.hid hc12
        clear hc12
        have Hhc13 := Lib.hid hc13
        clear hc13
        have Hhc14 := Lib.hid hc14
        clear hc14
        have Hhc15 := Lib.hid hc15
        clear hc15
        have Hhc16 := Lib.hid hc16
        clear hc16
        have Hhc17 := Lib.hid hc17
        clear hc17
        have Hhc18 := Lib.hid hc18
        clear hc18
        have Hhc19 := Lib.hid hc19
        clear hc19
        have Hhz := Lib.hid hz
        clear hz
        have HhGB := Lib.hid hGB
        clear hGB
        have HhRB := Lib.hid hRB
        clear hRB
        have HhL := Lib.hid hL
        clear hL
        have HhE6 := Lib.hid hE6
        clear hE6
        have HhC6 := Lib.hid hC6
        clear hC6
        have HhD6 := Lib.hid hD6
        clear hD6
        have Hhbel6 := Lib.hid hbel6
        clear hbel6
        have Hhlow := Lib.hid hlow
        clear hlow
        have Hhfin := Lib.hid hfin
        clear hfin
        first | (go_region_held3 (fun w' => w'.cell? ⟨w.heap.size, 0, none⟩ = some (.int .i64 x.g) ∧ w'.cell? ⟨w.heap.size, 1, none⟩ = some (.int .i64 x.q) ∧ w'.cell? ⟨w.heap.size, 2, none⟩ = some (.int .i64 x.c) ∧ w'.cell? ⟨w.heap.size, 3, none⟩ = some (.int .i64 x.v) ∧ w'.cell? ⟨w.heap.size, 4, none⟩ = some (.string ⟨x.tag.toArray⟩) ∧ w'.cell? ⟨BC, 0, none⟩ = some (.string ⟨#[]⟩) ∧ w'.cell? ⟨BC, 1, none⟩ = some (.slice none 0 0) ∧ w'.cell? ⟨BC, 2, none⟩ = some (.int .i64 0) ∧ w'.cell? ⟨BC, 3, none⟩ = some (.slice none 0 0) ∧ w'.cell? ⟨BC, 4, none⟩ = some (.slice none 0 0) ∧ w'.cell? ⟨BC, 5, none⟩ = some (.slice none 0 0) ∧ w'.cell? ⟨BC, 6, none⟩ = some (.slice (some ⟨w1.heap.size, 0, none⟩) N N) ∧ w'.cell? ⟨BC, 7, none⟩ = some (.slice none 0 0) ∧ w'.cell? ⟨BC, 8, none⟩ = some (.slice none 0 0) ∧ w'.cell? ⟨BC, 9, none⟩ = some (.slice none 0 0) ∧ w'.cell? ⟨BC, 10, none⟩ = some (.int .i64 0) ∧ w'.cell? ⟨D1, 0, none⟩ = some (.int .i64 y.g) ∧ w'.cell? ⟨D1, 1, none⟩ = some (.int .i64 y.q) ∧ w'.cell? ⟨D1, 2, none⟩ = some (.int .i64 y.c) ∧ w'.cell? ⟨D1, 3, none⟩ = some (.int .i64 y.v) ∧ w'.cell? ⟨D1, 4, none⟩ = some (.string ⟨y.tag.toArray⟩) ∧ w'.cell? ⟨D2, 0, none⟩ = some (.int .i64 y.g) ∧ w'.cell? ⟨D2, 1, none⟩ = some (.int .i64 y.q) ∧ w'.cell? ⟨D2, 2, none⟩ = some (.int .i64 y.c) ∧ w'.cell? ⟨D2, 3, none⟩ = some (.int .i64 y.v) ∧ w'.cell? ⟨D2, 4, none⟩ = some (.string ⟨y.tag.toArray⟩)) (exact Hhkeep.out _ (by first | assumption | exact Below.refl _ _ | exact (Below.refl _ _).drew | exact Below.drew (by assumption))) (first | (go_at_call 12; refine (Hhc12.out _ (by first | assumption | exact Below.refl _ _ | exact (Below.refl _ _).drew | exact Below.drew (by assumption))).mono ?_; rintro e wa ⟨rfl, hba⟩) | (go_at_call 13; refine (Hhc13.out _ (by first | assumption | exact Below.refl _ _ | exact (Below.refl _ _).drew | exact Below.drew (by assumption))).mono ?_; rintro e wa ⟨rfl, hba⟩) | (go_at_call 14; refine (Hhc14.out _ (by first | assumption | exact Below.refl _ _ | exact (Below.refl _ _).drew | exact Below.drew (by assumption))).mono ?_; rintro e wa ⟨rfl, hba⟩) | (go_at_call 15; refine (Hhc15.out _ (by first | assumption | exact Below.refl _ _ | exact (Below.refl _ _).drew | exact Below.drew (by assumption))).mono ?_; rintro e wa ⟨rfl, hba⟩) | (go_at_call 16; refine (Hhc16.out _ (by first | assumption | exact Below.refl _ _ | exact (Below.refl _ _).drew | exact Below.drew (by assumption))).mono ?_; rintro e wa ⟨rfl, hba⟩) | (go_at_call 17; refine (Hhc17.out _ (by first | assumption | exact Below.refl _ _ | exact (Below.refl _ _).drew | exact Below.drew (by assumption))).mono ?_; rintro e wa ⟨rfl, hba⟩) | (go_at_call 18; refine (Hhc18.out _ (by first | assumption | exact Below.refl _ _ | exact (Below.refl _ _).drew | exact Below.drew (by assumption))).mono ?_; rintro e wa ⟨rfl, hba⟩) | (go_at_call 19; refine (Hhc19.out _ (by first | assumption | exact Below.refl _ _ | exact (Below.refl _ _).drew | exact Below.drew (by assumption))).mono ?_; rintro e wa ⟨rfl, hba⟩))) | fail
        all_goals
          go_wp2_with fail
          go_ret
          exact ⟨rfl, Hhfin.out _ hba⟩
  · have hsf : (decide (secret.length ≤ 300) && (decide (x.tag.length ≤ 300) && decide (s.length ≤ 300))) = false := by
      rw [Bool.eq_false_iff]; simp; omega
    rw [hsf] at hsh2
    have Hhsh2 := Lib.hid hsh2
    clear hsh2
    refine (Hhsh2.out).mono ?_
    rintro e w1' ⟨rfl, rfl⟩
    have hfin := hBb.trans (HhB1.out.mono (by have := Hhszb.out; omega))
    go_wp2_with fail
    go_ret
    exact ⟨rfl, hfin⟩
theorem Tells_at (secret : ByteArray) (x : Gr) (s : ByteArray) (n : Int) (m : Int) (w : World) (h : AllAt m w) (hx : x.wf) (hsec : secret.size ≤ 9223372036854775807) (htl : x.tag.length ≤ 9223372036854775807) (hsl : s.size ≤ 9223372036854775807) :
    Calls Tryd.prog 3 #[.string secret, x.val, .string s, .int .i64 n] w fun e w' => e = .returned (.bool true) ∧ Below w.heap.size w w' := by
  have := Tells_calls secret.data.toList x s.data.toList n m w h hx (by rw [len_data]; exact hsec) htl (by rw [len_data]; exact hsl)
  rwa [ba_eta, ba_eta] at this
end Go.Proofs.YtibhihobpehpbaaDoor
