/- The walk of GramOrders. -/
import Derived.Test.YtibhihobpehpbaaDoorD10
import Derived.Test.YtibhihobpehpbaaDoorG3
set_option linter.unusedSimpArgs false
set_option linter.unusedVariables false
namespace Go.Proofs.YtibhihobpehpbaaDoor
open Go.RowKit

theorem ofList_toList (l : List UInt8) : (ByteArray.mk l.toArray).toList = l := by rw [ByteArray.toList_eq]
set_option maxRecDepth 100000 in
set_option maxHeartbeats 4000000 in
theorem Orders_calls (x y : Gr) (m : Int) (w : World) (h : AllAt m w) (hx : x.wf) (hy : y.wf) (htx : x.tag.length ≤ 9223372036854775807) (hty : y.tag.length ≤ 9223372036854775807) :
    Calls Tryd.prog 5 #[x.val, y.val] w fun e w' => e = .returned (.bool true) ∧ Below w.heap.size w w' := by
  have hvx : Gr.val x = .agg #[.int .i64 x.g, .int .i64 x.q, .int .i64 x.c, .int .i64 x.v, .string ⟨x.tag.toArray⟩] := rfl
  have hvy : Gr.val y = .agg #[.int .i64 y.g, .int .i64 y.q, .int .i64 y.c, .int .i64 y.v, .string ⟨y.tag.toArray⟩] := rfl
  have h4 := h.2.2.1
  have hst := str_size x.tag
  have hst2 := str_size y.tag
  obtain ⟨wb, hwb⟩ : ∃ wb, wb = (w.alloc (.cells x.cells 23)).alloc (.cells y.cells 23) := ⟨_, rfl⟩
  have hb1 : GrAt wb w.heap.size x := by
    rw [hwb]; unfold GrAt
    rw [Below.heap_alloc _ _ _ (by rw [World.size_alloc]; omega)]
    exact heap_alloc_new w _
  have hb2 : GrAt wb (w.heap.size + 1) y := by
    rw [hwb]
    have := heap_alloc_new (w.alloc (.cells x.cells 23)) (.cells y.cells 23)
    rw [World.size_alloc] at this
    exact this
  have hBb : Below w.heap.size w wb := by rw [hwb]; exact (by ((repeat' (first | exact Below.refl _ _ | (refine Below.alloc ?_ ?_ _) | (refine Below.setCell ?_ ?_ _) | (refine Below.drew ?_) | (refine Below.trans ?_ (Below.mono (by assumption) ?_)))) <;> ((try simp only [World.size_alloc, World.size_setCell, World.size_drew] at *); omega)))
  have hszb : wb.heap.size = w.heap.size + 2 := by rw [hwb, World.size_alloc, World.size_alloc]
  have hall : ∀ wx, Below wb.heap.size wb wx → AllAt m wx := fun wx hx => (h.below hBb h4).below hx (by omega)
  have hk : ∀ wx, Below wb.heap.size wb wx → GrC wx w.heap.size x ∧ GrC wx (w.heap.size + 1) y := fun wx hx => ⟨(hb1.below hx (by omega)).c, (hb2.below hx (by omega)).c⟩
  have hsm := small_calls m wb (hall wb (Below.refl _ _))
  have hsh := short_calls x.tag y.tag []
  rw [hvx, hvy]
  have Hhb1 := Lib.hid hb1
  clear hb1
  have Hhb2 := Lib.hid hb2
  clear hb2
  have Hhszb := Lib.hid hszb
  clear hszb
  have Hhall := Lib.hid hall
  clear hall
  have Hhk := Lib.hid hk
  clear hk
  have Hhsm := Lib.hid hsm
  clear hsm
  have Hhsh := Lib.hid hsh
  clear hsh
  have Hhvx := Lib.hid hvx
  clear hvx
  have Hhvy := Lib.hid hvy
  clear hvy
  have Hhx := Lib.hid hx
  clear hx
  have Hhy := Lib.hid hy
  clear hy
  have Hh := Lib.hid h
  clear h
  go_enter Tryd.func5, Tryd.ntmps5
  go_wp2_with fail
  rw [show (w.alloc (.cells #[.int .i64 x.g, .int .i64 x.q, .int .i64 x.c, .int .i64 x.v, .string ⟨x.tag.toArray⟩] 23)).alloc (.cells #[.int .i64 y.g, .int .i64 y.q, .int .i64 y.c, .int .i64 y.v, .string ⟨y.tag.toArray⟩] 23) = wb from hwb.symm]
  clear hwb
  refine (Hhsm.out).mono ?_
  rintro e w1 ⟨rfl, hB1⟩
  obtain ⟨⟨z0, z1, z2, z3, z4⟩, y0, y1, y2, y3, y4⟩ := Hhk.out _ hB1
  have hs1 := hB1.size
  have HhB1 := Lib.hid hB1
  clear hB1
  go_wp2_with fail
  have hsh2 := Hhsh.out w1 htx hty (by simp)
  by_cases hc : x.tag.length ≤ 300 ∧ y.tag.length ≤ 300
  · obtain ⟨ct, cs⟩ := hc
    rw [show (decide (x.tag.length ≤ 300) && (decide (y.tag.length ≤ 300) && decide (([] : List UInt8).length ≤ 300))) = true by simp [ct, cs]] at hsh2
    have Hhsh2 := Lib.hid hsh2
    clear hsh2
    refine (Hhsh2.out).mono ?_
    rintro e w1' ⟨rfl, rfl⟩
    obtain ⟨S, hS⟩ : ∃ B, B = bytesS x := ⟨_, rfl⟩
    obtain ⟨T, hT⟩ : ∃ B, B = bytesS y := ⟨_, rfl⟩
    have hc18 := Bytes_calls x m w1 (Hhall.out _ HhB1.out) Hhx.out ct
    rw [← hS, Hhvx.out] at hc18
    have Hhc18 := Lib.hid hc18
    clear hc18
    have HhS := Lib.hid hS
    clear hS
    have HhT := Lib.hid hT
    clear hT
    go_wp2_with fail
    refine (Hhc18.out).mono ?_
    rintro e w2 ⟨rfl, hB2⟩
    have hB3 := HhB1.out.trans (hB2.mono hs1)
    have hs2 := hB2.size
    clear z0 z1 z2 z3 z4 y0 y1 y2 y3 y4 hB2
    obtain ⟨⟨z0, z1, z2, z3, z4⟩, y0, y1, y2, y3, y4⟩ := Hhk.out _ hB3
    have hc19 := Bytes_calls y m w2 (Hhall.out _ hB3) Hhy.out cs
    rw [← HhT.out, Hhvy.out] at hc19
    have Hhc19 := Lib.hid hc19
    clear hc19
    have HhB3 := Lib.hid hB3
    clear hB3
    go_wp2_with fail
    refine (Hhc19.out).mono ?_
    rintro e w3 ⟨rfl, hB4⟩
    have hB5 := HhB3.out.trans (hB4.mono HhB3.out.size)
    have hs3 := hB4.size
    have hfin : ∀ wx, Below wb.heap.size wb wx → Below w.heap.size w wx := fun wx hx => hBb.trans (hx.mono (by have := Hhszb.out; omega))
    clear z0 z1 z2 z3 z4 y0 y1 y2 y3 y4 hB4
    obtain ⟨⟨z0, z1, z2, z3, z4⟩, y0, y1, y2, y3, y4⟩ := Hhk.out _ hB5
    have l1 : w.heap.size < w3.heap.size := by have := hB5.size; have := Hhszb.out; omega
    have l2 : w.heap.size + 1 < w3.heap.size := by have := hB5.size; have := Hhszb.out; omega
    cases hox : x.ok
    · have hS0 : S = [] := by rw [HhS.out]; exact bytes_not hox
      have hSe : (ByteArray.mk S.toArray).toList = [] := by rw [hS0, ByteArray.toList_eq]
      have hSi : S.isEmpty = true := by rw [hS0]; rfl
      have HhB5 := Lib.hid hB5
      clear hB5
      have Hhfin := Lib.hid hfin
      clear hfin
      have HhS0 := Lib.hid hS0
      clear hS0
      have Hhox := Lib.hid hox
      clear hox
      go_wp2_with fail
      go_ret
      exact ⟨rfl, Hhfin.out _ HhB5.out⟩
    · have hSn : S ≠ [] := by rw [HhS.out]; exact bytes_ne hox
      have hSe : (ByteArray.mk S.toArray).toList.isEmpty = false := by rw [ByteArray.toList_eq]; simpa using hSn
      have hSi : S.isEmpty = false := by simpa using hSn
      cases hoy : y.ok
      · have hT0 : T = [] := by rw [HhT.out]; exact bytes_not hoy
        have hTe : (ByteArray.mk T.toArray).toList = [] := by rw [hT0, ByteArray.toList_eq]
        have hTi : T.isEmpty = true := by rw [hT0]; rfl
        have HhB5 := Lib.hid hB5
        clear hB5
        have Hhfin := Lib.hid hfin
        clear hfin
        have HhT0 := Lib.hid hT0
        clear hT0
        have Hhox := Lib.hid hox
        clear hox
        have Hhoy := Lib.hid hoy
        clear hoy
        have HhSn := Lib.hid hSn
        clear hSn
        go_wp2_with fail
        go_ret
        exact ⟨rfl, Hhfin.out _ HhB5.out⟩
      · have hTn : T ≠ [] := by rw [HhT.out]; exact bytes_ne hoy
        have hTe : (ByteArray.mk T.toArray).toList.isEmpty = false := by rw [ByteArray.toList_eq]; simpa using hTn
        have hTi : T.isEmpty = false := by simpa using hTn
        have hnum := fun (i : Nat) (hi : i < 4) (he : ∀ j, j < i → numK x j = numK y j) (hne : numK x i ≠ numK y i) => bytes_num hox hoy hi he hne
        have htag := fun (he : ∀ j, j < 4 → numK x j = numK y j) => bytes_tag hox hoy he
        rw [← HhS.out, ← HhT.out] at hnum htag
        have HhB5 := Lib.hid hB5
        clear hB5
        have Hhfin := Lib.hid hfin
        clear hfin
        have Hhox := Lib.hid hox
        clear hox
        have Hhoy := Lib.hid hoy
        clear hoy
        have HhSn := Lib.hid hSn
        clear hSn
        have HhTn := Lib.hid hTn
        clear hTn
        have Hhnum := Lib.hid hnum
        clear hnum
        have Hhtag := Lib.hid htag
        clear htag
        go_wp2_with fail
        generalize hW5 : World.alloc (World.alloc _ _) _ = w5
        have hA5 : w5.heap[w3.heap.size]? = some (.cells #[.int .i64 x.g, .int .i64 x.q, .int .i64 x.c, .int .i64 x.v] 3 (0, 0)) := by
          rw [← hW5, Below.heap_alloc _ _ _ (by rw [World.size_alloc]; omega)]
          exact heap_alloc_new w3 _
        have hC5 : w5.heap[w3.heap.size + 1]? = some (.cells #[.int .i64 y.g, .int .i64 y.q, .int .i64 y.c, .int .i64 y.v] 3 (0, 0)) := by
          rw [← hW5]
          have := heap_alloc_new (w3.alloc (Obj.cells #[.int .i64 x.g, .int .i64 x.q, .int .i64 x.c, .int .i64 x.v] 3)) (Obj.cells #[.int .i64 y.g, .int .i64 y.q, .int .i64 y.c, .int .i64 y.v] 3)
          rw [World.size_alloc] at this
          exact this
        have hs5 : w5.heap.size = w3.heap.size + 2 := by rw [← hW5, World.size_alloc, World.size_alloc]
        have hB35 : Below w3.heap.size w3 w5 := by rw [← hW5]; exact (by ((repeat' (first | exact Below.refl _ _ | (refine Below.alloc ?_ ?_ _) | (refine Below.setCell ?_ ?_ _) | (refine Below.drew ?_) | (refine Below.trans ?_ (Below.mono (by assumption) ?_)))) <;> ((try simp only [World.size_alloc, World.size_setCell, World.size_drew] at *); omega)))
        have hbel5 := HhB5.out.trans (hB35.mono HhB5.out.size)
        clear hW5 hB35 z0 z1 z2 z3 z4 y0 y1 y2 y3 y4
        have hK : ∀ wx, Below w5.heap.size w5 wx → (wx.heap[w3.heap.size]? = some (.cells #[.int .i64 x.g, .int .i64 x.q, .int .i64 x.c, .int .i64 x.v] 3 (0, 0)) ∧ wx.heap[w3.heap.size + 1]? = some (.cells #[.int .i64 y.g, .int .i64 y.q, .int .i64 y.c, .int .i64 y.v] 3 (0, 0))) ∧ GrC wx w.heap.size x ∧ GrC wx (w.heap.size + 1) y := fun wx hx =>
          ⟨⟨by rw [hx.block _ (by omega)]; exact hA5, by rw [hx.block _ (by omega)]; exact hC5⟩, Hhk.out _ (hbel5.trans (hx.mono hbel5.size))⟩
        have hend : ∀ wx, Below w5.heap.size w5 wx → Below w.heap.size w wx := fun wx hx => Hhfin.out _ (hbel5.trans (hx.mono hbel5.size))
        clear hA5 hC5
        have HhK := Lib.hid hK
        clear hK
        have Hhend := Lib.hid hend
        clear hend
        have Hhbel5 := Lib.hid hbel5
        clear hbel5
        have Hhs5 := Lib.hid hs5
        clear hs5
        go_loopw [10] (fun s10 wr => ∃ i : Nat, i ≤ 4 ∧ s10 = .int .i64 i ∧ (∀ j, j < i → numK x j = numK y j) ∧ Below w5.heap.size w5 wr) (fun s10 _ => 4 - (intOf s10).toNat)
        case atStart => exact ⟨0, by omega, rfl, fun j hj => absurd hj (by omega), Below.refl _ _⟩
        case round =>
          obtain ⟨i, hi, rfl, heq, hB⟩ := hrel
          have hcases : i = 0 ∨ i = 1 ∨ i = 2 ∨ i = 3 ∨ i = 4 := by omega
          rcases hcases with rfl | rfl | rfl | rfl | rfl
          · rw [show ((0 : Nat) : Int) = 0 from rfl]
            obtain ⟨⟨rA, rC⟩, -, -⟩ := HhK.out _ hB
            have cA : wr.cell? ⟨w3.heap.size, 0, none⟩ = some (.int .i64 x.g) := by rw [cell_of_row _ _ _ _ _ _ rA]; rfl
            have cC : wr.cell? ⟨w3.heap.size + 1, 0, none⟩ = some (.int .i64 y.g) := by rw [cell_of_row _ _ _ _ _ _ rC]; rfl
            have hn := Hhnum.out 0 (by omega) heq
            clear rA rC
            by_cases he : x.g = y.g
            · have he1 : (x.g != y.g) = false := by simp [he]
              have he2 : (x.g == y.g) = true := by simp [he]
              have heq2 : ∀ j, j < 1 → numK x j = numK y j := by
                intro j hj
                by_cases h1 : j < 0
                · exact heq j h1
                · obtain rfl : j = 0 := by omega
                  exact he
              clear heq hn
              have HhB := Lib.hid hB
              clear hB
              have Hhe := Lib.hid he
              clear he
              have Hheq2 := Lib.hid heq2
              clear heq2
              go_wp2_with fail
              go_quiet (fail)
              go_wp2_with fail
              exact ⟨⟨1, by omega, rfl, Hheq2.out, below_drewN HhB.out _⟩, by simp [intOf]⟩
            · obtain ⟨hl, hne⟩ := hn he
              have he1 : (x.g != y.g) = true := by simp [he]
              have he2 : (x.g == y.g) = false := by simpa using he
              have hne1 : (S == T) = false := by simpa using hne
              have hne2 : (S != T) = true := by simpa using hne
              rw [show numK x 0 = x.g from rfl, show numK y 0 = y.g from rfl] at hl
              by_cases hlt : x.g < y.g
              · rw [decide_eq_true hlt] at hl
                have hlt1 : decide (x.g < y.g) = true := by simp [hlt]
                have HhB := Lib.hid hB
                clear hB
                have Hhe := Lib.hid he
                clear he
                have Hheq := Lib.hid heq
                clear heq
                have Hhne := Lib.hid hne
                clear hne
                have Hhlt := Lib.hid hlt
                clear hlt
                go_wp2_with fail
                go_quiet (fail)
                go_wp2_with fail
                have cA2 : (wr.drewN nq).cell? ⟨w3.heap.size, 0, none⟩ = some (.int .i64 x.g) := cA
                have cC2 : (wr.drewN nq).cell? ⟨w3.heap.size + 1, 0, none⟩ = some (.int .i64 y.g) := cC
                have hB7 := below_drewN HhB.out nq
                clear cA cC
                generalize wr.drewN nq = w7 at *
                have HhB7 := Lib.hid hB7
                clear hB7
                go_quiet (fail)
                go_wp2_with fail
                go_ret
                exact ⟨rfl, Hhend.out _ (below_drewN HhB7.out _)⟩
              · rw [decide_eq_false hlt] at hl
                have hlt1 : decide (x.g < y.g) = false := by simpa using hlt
                have HhB := Lib.hid hB
                clear hB
                have Hhe := Lib.hid he
                clear he
                have Hheq := Lib.hid heq
                clear heq
                have Hhne := Lib.hid hne
                clear hne
                have Hhlt := Lib.hid hlt
                clear hlt
                go_wp2_with fail
                go_quiet (fail)
                go_wp2_with fail
                have cA2 : (wr.drewN nq).cell? ⟨w3.heap.size, 0, none⟩ = some (.int .i64 x.g) := cA
                have cC2 : (wr.drewN nq).cell? ⟨w3.heap.size + 1, 0, none⟩ = some (.int .i64 y.g) := cC
                have hB7 := below_drewN HhB.out nq
                clear cA cC
                generalize wr.drewN nq = w7 at *
                have HhB7 := Lib.hid hB7
                clear hB7
                go_quiet (fail)
                go_wp2_with fail
                go_ret
                exact ⟨rfl, Hhend.out _ (below_drewN HhB7.out _)⟩
          · rw [show ((1 : Nat) : Int) = 1 from rfl]
            obtain ⟨⟨rA, rC⟩, -, -⟩ := HhK.out _ hB
            have cA : wr.cell? ⟨w3.heap.size, 1, none⟩ = some (.int .i64 x.q) := by rw [cell_of_row _ _ _ _ _ _ rA]; rfl
            have cC : wr.cell? ⟨w3.heap.size + 1, 1, none⟩ = some (.int .i64 y.q) := by rw [cell_of_row _ _ _ _ _ _ rC]; rfl
            have hn := Hhnum.out 1 (by omega) heq
            clear rA rC
            by_cases he : x.q = y.q
            · have he1 : (x.q != y.q) = false := by simp [he]
              have he2 : (x.q == y.q) = true := by simp [he]
              have heq2 : ∀ j, j < 2 → numK x j = numK y j := by
                intro j hj
                by_cases h1 : j < 1
                · exact heq j h1
                · obtain rfl : j = 1 := by omega
                  exact he
              clear heq hn
              have HhB := Lib.hid hB
              clear hB
              have Hhe := Lib.hid he
              clear he
              have Hheq2 := Lib.hid heq2
              clear heq2
              go_wp2_with fail
              go_quiet (fail)
              go_wp2_with fail
              exact ⟨⟨2, by omega, rfl, Hheq2.out, below_drewN HhB.out _⟩, by simp [intOf]⟩
            · obtain ⟨hl, hne⟩ := hn he
              have he1 : (x.q != y.q) = true := by simp [he]
              have he2 : (x.q == y.q) = false := by simpa using he
              have hne1 : (S == T) = false := by simpa using hne
              have hne2 : (S != T) = true := by simpa using hne
              rw [show numK x 1 = x.q from rfl, show numK y 1 = y.q from rfl] at hl
              by_cases hlt : x.q < y.q
              · rw [decide_eq_true hlt] at hl
                have hlt1 : decide (x.q < y.q) = true := by simp [hlt]
                have HhB := Lib.hid hB
                clear hB
                have Hhe := Lib.hid he
                clear he
                have Hheq := Lib.hid heq
                clear heq
                have Hhne := Lib.hid hne
                clear hne
                have Hhlt := Lib.hid hlt
                clear hlt
                go_wp2_with fail
                go_quiet (fail)
                go_wp2_with fail
                have cA2 : (wr.drewN nq).cell? ⟨w3.heap.size, 1, none⟩ = some (.int .i64 x.q) := cA
                have cC2 : (wr.drewN nq).cell? ⟨w3.heap.size + 1, 1, none⟩ = some (.int .i64 y.q) := cC
                have hB7 := below_drewN HhB.out nq
                clear cA cC
                generalize wr.drewN nq = w7 at *
                have HhB7 := Lib.hid hB7
                clear hB7
                go_quiet (fail)
                go_wp2_with fail
                go_ret
                exact ⟨rfl, Hhend.out _ (below_drewN HhB7.out _)⟩
              · rw [decide_eq_false hlt] at hl
                have hlt1 : decide (x.q < y.q) = false := by simpa using hlt
                have HhB := Lib.hid hB
                clear hB
                have Hhe := Lib.hid he
                clear he
                have Hheq := Lib.hid heq
                clear heq
                have Hhne := Lib.hid hne
                clear hne
                have Hhlt := Lib.hid hlt
                clear hlt
                go_wp2_with fail
                go_quiet (fail)
                go_wp2_with fail
                have cA2 : (wr.drewN nq).cell? ⟨w3.heap.size, 1, none⟩ = some (.int .i64 x.q) := cA
                have cC2 : (wr.drewN nq).cell? ⟨w3.heap.size + 1, 1, none⟩ = some (.int .i64 y.q) := cC
                have hB7 := below_drewN HhB.out nq
                clear cA cC
                generalize wr.drewN nq = w7 at *
                have HhB7 := Lib.hid hB7
                clear hB7
                go_quiet (fail)
                go_wp2_with fail
                go_ret
                exact ⟨rfl, Hhend.out _ (below_drewN HhB7.out _)⟩
          · rw [show ((2 : Nat) : Int) = 2 from rfl]
            obtain ⟨⟨rA, rC⟩, -, -⟩ := HhK.out _ hB
            have cA : wr.cell? ⟨w3.heap.size, 2, none⟩ = some (.int .i64 x.c) := by rw [cell_of_row _ _ _ _ _ _ rA]; rfl
            have cC : wr.cell? ⟨w3.heap.size + 1, 2, none⟩ = some (.int .i64 y.c) := by rw [cell_of_row _ _ _ _ _ _ rC]; rfl
            have hn := Hhnum.out 2 (by omega) heq
            clear rA rC
            by_cases he : x.c = y.c
            · have he1 : (x.c != y.c) = false := by simp [he]
              have he2 : (x.c == y.c) = true := by simp [he]
              have heq2 : ∀ j, j < 3 → numK x j = numK y j := by
                intro j hj
                by_cases h1 : j < 2
                · exact heq j h1
                · obtain rfl : j = 2 := by omega
                  exact he
              clear heq hn
              have HhB := Lib.hid hB
              clear hB
              have Hhe := Lib.hid he
              clear he
              have Hheq2 := Lib.hid heq2
              clear heq2
              go_wp2_with fail
              go_quiet (fail)
              go_wp2_with fail
              exact ⟨⟨3, by omega, rfl, Hheq2.out, below_drewN HhB.out _⟩, by simp [intOf]⟩
            · obtain ⟨hl, hne⟩ := hn he
              have he1 : (x.c != y.c) = true := by simp [he]
              have he2 : (x.c == y.c) = false := by simpa using he
              have hne1 : (S == T) = false := by simpa using hne
              have hne2 : (S != T) = true := by simpa using hne
              rw [show numK x 2 = x.c from rfl, show numK y 2 = y.c from rfl] at hl
              by_cases hlt : x.c < y.c
              · rw [decide_eq_true hlt] at hl
                have hlt1 : decide (x.c < y.c) = true := by simp [hlt]
                have HhB := Lib.hid hB
                clear hB
                have Hhe := Lib.hid he
                clear he
                have Hheq := Lib.hid heq
                clear heq
                have Hhne := Lib.hid hne
                clear hne
                have Hhlt := Lib.hid hlt
                clear hlt
                go_wp2_with fail
                go_quiet (fail)
                go_wp2_with fail
                have cA2 : (wr.drewN nq).cell? ⟨w3.heap.size, 2, none⟩ = some (.int .i64 x.c) := cA
                have cC2 : (wr.drewN nq).cell? ⟨w3.heap.size + 1, 2, none⟩ = some (.int .i64 y.c) := cC
                have hB7 := below_drewN HhB.out nq
                clear cA cC
                generalize wr.drewN nq = w7 at *
                have HhB7 := Lib.hid hB7
                clear hB7
                go_quiet (fail)
                go_wp2_with fail
                go_ret
                exact ⟨rfl, Hhend.out _ (below_drewN HhB7.out _)⟩
              · rw [decide_eq_false hlt] at hl
                have hlt1 : decide (x.c < y.c) = false := by simpa using hlt
                have HhB := Lib.hid hB
                clear hB
                have Hhe := Lib.hid he
                clear he
                have Hheq := Lib.hid heq
                clear heq
                have Hhne := Lib.hid hne
                clear hne
                have Hhlt := Lib.hid hlt
                clear hlt
                go_wp2_with fail
                go_quiet (fail)
                go_wp2_with fail
                have cA2 : (wr.drewN nq).cell? ⟨w3.heap.size, 2, none⟩ = some (.int .i64 x.c) := cA
                have cC2 : (wr.drewN nq).cell? ⟨w3.heap.size + 1, 2, none⟩ = some (.int .i64 y.c) := cC
                have hB7 := below_drewN HhB.out nq
                clear cA cC
                generalize wr.drewN nq = w7 at *
                have HhB7 := Lib.hid hB7
                clear hB7
                go_quiet (fail)
                go_wp2_with fail
                go_ret
                exact ⟨rfl, Hhend.out _ (below_drewN HhB7.out _)⟩
          · rw [show ((3 : Nat) : Int) = 3 from rfl]
            obtain ⟨⟨rA, rC⟩, -, -⟩ := HhK.out _ hB
            have cA : wr.cell? ⟨w3.heap.size, 3, none⟩ = some (.int .i64 x.v) := by rw [cell_of_row _ _ _ _ _ _ rA]; rfl
            have cC : wr.cell? ⟨w3.heap.size + 1, 3, none⟩ = some (.int .i64 y.v) := by rw [cell_of_row _ _ _ _ _ _ rC]; rfl
            have hn := Hhnum.out 3 (by omega) heq
            clear rA rC
            by_cases he : x.v = y.v
            · have he1 : (x.v != y.v) = false := by simp [he]
              have he2 : (x.v == y.v) = true := by simp [he]
              have heq2 : ∀ j, j < 4 → numK x j = numK y j := by
                intro j hj
                by_cases h1 : j < 3
                · exact heq j h1
                · obtain rfl : j = 3 := by omega
                  exact he
              clear heq hn
              have HhB := Lib.hid hB
              clear hB
              have Hhe := Lib.hid he
              clear he
              have Hheq2 := Lib.hid heq2
              clear heq2
              go_wp2_with fail
              go_quiet (fail)
              go_wp2_with fail
              exact ⟨⟨4, by omega, rfl, Hheq2.out, below_drewN HhB.out _⟩, by simp [intOf]⟩
            · obtain ⟨hl, hne⟩ := hn he
              have he1 : (x.v != y.v) = true := by simp [he]
              have he2 : (x.v == y.v) = false := by simpa using he
              have hne1 : (S == T) = false := by simpa using hne
              have hne2 : (S != T) = true := by simpa using hne
              rw [show numK x 3 = x.v from rfl, show numK y 3 = y.v from rfl] at hl
              by_cases hlt : x.v < y.v
              · rw [decide_eq_true hlt] at hl
                have hlt1 : decide (x.v < y.v) = true := by simp [hlt]
                have HhB := Lib.hid hB
                clear hB
                have Hhe := Lib.hid he
                clear he
                have Hheq := Lib.hid heq
                clear heq
                have Hhne := Lib.hid hne
                clear hne
                have Hhlt := Lib.hid hlt
                clear hlt
                go_wp2_with fail
                go_quiet (fail)
                go_wp2_with fail
                have cA2 : (wr.drewN nq).cell? ⟨w3.heap.size, 3, none⟩ = some (.int .i64 x.v) := cA
                have cC2 : (wr.drewN nq).cell? ⟨w3.heap.size + 1, 3, none⟩ = some (.int .i64 y.v) := cC
                have hB7 := below_drewN HhB.out nq
                clear cA cC
                generalize wr.drewN nq = w7 at *
                have HhB7 := Lib.hid hB7
                clear hB7
                go_quiet (fail)
                go_wp2_with fail
                go_ret
                exact ⟨rfl, Hhend.out _ (below_drewN HhB7.out _)⟩
              · rw [decide_eq_false hlt] at hl
                have hlt1 : decide (x.v < y.v) = false := by simpa using hlt
                have HhB := Lib.hid hB
                clear hB
                have Hhe := Lib.hid he
                clear he
                have Hheq := Lib.hid heq
                clear heq
                have Hhne := Lib.hid hne
                clear hne
                have Hhlt := Lib.hid hlt
                clear hlt
                go_wp2_with fail
                go_quiet (fail)
                go_wp2_with fail
                have cA2 : (wr.drewN nq).cell? ⟨w3.heap.size, 3, none⟩ = some (.int .i64 x.v) := cA
                have cC2 : (wr.drewN nq).cell? ⟨w3.heap.size + 1, 3, none⟩ = some (.int .i64 y.v) := cC
                have hB7 := below_drewN HhB.out nq
                clear cA cC
                generalize wr.drewN nq = w7 at *
                have HhB7 := Lib.hid hB7
                clear hB7
                go_quiet (fail)
                go_wp2_with fail
                go_ret
                exact ⟨rfl, Hhend.out _ (below_drewN HhB7.out _)⟩
          · rw [show ((4 : Nat) : Int) = 4 from rfl]
            obtain ⟨-, ⟨z0, z1, z2, z3, z4⟩, y0, y1, y2, y3, y4⟩ := HhK.out _ hB
            obtain ⟨h1, h2⟩ := Hhtag.out heq
            obtain ⟨L, hL⟩ : ∃ L, L = Op.bytesLess x.tag y.tag := ⟨_, rfl⟩
            obtain ⟨E, hE⟩ : ∃ E, E = decide (x = y) := ⟨_, rfl⟩
            have hq := equal23 x y
            rw [← hE] at hq h2
            have hL2 : Op.bytesLess x.tag y.tag = L := hL.symm
            rw [← hL] at h1
            have hst1 : (S == T) = E := by rw [← h2, Bool.eq_iff_iff]; simp
            have hbl1 : Op.bytesLess (ByteArray.mk S.toArray).toList (ByteArray.mk T.toArray).toList = L := by rw [ofList_toList, ofList_toList]; exact h1
            have hbl2 : Op.bytesLess (ByteArray.mk x.tag.toArray).toList (ByteArray.mk y.tag.toArray).toList = L := by rw [ofList_toList, ofList_toList]; exact hL2
            have hst2' : ((ByteArray.mk S.toArray).toList == (ByteArray.mk T.toArray).toList) = E := by rw [ofList_toList, ofList_toList]; exact hst1
            have hend2 := Hhend.out _ hB
            clear hL hE h2
            have Hheq := Lib.hid heq
            clear heq
            have HhB := Lib.hid hB
            clear hB
            have Hhend2 := Lib.hid hend2
            clear hend2
            go_wp2_with fail
            go_ret
            exact ⟨rfl, Hhend2.out⟩
  · have hsf : (decide (x.tag.length ≤ 300) && (decide (y.tag.length ≤ 300) && decide (([] : List UInt8).length ≤ 300))) = false := by
      rw [Bool.eq_false_iff]; simp; omega
    rw [hsf] at hsh2
    have Hhsh2 := Lib.hid hsh2
    clear hsh2
    refine (Hhsh2.out).mono ?_
    rintro e w1' ⟨rfl, rfl⟩
    have hfin := hBb.trans (HhB1.out.mono (by have := Hhszb.out; omega))
    go_wp2_with fail
    go_ret
    exact ⟨rfl, hfin⟩
end Go.Proofs.YtibhihobpehpbaaDoor
