/- GramFrames: walk. -/
import Derived.Test.YtibhihobpehpbaaDoorF10
set_option linter.unusedSimpArgs false
set_option linter.unusedVariables false
namespace Go.Proofs.YtibhihobpehpbaaDoor
open Go.RowKit

theorem own_open' {w : World} {base size : Nat} {e : TypeId} {v : Value} {n : Nat} {xs : List Value} (h : w.ownsRow base e size v n xs) : ∃ oa cap, v = .slice oa n cap := by
  rcases h.2 with ⟨rfl, rfl⟩ | ⟨g, cap, cur, rfl, _⟩
  · exact ⟨_, _, rfl⟩
  · exact ⟨_, _, rfl⟩
theorem grcells_snoc (l : List Gr) (x : Gr) : grcells (l ++ [x]) = grcells l ++ x.cells.toList := by simp [grcells, List.flatMap_append]
theorem gr_new (w : World) (x : Gr) : GrC (w.alloc (.cells #[.int .i64 x.g, .int .i64 x.q, .int .i64 x.c, .int .i64 x.v, .string ⟨x.tag.toArray⟩] 23)) w.heap.size x :=
  (show GrAt (w.alloc (.cells #[.int .i64 x.g, .int .i64 x.q, .int .i64 x.c, .int .i64 x.v, .string ⟨x.tag.toArray⟩] 23)) w.heap.size x from heap_alloc_new w _).c
set_option maxRecDepth 100000 in
set_option maxHeartbeats 8000000 in
theorem Frames_calls (secret : List UInt8) (v : Value) (l : List Gr) (cut : Int) (m : Int) (w : World) (h : AllAt m w) (hl : GrsAt w v l) (hsl : secret.length ≤ 9223372036854775807) :
    Calls Tryd.prog 7 #[.string ⟨secret.toArray⟩, v, .int .i64 cut] w fun e w' => e = .returned (.bool true) ∧ Below w.heap.size w w' := by
  have h4 := h.2.2.1
  have hss := str_size secret
  have hall : ∀ wx, Below w.heap.size w wx → AllAt m wx := fun wx hx => h.below hx h4
  have hl0 := hl
  obtain ⟨oa, cap, rfl, hmx, hwf, hc⟩ := hl
  clear hc
  have hsm := small_calls m w h
  have hsh := short_calls secret [] []
  have Hhall := Lib.hid hall
  clear hall
  have Hhl0 := Lib.hid hl0
  clear hl0
  have Hhsm := Lib.hid hsm
  clear hsm
  have Hhsh := Lib.hid hsh
  clear hsh
  have Hhwf := Lib.hid hwf
  clear hwf
  have Hh := Lib.hid h
  clear h
  go_enter Tryd.func7, Tryd.ntmps7
  go_wp2_with fail
  refine (Hhsm.out).mono ?_
  rintro e w1 ⟨rfl, hB1⟩
  have hs1 := hB1.size
  have HhB1 := Lib.hid hB1
  clear hB1
  go_wp2_with fail
  have hsh2 := Hhsh.out w1 hsl (by simp) (by simp)
  by_cases hc1 : secret.length ≤ 300
  · rw [show (decide (secret.length ≤ 300) && (decide (([] : List UInt8).length ≤ 300) && decide (([] : List UInt8).length ≤ 300))) = true by simp [hc1]] at hsh2
    have Hhsh2 := Lib.hid hsh2
    clear hsh2
    refine (Hhsh2.out).mono ?_
    rintro e w1' ⟨rfl, rfl⟩
    by_cases hc2 : l.length ≤ 10
    · go_wp2_with fail
      go_loopw [8, 9, 10, 11, 12] (fun s8 s9 s10 _ _ wr => ∃ i : Nat, i ≤ l.length ∧ s10 = .int .i64 i ∧ s8 = .string ⟨(streamG secret (l.take i)).toArray⟩ ∧ wr.ownsRow w1.heap.size 23 5 s9 (wantG secret (l.take i)).length (grcells (wantG secret (l.take i))) ∧ Below w1.heap.size w1 wr) (fun _ _ s10 _ _ _ => l.length + 1 - (intOf s10).toNat)
      case atStart => exact ⟨0, by omega, rfl, rfl, World.ownsRow_nil _ _ _ _, Below.refl _ _⟩
      case round =>
        obtain ⟨i, hi, rfl, rfl, hown, hB2⟩ := hrel
        have hs2 := hB2.size
        obtain ⟨oa9, cap9, rfl⟩ := own_open' hown
        have hbel2 : Below w.heap.size w wr := HhB1.out.trans (hB2.mono hs1)
        have hBw1 := hB2
        clear hB2
        have hwl := wantG_len secret (l.take i)
        rw [List.length_take, Nat.min_eq_left hi] at hwl
        have hstl := streamG_len secret (l.take i)
        rw [List.length_take, Nat.min_eq_left hi] at hstl
        by_cases hlt : i < l.length
        · obtain ⟨b1, off1, rfl, hb1, hrow⟩ := Hhl0.out.at' hlt
          have hxw := Hhwf.out _ (List.getElem_mem hlt)
          have htk : l.take (i + 1) = l.take i ++ [l[i]] := by rw [List.take_add_one, List.getElem?_eq_getElem hlt]; rfl
          generalize l[i] = x at *
          obtain ⟨z0, z1, z2, z3, z4⟩ := hrow.below hbel2 hb1
          obtain ⟨T, hT⟩ : ∃ T, T = tagS secret x := ⟨_, rfl⟩
          have hsX : sealS secret x = { x with tag := T } := by rw [sealS, hT]
          have hc12 : Calls Tryd.prog 12 #[.string ⟨secret.toArray⟩, .agg #[.int .i64 x.g, .int .i64 x.q, .int .i64 x.c, .int .i64 x.v, .string ⟨x.tag.toArray⟩]] wr fun e w' => e = .returned (.agg #[.int .i64 x.g, .int .i64 x.q, .int .i64 x.c, .int .i64 x.v, .string ⟨T.toArray⟩]) ∧ Below wr.heap.size wr w' := by
            have h1 := Seal_calls secret x m wr (Hhall.out _ hbel2) hxw hc1
            rw [hsX] at h1
            exact h1
          clear hrow hT
          have Hhown := Lib.hid hown
          clear hown
          have Hhc12 := Lib.hid hc12
          clear hc12
          have HhsX := Lib.hid hsX
          clear hsX
          have Hhtk := Lib.hid htk
          clear htk
          have Hhxw := Lib.hid hxw
          clear hxw
          have HhBw1 := Lib.hid hBw1
          clear hBw1
          go_wp2_with fail
          refine (Hhc12.out).mono ?_
          rintro e w2 ⟨rfl, hB3⟩
          have hs3 := hB3.size
          have hbel3 : Below w.heap.size w w2 := hbel2.trans (hB3.mono hbel2.size)
          have hB3r : Below wr.heap.size wr w2 := hB3
          clear hB3 z0 z1 z2 z3 z4
          have HhB3r := Lib.hid hB3r
          clear hB3r
          have Hhbel3 := Lib.hid hbel3
          clear hbel3
          go_wp2_with fail
          generalize hW3 : World.alloc _ _ = w3
          have hX3 : GrAt w3 w2.heap.size { x with tag := T } := by rw [← hW3]; exact heap_alloc_new w2 _
          have hs4 : w3.heap.size = w2.heap.size + 1 := by rw [← hW3, World.size_alloc]
          have hB23 : Below w2.heap.size w2 w3 := by rw [← hW3]; exact (by ((repeat' (first | exact Below.refl _ _ | (refine Below.alloc ?_ ?_ _) | (refine Below.setCell ?_ ?_ _) | (refine Below.drew ?_) | (refine Below.trans ?_ (Below.mono (by assumption) ?_)))) <;> ((try simp only [World.size_alloc, World.size_setCell, World.size_drew] at *); omega)))
          have hbel4 := Hhbel3.out.trans (hB23.mono Hhbel3.out.size)
          have hBr4 := HhB3r.out.trans (hB23.mono hs3)
          clear hW3 hB23
          obtain ⟨b6, hb6⟩ : ∃ b, b = w2.heap.size := ⟨_, rfl⟩
          rw [← hb6] at hX3 hs4 ⊢
          have hb6l : b6 < w3.heap.size := by omega
          have hwb6 : wr.heap.size ≤ b6 := by omega
          clear hb6 hs3
          obtain ⟨B, hB⟩ : ∃ B, B = bytesS (sealS secret x) := ⟨_, rfl⟩
          have hc18 : Calls Tryd.prog 18 #[.agg #[.int .i64 x.g, .int .i64 x.q, .int .i64 x.c, .int .i64 x.v, .string ⟨T.toArray⟩]] w3 fun e w' => e = .returned (.string ⟨B.toArray⟩) ∧ Below w3.heap.size w3 w' := by
            have h1 := Bytes_calls (sealS secret x) m w3 (Hhall.out _ hbel4) (seal_wf Hhxw.out) (by rw [show (sealS secret x).tag.length = 8 from tagS_len secret x]; omega)
            rw [← hB, HhsX.out] at h1
            exact h1
          have HhX3 := Lib.hid hX3
          clear hX3
          have Hhbel4 := Lib.hid hbel4
          clear hbel4
          have HhBr4 := Lib.hid hBr4
          clear hBr4
          have Hhc18 := Lib.hid hc18
          clear hc18
          refine (Hhc18.out).mono ?_
          rintro e w4 ⟨rfl, hB5⟩
          have hs5 := hB5.size
          have hbel5 := Hhbel4.out.trans (hB5.mono Hhbel4.out.size)
          have hBr5 := HhBr4.out.trans (hB5.mono (by omega))
          have hX4 : GrAt w4 b6 { x with tag := T } := HhX3.out.below hB5 hb6l
          clear hB5
          have Hhbel5 := Lib.hid hbel5
          clear hbel5
          have HhBr5 := Lib.hid hBr5
          clear hBr5
          have HhX4 := Lib.hid hX4
          clear hX4
          cases hok : (sealS secret x).ok
          · have hB0 : B = [] := by rw [hB]; exact bytes_not hok
            have hBe : (ByteArray.mk B.toArray).toList = [] := by rw [hB0, ByteArray.toList_eq]
            have hBe2 : (!(ByteArray.mk B.toArray).toList.isEmpty) = false := by rw [hBe]; rfl
            have hBi : B.isEmpty = true := by rw [hB0]; rfl
            have hw9 := wantG_no (l := l.take i) hok
            have hs9 := streamG_no (l := l.take i) hok
            rw [← Hhtk.out] at hw9 hs9
            have hownN := ownsRow_below Hhown.out HhBr5.out (Nat.le_refl _)
            have hend : Below w1.heap.size w1 w4 := HhBw1.out.trans (HhBr5.out.mono hs2)
            clear hB hok
            have Hhw9 := Lib.hid hw9
            clear hw9
            have Hhs9 := Lib.hid hs9
            clear hs9
            have HhB0 := Lib.hid hB0
            clear hB0
            have HhownN := Lib.hid hownN
            clear hownN
            have Hhend := Lib.hid hend
            clear hend
            go_wp2_with fail
            refine ⟨⟨i + 1, by omega, by go_num, by rw [Hhs9.out], by rw [Hhw9.out]; exact HhownN.out, Hhend.out⟩, by simp [intOf]; omega⟩
          · have hBne : B ≠ [] := by rw [hB]; exact bytes_ne hok
            have hBl : B.length ≤ 54 := by rw [hB]; exact bytes_len54 hok
            have hBe2 : (!(ByteArray.mk B.toArray).toList.isEmpty) = true := by
              rw [ByteArray.toList_eq]; cases B with
              | nil => exact absurd rfl hBne
              | cons c t => rfl
            have hBi : B.isEmpty = false := by cases B with
              | nil => exact absurd rfl hBne
              | cons c t => rfl
            have hw9 := wantG_yes (l := l.take i) hok
            have hs9 := streamG_yes (l := l.take i) hok
            rw [← Hhtk.out] at hw9 hs9
            rw [← hB] at hs9
            have hownN := ownsRow_below Hhown.out HhBr5.out (Nat.le_refl _)
            have hend : Below w1.heap.size w1 w4 := HhBw1.out.trans (HhBr5.out.mono hs2)
            have hX4c : GrC w4 b6 { x with tag := T } := HhX4.out.c
            obtain ⟨y0, y1, y2, y3, y4⟩ := hX4c
            have hb6l4 : b6 < w4.heap.size := by omega
            obtain ⟨E, hE⟩ : ∃ E, E = encode B := ⟨_, rfl⟩
            have hEl : E.length ≤ 2050 := by rw [hE]; exact encode_len B
            generalize hS : streamG secret (l.take i) = S at *
            have hcat := cat_run S E (by omega)
            have hSE : streamG secret (l.take (i + 1)) = S ++ E := by rw [hs9, hE]
            generalize S ++ E = SE at *
            generalize hWG : wantG secret (l.take i) = WG at *
            have hs1w4 := hend.size
            clear hB hok hBne hs9 hS hWG
            have Hhw9 := Lib.hid hw9
            clear hw9
            have HhownN := Lib.hid hownN
            clear hownN
            have Hhend := Lib.hid hend
            clear hend
            have HhE := Lib.hid hE
            clear hE
            have HhSE := Lib.hid hSE
            clear hSE
            go_wp2_with (at_builtin; (refine append_gr rfl _ _ rfl w1.heap.size (.slice oa9 WG.length cap9) WG.length (grcells WG) rfl (HhownN.out.alloc _) w4.heap.size ({ x with tag := T } : Gr) rfl (gr_new w4 ({ x with tag := T } : Gr)) (by omega) (by rw [World.size_alloc]; omega) ?_))
            intro v5 w5 hown5 _ hB6
            have hs6 := hB6.size
            simp only [World.size_alloc] at hs6
            have hend4 := Hhend.out
            have hB45 : Below w1.heap.size w1 w5 := Below.trans (by first | exact Below.alloc hend4 (by omega) _ | exact Below.alloc hend4 _ _) hB6
            have hbel6 : Below w.heap.size w w5 := HhB1.out.trans (hB45.mono hs1)
            have hm5 : MaxAt m w5 := ⟨(Hhall.out _ hbel6).2.2.2, (Hhall.out _ hbel6).2.2.1⟩
            obtain ⟨oa5, cap5, rfl⟩ := own_open' hown5
            have hs16 := hB45.size
            rw [show grcells WG ++ (Gr.cells ({ x with tag := T } : Gr)).toList = grcells (WG ++ [sealS secret x]) by rw [HhsX.out, grcells_snoc], show WG.length + 1 = (WG ++ [sealS secret x]).length by simp, ← Hhw9.out] at hown5
            clear hB6 hend4
            have Hhown5 := Lib.hid hown5
            clear hown5
            have HhB45 := Lib.hid hB45
            clear hB45
            have Hhbel6 := Lib.hid hbel6
            clear hbel6
            have Hhm5 := Lib.hid hm5
            clear hm5
            go_wp2_with fail
            refine (encode_calls B m w5 Hhm5.out (by omega)).mono ?_
            rintro e w6 ⟨rfl, hB7⟩
            rw [← HhE.out]
            have hown6 := ownsRow_below Hhown5.out hB7 (Nat.le_refl _)
            have hB46 : Below w1.heap.size w1 w6 := HhB45.out.trans (hB7.mono hs16)
            clear hB7
            have Hhown6 := Lib.hid hown6
            clear hown6
            have HhB46 := Lib.hid hB46
            clear hB46
            go_wp2_with fail
            refine ⟨⟨i + 1, by omega, by go_num, by rw [HhSE.out], by have hfin := Hhown6.out; rw [Hhw9.out, List.length_append] at hfin ⊢; exact hfin, HhB46.out⟩, by simp [intOf]; omega⟩
        · obtain rfl : i = l.length := by omega
          rw [List.take_length] at hown hwl hstl ⊢
          obtain ⟨S, hS⟩ : ∃ S, S = streamG secret l := ⟨_, rfl⟩
          obtain ⟨WG, hWG⟩ : ∃ S, S = wantG secret l := ⟨_, rfl⟩
          have hSs := str_size S
          have hfr := fun c => frames_all secret l c
          have hmem : ∀ x ∈ WG, x.wf ∧ readS (bytesS x) = (x, true) ∧ genS secret x = true ∧ (bytesS x).length ≤ 54 := fun x hx => by
            rw [hWG] at hx
            exact ⟨Gr.ok_wf (want_mem hx).1, read_want hx, gen_want hx, bytes_len54 (want_mem hx).1⟩
          rw [← hS] at hstl ⊢
          rw [← hWG] at hown hwl ⊢
          rw [← hS, ← hWG] at hfr
          have hSl : S.length ≤ 20500 := by omega
          clear hS hWG hstl
          have hgr : GrsAt wr (.slice oa9 WG.length cap9) WG := GrsAt.of_owned hown (fun x hx => (hmem x hx).1) (by omega)
          clear hown hBw1
          have Hhgr := Lib.hid hgr
          clear hgr
          have Hhmem := Lib.hid hmem
          clear hmem
          have Hhfr := Lib.hid hfr
          clear hfr
          by_cases hcut : 0 ≤ cut ∧ cut ≤ S.length
          · obtain ⟨hcu0, hcu1⟩ := hcut
            obtain ⟨c, rfl⟩ : ∃ c : Nat, cut = c := ⟨cut.toNat, by omega⟩
            have hcl : c ≤ S.length := by omega
            have hx1 := ex_mid S 0 c
            have hx2 := ex_mid S c S.length
            rw [List.drop_zero] at hx1
            rw [List.take_length] at hx2
            obtain ⟨A, hA⟩ : ∃ A, A = S.take c := ⟨_, rfl⟩
            obtain ⟨D, hD⟩ : ∃ A, A = S.drop c := ⟨_, rfl⟩
            have hal := Hhfr.out c
            rw [← hA, ← hD] at hal
            rw [← hA] at hx1
            rw [← hD] at hx2
            have hAl : A.length ≤ 20500 := by rw [hA, List.length_take]; omega
            have hDl : D.length ≤ 20500 := by rw [hD, List.length_drop]; omega
            have hrl := rest_len A
            have hp1 := pays_len A
            obtain ⟨R, hR⟩ : ∃ Y, Y = restV (cur A) := ⟨_, rfl⟩
            rw [← hR] at hal hrl
            have hcat := cat_run R D (by omega)
            have hp2 := pays_len (R ++ D)
            have hRDl : (R ++ D).length ≤ 30000 := by rw [List.length_append]; omega
            obtain ⟨RD, hRD⟩ : ∃ A, A = R ++ D := ⟨_, rfl⟩
            rw [← hRD] at hal hcat hp2 hRDl
            clear hA hD hRD
            have hm2 : MaxAt m wr := ⟨(Hhall.out _ hbel2).2.2.2, (Hhall.out _ hbel2).2.2.1⟩
            have Hhal := Lib.hid hal
            clear hal
            have HhR := Lib.hid hR
            clear hR
            have Hhm2 := Lib.hid hm2
            clear hm2
            go_wp2_with fail
            refine (decode_calls A m wr Hhm2.out (by omega)).mono ?_
            rintro e w2 ⟨v13, rfl, hown13, hB3⟩
            rw [← HhR.out]
            have hs3 := hB3.size
            have hbel3 := hbel2.trans (hB3.mono hbel2.size)
            have hm3 : MaxAt m w2 := ⟨(Hhall.out _ hbel3).2.2.2, (Hhall.out _ hbel3).2.2.1⟩
            obtain ⟨oa13, cap13, rfl⟩ := own_open hown13
            have hgr3 := Hhgr.out.below hB3 (Nat.le_refl _)
            clear hB3
            have Hhown13 := Lib.hid hown13
            clear hown13
            have Hhm3 := Lib.hid hm3
            clear hm3
            have Hhgr3 := Lib.hid hgr3
            clear hgr3
            have Hhbel3 := Lib.hid hbel3
            clear hbel3
            go_wp2_with fail
            refine (decode_calls RD m w2 Hhm3.out (by omega)).mono ?_
            rintro e w3 ⟨v15, rfl, hown15, hB4⟩
            have hs4 := hB4.size
            have hbel4 := Hhbel3.out.trans (hB4.mono Hhbel3.out.size)
            obtain ⟨oa15, cap15, rfl⟩ := own_open hown15
            have hgr4 := Hhgr3.out.below hB4 (Nat.le_refl _)
            have hown13b := ownsRow_below Hhown13.out hB4 (Nat.le_refl _)
            clear hB4
            obtain ⟨PA, hPA⟩ : ∃ Y, Y = pays A := ⟨_, rfl⟩
            obtain ⟨PB, hPB⟩ : ∃ A, A = pays RD := ⟨_, rfl⟩
            have hal2 := Hhal.out
            rw [← hPA, ← hPB] at hal2
            rw [← hPA] at hown13b hp1 ⊢
            rw [← hPB] at hown15 hp2 ⊢
            clear hPA hPB
            have Hhown13b := Lib.hid hown13b
            clear hown13b
            have Hhown15 := Lib.hid hown15
            clear hown15
            have Hhgr4 := Lib.hid hgr4
            clear hgr4
            have Hhbel4 := Lib.hid hbel4
            clear hbel4
            have Hhal2 := Lib.hid hal2
            clear hal2
            go_wp2_with (at_builtin; refine append_strs rfl _ _ rfl w3.heap.size (.slice (some ⟨w3.heap.size, 0, none⟩) 0 0) 0 [] rfl (World.ownsRow_made w3 #[] 0 (Nat.le_refl _) (by decide) rfl) wr.heap.size (.slice oa13 PA.length cap13) PA.length PA rfl (Hhown13b.out.alloc _) (by omega) (by rw [World.size_alloc]; omega) ?_)
            intro v5 w5 hown5 _ hB5
            have hs5 := hB5.size
            simp only [World.size_alloc] at hs5
            have hB35 : Below w3.heap.size w3 w5 := Below.trans (Below.alloc (Below.refl _ _) (Nat.le_refl _) _) hB5
            obtain ⟨oa5, cap5, rfl⟩ := own_open hown5
            have hgr5 := Hhgr4.out.below hB35 (Nat.le_refl _)
            have hown15b := ownsRow_below Hhown15.out hB35 (Nat.le_refl _)
            have hbel5 := Hhbel4.out.trans (hB35.mono Hhbel4.out.size)
            have hbel35 := hB35
            clear hB5 hB35
            have Hhown5 := Lib.hid hown5
            clear hown5
            have Hhown15b := Lib.hid hown15b
            clear hown15b
            have Hhgr5 := Lib.hid hgr5
            clear hgr5
            have Hhbel5 := Lib.hid hbel5
            clear hbel5
            have Hhbel35 := Lib.hid hbel35
            clear hbel35
            go_wp2_with (at_builtin; refine append_strs rfl _ _ rfl w3.heap.size (.slice oa5 PA.length cap5) PA.length (PA.map strV) rfl Hhown5.out w2.heap.size (.slice oa15 PB.length cap15) PB.length PB rfl Hhown15b.out (by omega) (by omega) ?_)
            intro v6 w6 hown6 hgrow6 hB6
            have hs6 := hB6.size
            have hgr6 : GrsAt w6 (.slice oa9 WG.length cap9) WG := Hhgr4.out.below ((Hhbel35.out).trans hB6) (Nat.le_refl _)
            have hbel6 := Hhbel4.out.trans ((Hhbel35.out.trans hB6).mono Hhbel4.out.size)
            rw [← List.map_append, ← List.length_append, Hhal2.out, List.length_map] at hown6
            obtain ⟨oa6, cap6, rfl⟩ := own_open hown6
            have hS17 : StrsAt w6 (.slice oa6 WG.length cap6) ((WG.map bytesS).map bytesOf) := by
              have := StrsAt.of_owned (l := WG.map bytesS) (by rw [List.length_map]; exact hown6) (fun p hp => by rw [List.mem_map] at hp; obtain ⟨x, hx, rfl⟩ := hp; have := (Hhmem.out x hx).2.2.2; omega) (by rw [List.length_map]; omega)
              exact this
            clear hown6 hgrow6 hB6
            have HhS17 := Lib.hid hS17
            clear hS17
            have Hhgr6 := Lib.hid hgr6
            clear hgr6
            have Hhbel6 := Lib.hid hbel6
            clear hbel6
            go_wp2_with fail
            go_loopw [18, 19, 20] (fun s18 _ _ wq => ∃ k : Nat, k ≤ WG.length ∧ s18 = .int .i64 k ∧ Below w6.heap.size w6 wq) (fun s18 _ _ _ => WG.length + 1 - (intOf s18).toNat)
            case atStart => exact ⟨0, by omega, rfl, Below.refl _ _⟩
            case round =>
              obtain ⟨k, hk, rfl, hB7⟩ := hrel
              have hs7 := hB7.size
              have hbel7 := Hhbel6.out.trans (hB7.mono Hhbel6.out.size)
              by_cases hlt : k < WG.length
              · obtain ⟨-, b1, off1, rfl, hb1, cS⟩ := (StrsAt.at' HhS17.out (k := k) (by simp; exact hlt))
                obtain ⟨b2, off2, rfl, hb2, hrow⟩ := (Hhgr6.out.at' hlt)
                have cS' := (hB7.cell (p := ⟨b1, off1 + k, none⟩) hb1).trans cS
                rw [List.getElem_map, List.getElem_map] at cS'
                have hrow' := hrow.below hB7 hb2
                obtain ⟨hyw, hyr, hyg, hyl⟩ := Hhmem.out _ (List.getElem_mem hlt)
                generalize WG[k] = y at *
                have cS2 : wr.cell? ⟨b1, off1 + k, none⟩ = some (.string ⟨(bytesS y).toArray⟩) := cS'
                clear cS cS' hrow
                obtain ⟨Bk, hBk⟩ : ∃ A, A = bytesS y := ⟨_, rfl⟩
                rw [← hBk] at cS2 hyr hyl
                have hb2q : b2 < wr.heap.size := by omega
                have hc10 : Calls Tryd.prog 10 #[.string ⟨Bk.toArray⟩] wr fun e w' => e = .returned (.tuple #[.agg #[.int .i64 y.g, .int .i64 y.q, .int .i64 y.c, .int .i64 y.v, .string ⟨y.tag.toArray⟩], .bool true]) ∧ Below wr.heap.size wr w' := by
                  have h1 := Read_calls Bk wr (Hhall.out _ hbel7).2.1 (by omega)
                  rw [hyr] at h1
                  exact h1
                have hbel7b := hB7
                clear hB7 hyr hBk
                have Hhc10 := Lib.hid hc10
                clear hc10
                have Hhbel7 := Lib.hid hbel7
                clear hbel7
                have Hhbel7b := Lib.hid hbel7b
                clear hbel7b
                have Hhrow' := Lib.hid hrow'
                clear hrow'
                have Hhyw := Lib.hid hyw
                clear hyw
                have Hhyg := Lib.hid hyg
                clear hyg
                go_wp2_with fail
                refine (Hhc10.out).mono ?_
                rintro e w8 ⟨rfl, hB8⟩
                have hs8 := hB8.size
                have hbel8 := Hhbel7.out.trans (hB8.mono Hhbel7.out.size)
                have hbel8b := Hhbel7b.out.trans (hB8.mono (by omega))
                have hrow8 := Hhrow'.out.below hB8 hb2q
                clear hB8
                have Hhbel8 := Lib.hid hbel8
                clear hbel8
                have Hhbel8b := Lib.hid hbel8b
                clear hbel8b
                have Hhrow8 := Lib.hid hrow8
                clear hrow8
                go_wp2_with fail
                generalize hW9 : World.alloc _ _ = w9
                have hY9 : GrAt w9 w8.heap.size y := by rw [← hW9]; exact heap_alloc_new w8 _
                have hs9 : w9.heap.size = w8.heap.size + 1 := by rw [← hW9, World.size_alloc]
                have hB89 : Below w8.heap.size w8 w9 := by rw [← hW9]; exact (by ((repeat' (first | exact Below.refl _ _ | (refine Below.alloc ?_ ?_ _) | (refine Below.setCell ?_ ?_ _) | (refine Below.drew ?_) | (refine Below.trans ?_ (Below.mono (by assumption) ?_)))) <;> ((try simp only [World.size_alloc, World.size_setCell, World.size_drew] at *); omega)))
                have hbel9 := Hhbel8.out.trans (hB89.mono Hhbel8.out.size)
                have hbel9b : Below w6.heap.size w6 w9 := Hhbel8b.out.trans (hB89.mono (by omega))
                have hrow9 := Hhrow8.out.below hB89 (by omega)
                clear hW9 hB89
                obtain ⟨b9, hb9⟩ : ∃ b, b = w8.heap.size := ⟨_, rfl⟩
                rw [← hb9] at hY9 hs9 ⊢
                have hb9l : b9 < w9.heap.size := by omega
                have hb2l : b2 < w9.heap.size := by omega
                clear hb9
                have hK : ∀ wx, Below w9.heap.size w9 wx → (wx.cell? ⟨b9, 0, none⟩ = some (.int .i64 y.g) ∧ wx.cell? ⟨b9, 1, none⟩ = some (.int .i64 y.q) ∧ wx.cell? ⟨b9, 2, none⟩ = some (.int .i64 y.c) ∧ wx.cell? ⟨b9, 3, none⟩ = some (.int .i64 y.v) ∧ wx.cell? ⟨b9, 4, none⟩ = some (.string ⟨y.tag.toArray⟩)) ∧ (wx.cell? ⟨b2, off2 + k * 5, none⟩ = some (.int .i64 y.g) ∧ wx.cell? ⟨b2, off2 + k * 5 + 1, none⟩ = some (.int .i64 y.q) ∧ wx.cell? ⟨b2, off2 + k * 5 + 2, none⟩ = some (.int .i64 y.c) ∧ wx.cell? ⟨b2, off2 + k * 5 + 3, none⟩ = some (.int .i64 y.v) ∧ wx.cell? ⟨b2, off2 + k * 5 + 4, none⟩ = some (.string ⟨y.tag.toArray⟩)) := fun wx hx =>
                  ⟨(hY9.below hx hb9l).c, hrow9.below hx hb2l⟩
                have hc14 : ∀ wx, Below w9.heap.size w9 wx → Calls Tryd.prog 14 #[.string ⟨secret.toArray⟩, .agg #[.int .i64 y.g, .int .i64 y.q, .int .i64 y.c, .int .i64 y.v, .string ⟨y.tag.toArray⟩]] wx fun e w' => e = .returned (.bool true) ∧ Below w9.heap.size w9 w' := fun wx hy => by
                  have h1 := Genuine_calls secret y m wx (Hhall.out _ (hbel9.trans (hy.mono hbel9.size))) Hhyw.out hc1
                  rw [Hhyg.out] at h1
                  exact h1.mono fun e w' ⟨h1, h2⟩ => ⟨h1, hy.trans (h2.mono hy.size)⟩
                have heq : ∀ w : World, (Op.equalIn 10000 23 (.agg #[.int .i64 y.g, .int .i64 y.q, .int .i64 y.c, .int .i64 y.v, .string ⟨y.tag.toArray⟩]) (.agg #[.int .i64 y.g, .int .i64 y.q, .int .i64 y.c, .int .i64 y.v, .string ⟨y.tag.toArray⟩])).run Tryd.prog w = .ok true w := fun w => by
                  have := equal23 y y w
                  simpa using this
                have hend : ∀ wx, Below w9.heap.size w9 wx → Below w6.heap.size w6 wx := fun wx hy => hbel9b.trans (hy.mono hbel9b.size)
                clear hY9 hrow9 cS2
                have HhK := Lib.hid hK
                clear hK
                have Hhc14 := Lib.hid hc14
                clear hc14
                have Hhend := Lib.hid hend
                clear hend
                have Hhbel9 := Lib.hid hbel9
                clear hbel9
                have Hhbel9b := Lib.hid hbel9b
                clear hbel9b
                first | (go_region_held3 (fun w' => (w'.cell? ⟨b9, 0, none⟩ = some (.int .i64 y.g) ∧ w'.cell? ⟨b9, 1, none⟩ = some (.int .i64 y.q) ∧ w'.cell? ⟨b9, 2, none⟩ = some (.int .i64 y.c) ∧ w'.cell? ⟨b9, 3, none⟩ = some (.int .i64 y.v) ∧ w'.cell? ⟨b9, 4, none⟩ = some (.string ⟨y.tag.toArray⟩)) ∧ (w'.cell? ⟨b2, off2 + k * 5, none⟩ = some (.int .i64 y.g) ∧ w'.cell? ⟨b2, off2 + k * 5 + 1, none⟩ = some (.int .i64 y.q) ∧ w'.cell? ⟨b2, off2 + k * 5 + 2, none⟩ = some (.int .i64 y.c) ∧ w'.cell? ⟨b2, off2 + k * 5 + 3, none⟩ = some (.int .i64 y.v) ∧ w'.cell? ⟨b2, off2 + k * 5 + 4, none⟩ = some (.string ⟨y.tag.toArray⟩))) (exact HhK.out _ (by first | assumption | exact Below.refl _ _ | exact (Below.refl _ _).drew | exact Below.drew (by assumption))) (first | (go_at_call 14; refine (Hhc14.out _ (by first | assumption | exact Below.refl _ _ | exact (Below.refl _ _).drew | exact Below.drew (by assumption))).mono ?_; rintro e wa ⟨rfl, hba⟩))) | fail
                go_wp2_with fail
                refine ⟨⟨k + 1, by omega, by go_num, Hhend.out _ (by first | assumption | exact Below.refl _ _ | exact (Below.refl _ _).drew | exact Below.drew (by assumption))⟩, by simp [intOf]; omega⟩
              · have Hhbel7 := Lib.hid hbel7
                clear hbel7
                go_wp2_with fail
                go_ret
                exact ⟨rfl, Hhbel7.out⟩
          · rcases (show cut < 0 ∨ (0 ≤ cut ∧ (S.length : Int) < cut) by omega) with hcn | ⟨hcn, hcm⟩
            · go_wp2_with fail
              go_ret
              exact ⟨rfl, hbel2⟩
            · go_wp2_with fail
              go_ret
              exact ⟨rfl, hbel2⟩
    · go_wp2_with fail
      go_ret
      exact ⟨rfl, HhB1.out⟩
  · rw [show (decide (secret.length ≤ 300) && (decide (([] : List UInt8).length ≤ 300) && decide (([] : List UInt8).length ≤ 300))) = false by simp [hc1]] at hsh2
    have Hhsh2 := Lib.hid hsh2
    clear hsh2
    refine (Hhsh2.out).mono ?_
    rintro e w1' ⟨rfl, rfl⟩
    go_wp2_with fail
    go_ret
    exact ⟨rfl, HhB1.out⟩
theorem Frames_at (s0 : ByteArray) (v : Value) (l : List Gr) (cut m : Int) (w : World) (h : AllAt m w) (hl : GrsAt w v l) (hsl : s0.size ≤ 9223372036854775807) :
    Calls Tryd.prog 7 #[.string s0, v, .int .i64 cut] w fun e w' => e = .returned (.bool true) ∧ Below w.heap.size w w' := by
  have := Frames_calls s0.data.toList v l cut m w h hl (by rw [len_data]; exact hsl)
  have e : (⟨s0.data.toList.toArray⟩ : ByteArray) = s0 := by apply ByteArray.ext; simp
  rwa [e] at this
end Go.Proofs.YtibhihobpehpbaaDoor
