/- The references' walks: Challenge, Element. -/
import Derived.Test.YtjbpjmdnmnbonaaDoorE3
import Derived.Test.YtjbpjmdnmnbonaaDoorR7
import Derived.Deep.RegionHeld3
set_option linter.unusedSimpArgs false
set_option linter.unusedVariables false
namespace Go.Proofs.YtjbpjmdnmnbonaaDoor
open Go.RowKit

theorem refShort_calls (l : List UInt8) (w : World) (hl : l.length ≤ 1000000) :
    Calls Tryd.prog 28 #[.string ⟨l.toArray⟩] w fun e w' => e = .returned (.int .i64 (shortS l : Nat)) ∧ Below w.heap.size w w' := refShort_of l w (SumR_calls l w (by omega))
theorem refTextL_calls (l : List UInt8) (w : World) (hl : l.length ≤ 1000000) :
    Calls Tryd.prog 29 #[.string ⟨l.toArray⟩] w fun e w' => e = .returned (.string ⟨(encText l).toArray⟩) ∧ Below w.heap.size w w' :=
  refText_calls ⟨l.toArray⟩ w (by rw [str_size]; exact hl)
set_option maxRecDepth 100000 in
theorem refChallenge_calls (r pub : Int) (c t : List UInt8) (w : World) (hr : In64 r) (hp : In64 pub) (hc : c.length ≤ 2000) (ht : t.length ≤ 2000) :
    Calls Tryd.prog 21 #[.int .i64 r, .int .i64 pub, .string ⟨c.toArray⟩, .string ⟨t.toArray⟩] w fun e w' => e = .returned (.int .i64 (chalS r pub c t : Nat)) ∧ Below w.heap.size w w' := by
  have c1 : ∀ wx, Calls Tryd.prog 29 #[.string ⟨#[115, 105, 103, 110]⟩] wx fun e w' => e = .returned (.string ⟨(encText signL).toArray⟩) ∧ Below wx.heap.size wx w' := fun wx => refTextL_calls signL wx (by decide)
  have c2 := fun wx => refNum_calls r wx hr
  have c3 := fun wx => refNum_calls pub wx hp
  have c4 := fun wx => refTextL_calls c wx (by omega)
  have c5 := fun wx => refTextL_calls t wx (by omega)
  have hE : chalS r pub c t = shortS (encText signL ++ numS r ++ numS pub ++ encText c ++ encText t) % 1152921504606845789 := by unfold chalS; simp
  have l1 := encText_len2 signL
  have l2 := numS_len r hr
  have l3 := numS_len pub hp
  have l4 := encText_len2 c
  have l5 := encText_len2 t
  have l1' : signL.length = 4 := rfl
  rw [hE]
  clear hE
  generalize encText signL = A1 at *
  generalize numS r = A2 at *
  generalize numS pub = A3 at *
  generalize encText c = A4 at *
  generalize encText t = A5 at *
  have k1 : A1.length ≤ 10 := by omega
  have k4 : A4.length ≤ 5000 := by omega
  have k5 : A5.length ≤ 5000 := by omega
  clear l1 l4 l5 l1'
  have e1 := cat_run A1 A2 (by omega)
  have m1 : (A1 ++ A2).length ≤ 19 := by rw [List.length_append]; omega
  obtain ⟨B1, hB1⟩ : ∃ L, L = A1 ++ A2 := ⟨_, rfl⟩
  rw [← hB1] at e1 m1 ⊢
  have e2 := cat_run B1 A3 (by omega)
  have m2 : (B1 ++ A3).length ≤ 28 := by rw [List.length_append]; omega
  obtain ⟨B2, hB2⟩ : ∃ L, L = B1 ++ A3 := ⟨_, rfl⟩
  rw [← hB2] at e2 m2 ⊢
  have e3 := cat_run B2 A4 (by omega)
  have m3 : (B2 ++ A4).length ≤ 5028 := by rw [List.length_append]; omega
  obtain ⟨B3, hB3⟩ : ∃ L, L = B2 ++ A4 := ⟨_, rfl⟩
  rw [← hB3] at e3 m3 ⊢
  have e4 := cat_run B3 A5 (by omega)
  have m4 : (B3 ++ A5).length ≤ 10028 := by rw [List.length_append]; omega
  obtain ⟨B4, hB4⟩ : ∃ L, L = B3 ++ A5 := ⟨_, rfl⟩
  rw [← hB4] at e4 m4 ⊢
  have c6 := fun wx => refShort_calls B4 wx (by omega)
  obtain ⟨Z, hZ⟩ : ∃ Z, Z = shortS B4 := ⟨_, rfl⟩
  have hZl : Z < 1152921504606846976 := by rw [hZ]; exact shortS_lt _
  rw [← hZ] at c6 ⊢
  have hrem : (Z : Int).tmod 1152921504606845789 = ((Z % 1152921504606845789 : Nat) : Int) := rfl
  have hml := Nat.mod_lt Z (show 0 < 1152921504606845789 by decide)
  obtain ⟨z, hz⟩ : ∃ z, z = Z % 1152921504606845789 := ⟨_, rfl⟩
  rw [← hz] at hrem hml
  clear hB1 hB2 hB3 hB4 hZ m1 m2 m3 m4 k1 k4 k5 l2 l3
  have Hc1 := Lib.hid c1
  clear c1
  have Hc2 := Lib.hid c2
  clear c2
  have Hc3 := Lib.hid c3
  clear c3
  have Hc4 := Lib.hid c4
  clear c4
  have Hc5 := Lib.hid c5
  clear c5
  have Hc6 := Lib.hid c6
  clear c6
  have Hhz := Lib.hid hz
  clear hz
  go_enter Tryd.func21, Tryd.ntmps21
  go_wp2_with fail
  refine (Hc1.out w).mono ?_
  rintro e w1 ⟨rfl, hb1⟩
  have Hhb1 := Lib.hid hb1
  clear hb1
  go_wp2_with fail
  refine (Hc2.out w1).mono ?_
  rintro e w2 ⟨rfl, hb2⟩
  have hd2 := Hhb1.out.trans (hb2.mono Hhb1.out.size)
  have Hhb2 := Lib.hid hb2
  clear hb2
  have Hhd2 := Lib.hid hd2
  clear hd2
  go_wp2_with fail
  refine (Hc3.out w2).mono ?_
  rintro e w3 ⟨rfl, hb3⟩
  have hd3 := Hhd2.out.trans (hb3.mono Hhd2.out.size)
  have Hhb3 := Lib.hid hb3
  clear hb3
  have Hhd3 := Lib.hid hd3
  clear hd3
  go_wp2_with fail
  refine (Hc4.out w3).mono ?_
  rintro e w4 ⟨rfl, hb4⟩
  have hd4 := Hhd3.out.trans (hb4.mono Hhd3.out.size)
  have Hhb4 := Lib.hid hb4
  clear hb4
  have Hhd4 := Lib.hid hd4
  clear hd4
  go_wp2_with fail
  refine (Hc5.out w4).mono ?_
  rintro e w5 ⟨rfl, hb5⟩
  have hd5 := Hhd4.out.trans (hb5.mono Hhd4.out.size)
  have Hhb5 := Lib.hid hb5
  clear hb5
  have Hhd5 := Lib.hid hd5
  clear hd5
  go_wp2_with fail
  refine (Hc6.out w5).mono ?_
  rintro e w6 ⟨rfl, hb6⟩
  have hd6 := Hhd5.out.trans (hb6.mono Hhd5.out.size)
  have Hhb6 := Lib.hid hb6
  clear hb6
  have Hhd6 := Lib.hid hd6
  clear hd6
  go_wp2_with fail
  go_ret
  exact ⟨by rw [← Hhz.out]; rfl, Hhd6.out⟩
set_option maxRecDepth 100000 in
set_option maxHeartbeats 1000000 in
theorem refElement_calls (pub a b : Int) (w : World) (hp : In64 pub) (ha1 : 0 ≤ a) (ha2 : a < 1152921504606845789) (hb : In64 b) :
    Calls Tryd.prog 20 #[.int .i64 pub, .agg #[.int .i64 a, .int .i64 b]] w fun e w' => e = .returned (.int .i64 (elemS pub (a, b) : Nat)) ∧ Below w.heap.size w w' := by
  obtain ⟨wb, hwb⟩ : ∃ wb, wb = w.alloc (.cells #[.int .i64 a, .int .i64 b] 25) := ⟨_, rfl⟩
  have hbox : wb.heap[w.heap.size]? = some (.cells #[.int .i64 a, .int .i64 b] 25 (0, 0)) := by rw [hwb]; exact heap_alloc_new w _
  have hBb : Below w.heap.size w wb := by rw [hwb]; exact (by ((repeat' (first | exact Below.refl _ _ | (refine Below.alloc ?_ ?_ _) | (refine Below.setCell ?_ ?_ _) | (refine Below.drew ?_) | (refine Below.trans ?_ (Below.mono (by assumption) ?_)))) <;> ((try simp only [World.size_alloc, World.size_setCell, World.size_drew] at *); omega)))
  have hszb : wb.heap.size = w.heap.size + 1 := by rw [hwb, World.size_alloc]
  have hend : ∀ wx, Below wb.heap.size wb wx → Below w.heap.size w wx := fun wx hx => hBb.trans (hx.mono hBb.size)
  have hK : ∀ wx, Below wb.heap.size wb wx → wx.cell? ⟨w.heap.size, 0, none⟩ = some (.int .i64 a) ∧ wx.cell? ⟨w.heap.size, 1, none⟩ = some (.int .i64 b) := fun wx hx => by
    have := (hx.block w.heap.size (by omega)).trans hbox
    refine ⟨?_, ?_⟩ <;> (rw [cell_of_row _ _ _ _ _ _ this]; rfl)
  obtain ⟨g, hg⟩ : ∃ g, g = expS 4 b := ⟨_, rfl⟩
  obtain ⟨d, hd⟩ : ∃ d, 1152921504606845789 - a = d := ⟨_, rfl⟩
  have hd1 : 0 < d ∧ d ≤ 1152921504606845789 := by omega
  obtain ⟨hda, hdb⟩ := hd1
  have hdw : IntKind.i64.wrap d = d := by rw [IntKind.wrap_i64]; omega
  obtain ⟨q, hq⟩ : ∃ g, g = expS pub d := ⟨_, rfl⟩
  have hel : elemS pub (a, b) = mulP (g : Nat) (q : Nat) := by rw [hg, hq, ← hd]; rfl
  rw [hel]
  clear hel
  have hgl : g < 2305843009213691579 := by rw [hg]; exact expS_lt _ _
  have hql : q < 2305843009213691579 := by rw [hq]; exact expS_lt _ _
  obtain ⟨r, hr⟩ : ∃ r, r = mulP (g : Nat) (q : Nat) := ⟨_, rfl⟩
  have hrl : r < 2305843009213691579 := by rw [hr]; exact Nat.mod_lt _ (by decide)
  have c1 : ∀ wx, Below wb.heap.size wb wx → Calls Tryd.prog 30 #[.int .i64 4, .int .i64 b] wx fun e w' => e = .returned (.int .i64 (g : Nat)) ∧ Below wb.heap.size wb w' := fun wx hx =>
    (refExp_calls 4 b wx (by unfold In64; omega) hb).mono fun e w' ⟨h1, h2⟩ => ⟨by rw [h1, hg], hx.trans (h2.mono hx.size)⟩
  have c2 : ∀ wx, Below wb.heap.size wb wx → Calls Tryd.prog 30 #[.int .i64 pub, .int .i64 d] wx fun e w' => e = .returned (.int .i64 (q : Nat)) ∧ Below wb.heap.size wb w' := fun wx hx =>
    (refExp_calls pub d wx hp (by unfold In64; omega)).mono fun e w' ⟨h1, h2⟩ => ⟨by rw [h1, hq], hx.trans (h2.mono hx.size)⟩
  have c3 : ∀ wx, Below wb.heap.size wb wx → Calls Tryd.prog 39 #[.int .i64 (g : Nat), .int .i64 (q : Nat)] wx fun e w' => e = .returned (.int .i64 (r : Nat)) ∧ Below wb.heap.size wb w' := fun wx hx =>
    (refMul_calls (g : Nat) (q : Nat) wx (by unfold In64; omega) (by unfold In64; omega)).mono fun e w' ⟨h1, h2⟩ => ⟨by rw [h1, hr], hx.trans (h2.mono hx.size)⟩
  rw [← hr]
  have Hhg := Lib.hid hg
  clear hg
  have Hhq := Lib.hid hq
  clear hq
  have Hhr := Lib.hid hr
  clear hr
  have Hc1 := Lib.hid c1
  clear c1
  have Hc2 := Lib.hid c2
  clear c2
  have Hc3 := Lib.hid c3
  clear c3
  have Hhend := Lib.hid hend
  clear hend
  have Hhbox := Lib.hid hbox
  clear hbox
  have HhBb := Lib.hid hBb
  clear hBb
  have HhK := Lib.hid hK
  clear hK
  go_enter Tryd.func20, Tryd.ntmps20
  go_wp2_with fail
  rw [show w.alloc (.cells #[.int .i64 a, .int .i64 b] 25) = wb from hwb.symm]
  clear hwb
  first | (go_region_held3 (fun w' => w'.cell? ⟨w.heap.size, 0, none⟩ = some (.int .i64 a) ∧ w'.cell? ⟨w.heap.size, 1, none⟩ = some (.int .i64 b)) (exact HhK.out _ (by first | assumption | exact Below.refl _ _ | exact (Below.refl _ _).drew | exact Below.drew (by assumption))) (first | (go_at_call_of 30 d; refine (Hc2.out _ (by first | assumption | exact Below.refl _ _ | exact (Below.refl _ _).drew | exact Below.drew (by assumption))).mono ?_; rintro e wb2 ⟨rfl, hbb2⟩) | (go_at_call 30; refine (Hc1.out _ (by first | assumption | exact Below.refl _ _ | exact (Below.refl _ _).drew | exact Below.drew (by assumption))).mono ?_; rintro e wb1 ⟨rfl, hbb1⟩) | (go_at_call 39; refine (Hc3.out _ (by first | assumption | exact Below.refl _ _ | exact (Below.refl _ _).drew | exact Below.drew (by assumption))).mono ?_; rintro e wb3 ⟨rfl, hbb3⟩))) | fail
  go_wp2_with fail
  go_ret
  exact ⟨rfl, Hhend.out _ (by first | assumption | exact Below.refl _ _ | exact (Below.refl _ _).drew | exact Below.drew (by assumption))⟩
end Go.Proofs.YtjbpjmdnmnbonaaDoor
