/- The walk of sign's Sign. -/
import Derived.Test.YtjbpjmdnmnbonaaDoorX6
import Derived.Deep.RegionWith
set_option linter.unusedSimpArgs false
set_option linter.unusedVariables false
namespace Go.Proofs.YtjbpjmdnmnbonaaDoor
open Go.RowKit

def signS (k : Int × Int) (c t : List UInt8) : Int × Int :=
  if rightS k = true then ((chalS (expS 4 (secretS [encText nonceL, numS k.1, encText c, encText t] : Nat) : Nat) k.2 c t : Nat), (addQ (secretS [encText nonceL, numS k.1, encText c, encText t] : Nat) (mulQ (chalS (expS 4 (secretS [encText nonceL, numS k.1, encText c, encText t] : Nat) : Nat) k.2 c t : Nat) k.1 : Nat) : Nat)) else (0, 0)
theorem und25 : Tryd.prog.underlying 25 = some (.struct #[{ name := "E", type := 3, offset := 0, embedded := false, tag := "", pkgPath := "", byteOffset := 0 }, { name := "S", type := 3, offset := 1, embedded := false, tag := "", pkgPath := "", byteOffset := 8 }]) := by kernel_rfl
theorem sz25 (a b : Value) : (Tryd.prog.info? 25).map (·.size) = some (#[a, b] : Array Value).size := by
  have : (Tryd.prog.info? 25).map (·.size) = some 2 := by kernel_rfl
  rw [this]; rfl
set_option maxRecDepth 100000 in
set_option maxHeartbeats 2000000 in
theorem sign_calls (k : Int × Int) (c t : List UInt8) (m : Int) (w : World) (h : SA m w) (hk1 : In64 k.1) (hk2 : In64 k.2) (hc : c.length ≤ 2000) (ht : t.length ≤ 2000) :
    Calls Tryd.prog 16 #[pv k, .string ⟨c.toArray⟩, .string ⟨t.toArray⟩] w fun e w' => e = .returned (pv (signS k c t)) ∧ Below w.heap.size w w' := by
  obtain ⟨a, b⟩ := k
  have h4 := h.2.1
  obtain ⟨wb, hwb⟩ : ∃ wb, wb = (w.alloc (.cells #[.int .i64 a, .int .i64 b] 23)).alloc (.cells zeroP 25) := ⟨_, rfl⟩
  have hbox : wb.heap[w.heap.size]? = some (.cells #[.int .i64 a, .int .i64 b] 23 (0, 0)) := by
    rw [hwb, Below.heap_alloc _ _ _ (by rw [World.size_alloc]; omega)]; exact heap_alloc_new w _
  have hres : wb.heap[w.heap.size + 1]? = some (.cells zeroP 25 (0, 0)) := by
    have := heap_alloc_new (w.alloc (.cells #[.int .i64 a, .int .i64 b] 23)) (.cells zeroP 25)
    rw [World.size_alloc] at this
    rw [hwb]; exact this
  have hBb : Below w.heap.size w wb := by rw [hwb]; exact (by ((repeat' (first | exact Below.refl _ _ | (refine Below.alloc ?_ ?_ _) | (refine Below.setCell ?_ ?_ _) | (refine Below.drew ?_) | (refine Below.trans ?_ (Below.mono (by assumption) ?_)))) <;> ((try simp only [World.size_alloc, World.size_setCell, World.size_drew] at *); omega)))
  have hszb : wb.heap.size = w.heap.size + 2 := by rw [hwb, World.size_alloc, World.size_alloc]
  have hend : ∀ wx, Below wb.heap.size wb wx → Below w.heap.size w wx := fun wx hx => hBb.trans (hx.mono hBb.size)
  have hall : ∀ wx, Below wb.heap.size wb wx → SA m wx := fun wx hx => h.below (hend wx hx) h4
  have hK : ∀ wx, Below wb.heap.size wb wx → wx.cell? ⟨w.heap.size, 0, none⟩ = some (.int .i64 a) ∧ wx.cell? ⟨w.heap.size, 1, none⟩ = some (.int .i64 b) := fun wx hx => by
    have := (hx.block w.heap.size (by omega)).trans hbox
    refine ⟨?_, ?_⟩ <;> (rw [cell_of_row _ _ _ _ _ _ this]; rfl)
  have hR : ∀ wx, Below wb.heap.size wb wx → wx.heap[w.heap.size + 1]? = some (.cells zeroP 25 (0, 0)) := fun wx hx => (hx.block _ (by omega)).trans hres
  have c14 : Calls Tryd.prog 14 #[.agg #[.int .i64 a, .int .i64 b]] wb fun e w' => e = .returned (.bool (rightS (a, b))) ∧ Below wb.heap.size wb w' := right_calls (a, b) wb hk1
  have c1 : ∀ wx, Below wb.heap.size wb wx → Calls Tryd.prog 27 #[.string ⟨#[110, 111, 110, 99, 101]⟩] wx fun e w' => e = .returned (.string ⟨(encText nonceL).toArray⟩) ∧ Below wb.heap.size wb w' := fun wx hx =>
    (text_calls nonceL m wx (hall wx hx) (by decide)).mono fun e w' ⟨h1, h2⟩ => ⟨h1, hx.trans (h2.mono hx.size)⟩
  have c2 : ∀ wx, Below wb.heap.size wb wx → Calls Tryd.prog 31 #[.int .i64 a] wx fun e w' => e = .returned (.string ⟨(numS a).toArray⟩) ∧ Below wb.heap.size wb w' := fun wx hx =>
    (num_calls a wx hk1).mono fun e w' ⟨h1, h2⟩ => ⟨h1, hx.trans (h2.mono hx.size)⟩
  have c3 : ∀ wx, Below wb.heap.size wb wx → Calls Tryd.prog 27 #[.string ⟨c.toArray⟩] wx fun e w' => e = .returned (.string ⟨(encText c).toArray⟩) ∧ Below wb.heap.size wb w' := fun wx hx =>
    (text_calls c m wx (hall wx hx) (by omega)).mono fun e w' ⟨h1, h2⟩ => ⟨h1, hx.trans (h2.mono hx.size)⟩
  have c4 : ∀ wx, Below wb.heap.size wb wx → Calls Tryd.prog 27 #[.string ⟨t.toArray⟩] wx fun e w' => e = .returned (.string ⟨(encText t).toArray⟩) ∧ Below wb.heap.size wb w' := fun wx hx =>
    (text_calls t m wx (hall wx hx) (by omega)).mono fun e w' ⟨h1, h2⟩ => ⟨h1, hx.trans (h2.mono hx.size)⟩
  have hS : signS (a, b) c t = if rightS (a, b) = true then (((chalS (expS 4 (secretS [encText nonceL, numS a, encText c, encText t] : Nat) : Nat) b c t : Nat) : Int), ((addQ (secretS [encText nonceL, numS a, encText c, encText t] : Nat) (mulQ (chalS (expS 4 (secretS [encText nonceL, numS a, encText c, encText t] : Nat) : Nat) b c t : Nat) a : Nat) : Nat) : Int)) else (0, 0) := rfl
  rw [hS]
  clear hS
  have l1 := encText_len2 nonceL
  have l2 := numS_len a hk1
  have l3 := encText_len2 c
  have l4 := encText_len2 t
  have l1' : nonceL.length = 5 := rfl
  generalize encText nonceL = A1 at *
  generalize numS a = A2 at *
  generalize encText c = A3 at *
  generalize encText t = A4 at *
  obtain ⟨n, hn⟩ : ∃ Z, Z = secretS [A1, A2, A3, A4] := ⟨_, rfl⟩
  obtain ⟨hn1, hn2⟩ : 1 ≤ n ∧ n < 1152921504606845789 := by rw [hn]; exact secretS_lt _
  have hh : ∀ wx, Below wb.heap.size wb wx → Calls Tryd.prog 26 #[.slice (some ⟨wx.heap.size, 0, none⟩) 4 4] (wx.alloc (.cells #[.string ⟨A1.toArray⟩, .string ⟨A2.toArray⟩, .string ⟨A3.toArray⟩, .string ⟨A4.toArray⟩] 9)) fun e w' => e = .returned (.int .i64 (n : Nat)) ∧ Below wb.heap.size wb w' := fun wx hx => by
    have hB := Below.alloc hx hx.size (.cells #[.string ⟨A1.toArray⟩, .string ⟨A2.toArray⟩, .string ⟨A3.toArray⟩, .string ⟨A4.toArray⟩] 9)
    have h1 := secret_calls wx.heap.size [A1, A2, A3, A4] (wx.alloc (.cells #[.string ⟨A1.toArray⟩, .string ⟨A2.toArray⟩, .string ⟨A3.toArray⟩, .string ⟨A4.toArray⟩] 9)) (hall _ hB).1 (str_row wx [A1, A2, A3, A4]) (by simp) (by simp; omega) (by simp)
    rw [← hn] at h1
    exact h1.mono fun e w' ⟨h1, h2⟩ => ⟨h1, hB.trans (h2.mono hB.size)⟩
  rw [← hn]
  obtain ⟨g, hg⟩ : ∃ g, g = expS 4 (n : Nat) := ⟨_, rfl⟩
  have hgl : g < 2305843009213691579 := by rw [hg]; exact expS_lt _ _
  have c5 : ∀ wx, Below wb.heap.size wb wx → Calls Tryd.prog 24 #[.int .i64 4, .int .i64 (n : Nat)] wx fun e w' => e = .returned (.int .i64 (g : Nat)) ∧ Below wb.heap.size wb w' := fun wx hx =>
    (exp_calls 4 (n : Nat) wx (by unfold In64; omega) (by unfold In64; omega)).mono fun e w' ⟨h1, h2⟩ => ⟨by rw [h1, hg], hx.trans (h2.mono hx.size)⟩
  rw [← hg]
  obtain ⟨x, hx⟩ : ∃ x, x = chalS (g : Nat) b c t := ⟨_, rfl⟩
  have hxl : x < 1152921504606845789 := by rw [hx]; exact chalS_lt _ _ _ _
  have c6 : ∀ wx, Below wb.heap.size wb wx → Calls Tryd.prog 32 #[.int .i64 (g : Nat), .int .i64 b, .string ⟨c.toArray⟩, .string ⟨t.toArray⟩] wx fun e w' => e = .returned (.int .i64 (x : Nat)) ∧ Below wb.heap.size wb w' := fun wx hy =>
    (challenge_calls (g : Nat) b c t m wx (hall wx hy) (by unfold In64; omega) hk2 hc ht).mono fun e w' ⟨h1, h2⟩ => ⟨by rw [h1, hx], hy.trans (h2.mono hy.size)⟩
  rw [← hx]
  obtain ⟨y, hy⟩ : ∃ y, y = mulQ (x : Nat) a := ⟨_, rfl⟩
  have hyl : y < 1152921504606845789 := by rw [hy]; exact Nat.mod_lt _ (by decide)
  have c7 : ∀ wx, Below wb.heap.size wb wx → Calls Tryd.prog 34 #[.int .i64 (x : Nat), .int .i64 a] wx fun e w' => e = .returned (.int .i64 (y : Nat)) ∧ Below wb.heap.size wb w' := fun wx hz =>
    (mulQ_calls (x : Nat) a wx (by unfold In64; omega) hk1).mono fun e w' ⟨h1, h2⟩ => ⟨by rw [h1, hy], hz.trans (h2.mono hz.size)⟩
  rw [← hy]
  obtain ⟨z, hz⟩ : ∃ z, z = addQ (n : Nat) (y : Nat) := ⟨_, rfl⟩
  have hzl : z < 1152921504606845789 := by rw [hz]; exact Nat.mod_lt _ (by decide)
  have c8 : ∀ wx, Below wb.heap.size wb wx → Calls Tryd.prog 33 #[.int .i64 (n : Nat), .int .i64 (y : Nat)] wx fun e w' => e = .returned (.int .i64 (z : Nat)) ∧ Below wb.heap.size wb w' := fun wx hv =>
    (addQ_calls (n : Nat) (y : Nat) wx (by unfold In64; omega) (by unfold In64; omega)).mono fun e w' ⟨h1, h2⟩ => ⟨by rw [h1, hz], hv.trans (h2.mono hv.size)⟩
  rw [← hz, pv_of]
  clear l1 l2 l3 l4 l1'
  have hB0 := hszb
  have Hhn := Lib.hid hn
  clear hn
  have Hhg := Lib.hid hg
  clear hg
  have Hhx := Lib.hid hx
  clear hx
  have Hhy := Lib.hid hy
  clear hy
  have Hhz := Lib.hid hz
  clear hz
  have Hc1 := Lib.hid c1
  clear c1
  have Hc2 := Lib.hid c2
  clear c2
  have Hc3 := Lib.hid c3
  clear c3
  have Hc4 := Lib.hid c4
  clear c4
  have Hc5 := Lib.hid c5
  clear c5
  have Hc6 := Lib.hid c6
  clear c6
  have Hc7 := Lib.hid c7
  clear c7
  have Hc8 := Lib.hid c8
  clear c8
  have Hhh := Lib.hid hh
  clear hh
  have HhR := Lib.hid hR
  clear hR
  have Hhend := Lib.hid hend
  clear hend
  have Hhall := Lib.hid hall
  clear hall
  have Hhbox := Lib.hid hbox
  clear hbox
  have Hhres := Lib.hid hres
  clear hres
  have HhBb := Lib.hid hBb
  clear hBb
  have Hhszb := Lib.hid hszb
  clear hszb
  have Hh := Lib.hid h
  clear h
  cases hr : rightS (a, b)
  · rw [hr] at c14
    obtain ⟨z0, z1⟩ := hK wb (Below.refl _ _)
    have Hc14 := Lib.hid c14
    clear c14
    have HhK := Lib.hid hK
    clear hK
    go_enter Tryd.func16, Tryd.ntmps16
    go_wp2_with fail
    rw [show (w.alloc (.cells #[.int .i64 a, .int .i64 b] 23)).alloc (.cells #[.int .i64 0, .int .i64 0] 25) = wb from hwb.symm]
    clear hwb
    refine Hc14.out.mono ?_
    rintro e w1 ⟨rfl, hB1⟩
    have hr1 := HhR.out _ hB1
    have hend1 := Hhend.out _ hB1
    clear z0 z1
    have Hhr1 := Lib.hid hr1
    clear hr1
    have Hhend1 := Lib.hid hend1
    clear hend1
    have HhB1 := Lib.hid hB1
    clear hB1
    go_wp2_with (refine wpStore rfl 25 _ _ rfl (w.heap.size + 1) zeroP rfl rfl 25 zeroP Hhr1.out (sz25 _ _) rfl (pv_one _ _) ?_; intro w5 hr5 hb5)
    exact bodyPost_ret (results_cell_row (fn := Tryd.f16) rfl _ _ (w.heap.size + 1) 25 zeroP (0, 0) _ rfl hr5 und25 rfl (sz25 _ _)) rfl ⟨rfl, hb5 _ _ Hhend1.out (by omega)⟩
  · rw [hr] at c14
    obtain ⟨z0, z1⟩ := hK wb (Below.refl _ _)
    have Hc14 := Lib.hid c14
    clear c14
    have HhK := Lib.hid hK
    clear hK
    go_enter Tryd.func16, Tryd.ntmps16
    go_wp2_with fail
    rw [show (w.alloc (.cells #[.int .i64 a, .int .i64 b] 23)).alloc (.cells #[.int .i64 0, .int .i64 0] 25) = wb from hwb.symm]
    clear hwb
    refine Hc14.out.mono ?_
    rintro e w1 ⟨rfl, hB1⟩
    clear z0 z1
    obtain ⟨z0, z1⟩ := HhK.out _ hB1
    go_wp2_with fail
    go_region_with (first | (go_at_call_of 27 c.toArray; refine (Hc3.out _ (by first | assumption | exact Below.refl _ _ | exact (Below.refl _ _).drew | exact Below.drew (by assumption))).mono ?_; rintro e wa ⟨rfl, hba⟩; obtain ⟨z0, z1⟩ := HhK.out _ hba) | (go_at_call_of 27 t.toArray; refine (Hc4.out _ (by first | assumption | exact Below.refl _ _ | exact (Below.refl _ _).drew | exact Below.drew (by assumption))).mono ?_; rintro e wa ⟨rfl, hba⟩; obtain ⟨z0, z1⟩ := HhK.out _ hba) | (go_at_call 27; refine (Hc1.out _ (by first | assumption | exact Below.refl _ _ | exact (Below.refl _ _).drew | exact Below.drew (by assumption))).mono ?_; rintro e wa ⟨rfl, hba⟩; obtain ⟨z0, z1⟩ := HhK.out _ hba) | (go_at_call 31; refine (Hc2.out _ (by first | assumption | exact Below.refl _ _ | exact (Below.refl _ _).drew | exact Below.drew (by assumption))).mono ?_; rintro e wa ⟨rfl, hba⟩; obtain ⟨z0, z1⟩ := HhK.out _ hba) | (go_at_call 26; refine (Hhh.out _ (by first | assumption | exact Below.refl _ _ | exact (Below.refl _ _).drew | exact Below.drew (by assumption))).mono ?_; rintro e wa ⟨rfl, hba⟩; obtain ⟨z0, z1⟩ := HhK.out _ hba))
    all_goals
      clear z0 z1
      go_wp2_with fail
      first | (go_region_held3 (fun w' => w'.cell? ⟨w.heap.size, 0, none⟩ = some (.int .i64 a) ∧ w'.cell? ⟨w.heap.size, 1, none⟩ = some (.int .i64 b)) (exact HhK.out _ (by first | assumption | exact Below.refl _ _ | exact (Below.refl _ _).drew | exact Below.drew (by assumption))) (first | (go_at_call 24; refine (Hc5.out _ (by first | assumption | exact Below.refl _ _ | exact (Below.refl _ _).drew | exact Below.drew (by assumption))).mono ?_; rintro e wb1 ⟨rfl, hbb1⟩) | (go_at_call 32; refine (Hc6.out _ (by first | assumption | exact Below.refl _ _ | exact (Below.refl _ _).drew | exact Below.drew (by assumption))).mono ?_; rintro e wb2 ⟨rfl, hbb2⟩))) | fail
      obtain ⟨z0, z1⟩ := HhK.out _ hbb2
      go_wp2_with fail
      refine (Hc7.out _ hbb2).mono ?_
      rintro e wb3 ⟨rfl, hbb3⟩
      clear z0 z1
      go_wp2_with fail
      refine (Hc8.out _ hbb3).mono ?_
      rintro e wb4 ⟨rfl, hbb4⟩
      have hr1 := HhR.out _ hbb4
      have hend1 := Hhend.out _ hbb4
      have Hhr1 := Lib.hid hr1
      clear hr1
      have Hhend1 := Lib.hid hend1
      clear hend1
      have Hhbb4 := Lib.hid hbb4
      clear hbb4
      go_wp2_with (refine wpStore rfl 25 _ _ rfl (w.heap.size + 1) #[.int .i64 x, .int .i64 z] rfl rfl 25 zeroP Hhr1.out (sz25 _ _) rfl (pv_one _ _) ?_; intro w5 hr5 hb5)
      exact bodyPost_ret (results_cell_row (fn := Tryd.f16) rfl _ _ (w.heap.size + 1) 25 #[.int .i64 x, .int .i64 z] (0, 0) _ rfl hr5 und25 rfl (sz25 _ _)) rfl ⟨rfl, hb5 _ _ Hhend1.out (by omega)⟩
end Go.Proofs.YtjbpjmdnmnbonaaDoor
