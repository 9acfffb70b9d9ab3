/- The walks of small and short. -/
import Derived.Test.YtjbpjmdnmnbonaaDoorP2
set_option linter.unusedSimpArgs false
set_option linter.unusedVariables false
namespace Go.Proofs.YtjbpjmdnmnbonaaDoor
open Go.RowKit

theorem x0_eq : secretS [encText keyL, encText [97]] = 358115012204568414 := by decide +kernel
theorem n0_eq : secretS [encText nonceL, numS 358115012204568414, encText [99], encText [109]] = 507858151651448328 := by decide +kernel
theorem el_of {x r : Nat} (f : Nat) (hf : x < 2 ^ f) (h : pm PP 4 f x = r) : el x = r := by
  unfold el; rw [← pm_eq PP 4 f x hf]; exact h
theorem el_x0 : el 358115012204568414 = 5322311199030329 := el_of 61 (by decide) (by decide +kernel)
theorem el_n0 : el 507858151651448328 = 121324261228073936 := el_of 61 (by decide) (by decide +kernel)
theorem ch1 : chalS 121324261228073936 5322311199030329 [99] [109] = 863586865880404946 := by decide +kernel
theorem ch2 : chalS 121324261228073936 5322311199030329 [99] [110] = 268455930870209848 := by decide +kernel
theorem key_a : keyS [97] = (358115012204568414, 5322311199030329) := by
  obtain ⟨x, h0, h1, hk, hx⟩ := key_nat [97]
  rw [x0_eq] at hx
  subst hx
  rw [hk, el_x0]; rfl
def kA : Int × Int := (358115012204568414, 5322311199030329)
theorem kA_el : kA = (((358115012204568414 : Nat) : Int), (el 358115012204568414 : Int)) := by rw [el_x0]; rfl
theorem sign_a : ∃ z : Nat, z < QQ ∧ signS kA [99] [109] = (863586865880404946, (z : Int)) := by
  obtain ⟨n, e, hn0, hn1, he, he2, hs, hn⟩ := signS_nat (x := 358115012204568414) (by decide) (by decide) [99] [109]
  have hn' : n = 507858151651448328 := hn.trans n0_eq
  subst hn'
  rw [el_n0, el_x0] at he2
  have he3 : e = 863586865880404946 := he2.trans ch1
  subst he3
  exact ⟨_, addQ_lt _ _, by rw [kA_el, hs]; rfl⟩
theorem right_a : rightS kA = true := by rw [kA_el]; exact rightS_of (by decide) (by decide)
theorem ver_a : verS 5322311199030329 [99] [109] (signS kA [99] [109]) = true := by
  have h := verS_own (x := 358115012204568414) (by decide) (by decide) [99] [109]
  rw [← kA_el, el_x0] at h; exact h
theorem ver_n : verS 5322311199030329 [99] [110] (signS kA [99] [109]) = false := by
  have h := verS_sig (x := 358115012204568414) (by decide) (by decide) [99] [109] [99] [110]
  obtain ⟨n, e, hn0, hn1, he, he2, hs, hn⟩ := signS_nat (x := 358115012204568414) (by decide) (by decide) [99] [109]
  have hn' : n = 507858151651448328 := hn.trans n0_eq
  subst hn'
  rw [el_n0, el_x0] at he2
  have he3 : e = 863586865880404946 := he2.trans ch1
  subst he3
  rw [hs, elem_sig _ _ _ he hn1, ← hs, ← kA_el, el_n0, el_x0] at h
  refine h.trans ?_
  rw [kA_el, hs]
  show (((chalS 121324261228073936 5322311199030329 [99] [110] : Nat) : Int) == 863586865880404946) = false
  rw [ch2]; decide
theorem ver_one (s : Int × Int) : verS 1 [99] [109] s = false := by
  unfold verS; rw [decide_eq_false (by rintro ⟨h, _⟩; exact h rfl), Bool.false_and]
theorem of_one : ofS 1 = (1, 4) := by
  have h : expS 4 1 = 4 := (expS_four 1).trans (by decide)
  unfold ofS; rw [if_neg (by omega), h]; rfl
theorem of_zero : ofS 0 = (0, 0) := by unfold ofS; rw [if_pos (by omega)]

set_option maxRecDepth 100000 in
set_option maxHeartbeats 2000000 in
theorem small_calls (m : Int) (w : World) (h : SA m w) : Calls Tryd.prog 8 #[] w fun e w' => e = .returned (.bool true) ∧ Below w.heap.size w w' := by
  have h4 := h.2.1
  have hall : ∀ wx, Below w.heap.size w wx → SA m wx := fun wx hx => h.below hx h4
  obtain ⟨z, hzl, hsg⟩ := sign_a
  unfold QQ at hzl
  have c1 : Calls Tryd.prog 10 #[.string ⟨#[97]⟩] w fun e w' => e = .returned (.agg #[.int .i64 358115012204568414, .int .i64 5322311199030329]) ∧ Below w.heap.size w w' :=
    (key_calls [97] m w h (by decide)).mono fun e w' ⟨h1, h2⟩ => ⟨by rw [h1, key_a]; rfl, h2⟩
  have c2 : ∀ wx, Below w.heap.size w wx → Calls Tryd.prog 16 #[.agg #[.int .i64 358115012204568414, .int .i64 5322311199030329], .string ⟨#[99]⟩, .string ⟨#[109]⟩] wx fun e w' => e = .returned (.agg #[.int .i64 863586865880404946, .int .i64 (z : Nat)]) ∧ Below wx.heap.size wx w' := fun wx hx =>
    (sign_calls kA [99] [109] m wx (hall wx hx) (by unfold kA In64; simp) (by unfold kA In64; simp) (by decide) (by decide)).mono fun e w' ⟨h1, h2⟩ => ⟨by rw [h1, hsg]; rfl, h2⟩
  have c3 : ∀ wx, Calls Tryd.prog 12 #[.int .i64 1] wx fun e w' => e = .returned (.agg #[.int .i64 1, .int .i64 4]) ∧ Below wx.heap.size wx w' := fun wx =>
    (of_calls 1 wx (by unfold In64; omega)).mono fun e w' ⟨h1, h2⟩ => ⟨by rw [h1, of_one]; rfl, h2⟩
  have c4 : ∀ wx, Calls Tryd.prog 12 #[.int .i64 0] wx fun e w' => e = .returned (.agg #[.int .i64 0, .int .i64 0]) ∧ Below wx.heap.size wx w' := fun wx =>
    (of_calls 0 wx (by unfold In64; omega)).mono fun e w' ⟨h1, h2⟩ => ⟨by rw [h1, of_zero]; rfl, h2⟩
  have c5 : ∀ wx, Calls Tryd.prog 14 #[.agg #[.int .i64 358115012204568414, .int .i64 5322311199030329]] wx fun e w' => e = .returned (.bool true) ∧ Below wx.heap.size wx w' := fun wx =>
    (right_calls kA wx (by unfold kA In64; simp)).mono fun e w' ⟨h1, h2⟩ => ⟨by rw [h1, right_a], h2⟩
  have c6 : ∀ (p : Int) (t : List UInt8) wx, In64 p → t.length ≤ 2000 → Below w.heap.size w wx → Calls Tryd.prog 18 #[.int .i64 p, .string ⟨#[99]⟩, .string ⟨t.toArray⟩, .agg #[.int .i64 863586865880404946, .int .i64 (z : Nat)]] wx fun e w' => e = .returned (.bool (verS p [99] t (signS kA [99] [109]))) ∧ Below wx.heap.size wx w' := fun p t wx hp ht hx => by
    rw [hsg]
    exact verify_calls p [99] t (863586865880404946, (z : Int)) m wx (hall wx hx) hp (by decide) ht
  have c6a : ∀ wx, Below w.heap.size w wx → Calls Tryd.prog 18 #[.int .i64 5322311199030329, .string ⟨#[99]⟩, .string ⟨#[109]⟩, .agg #[.int .i64 863586865880404946, .int .i64 (z : Nat)]] wx fun e w' => e = .returned (.bool true) ∧ Below wx.heap.size wx w' := fun wx hx => by
    have := c6 5322311199030329 [109] wx (by unfold In64; omega) (by decide) hx
    rw [ver_a] at this; exact this
  have c6b : ∀ wx, Below w.heap.size w wx → Calls Tryd.prog 18 #[.int .i64 5322311199030329, .string ⟨#[99]⟩, .string ⟨#[110]⟩, .agg #[.int .i64 863586865880404946, .int .i64 (z : Nat)]] wx fun e w' => e = .returned (.bool false) ∧ Below wx.heap.size wx w' := fun wx hx => by
    have := c6 5322311199030329 [110] wx (by unfold In64; omega) (by decide) hx
    rw [ver_n] at this; exact this
  have c6c : ∀ wx, Below w.heap.size w wx → Calls Tryd.prog 18 #[.int .i64 1, .string ⟨#[99]⟩, .string ⟨#[109]⟩, .agg #[.int .i64 863586865880404946, .int .i64 (z : Nat)]] wx fun e w' => e = .returned (.bool false) ∧ Below wx.heap.size wx w' := fun wx hx => by
    have := c6 1 [109] wx (by unfold In64; omega) (by decide) hx
    rw [ver_one] at this; exact this
  have e1 : ∀ w, (Op.equalIn 10000 23 (.agg #[.int .i64 1, .int .i64 4]) (.agg #[.int .i64 1, .int .i64 4])).run Tryd.prog w = .ok true w := fun w => by rw [equal23]; rfl
  have e2 : ∀ w, (Op.equalIn 10000 23 (.agg #[.int .i64 0, .int .i64 0]) (.agg #[.int .i64 0, .int .i64 0])).run Tryd.prog w = .ok true w := fun w => by rw [equal23]; rfl
  clear c6
  have Hc1 := Lib.hid c1
  clear c1
  have Hc2 := Lib.hid c2
  clear c2
  have Hc3 := Lib.hid c3
  clear c3
  have Hc4 := Lib.hid c4
  clear c4
  have Hc5 := Lib.hid c5
  clear c5
  have Hc6a := Lib.hid c6a
  clear c6a
  have Hc6b := Lib.hid c6b
  clear c6b
  have Hc6c := Lib.hid c6c
  clear c6c
  have Hhall := Lib.hid hall
  clear hall
  have Hh := Lib.hid h
  clear h
  have Hhsg := Lib.hid hsg
  clear hsg
  go_enter Tryd.func8, Tryd.ntmps8
  go_wp2_with fail
  refine Hc1.out.mono ?_
  rintro e w1 ⟨rfl, hB1⟩
  have hs1 := hB1.size
  have HhB1 := Lib.hid hB1
  clear hB1
  go_wp2_with fail
  generalize hW1 : World.alloc _ _ = w2
  have hk2 : w2.heap[w1.heap.size]? = some (.cells #[.int .i64 358115012204568414, .int .i64 5322311199030329] 23 (0, 0)) := by rw [← hW1]; exact heap_alloc_new w1 _
  have hs2 : w2.heap.size = w1.heap.size + 1 := by rw [← hW1, World.size_alloc]
  have hB2 : Below w.heap.size w w2 := by rw [← hW1]; exact Below.alloc HhB1.out hs1 _
  clear hW1
  have Hhk2 := Lib.hid hk2
  clear hk2
  have HhB2 := Lib.hid hB2
  clear hB2
  refine (Hc2.out _ HhB2.out).mono ?_
  rintro e w3 ⟨rfl, hB3⟩
  have hs3 := hB3.size
  have hB3b := HhB2.out.trans (hB3.mono (by omega))
  have hk3 := (hB3.block w1.heap.size (by omega)).trans Hhk2.out
  have HhB3 := Lib.hid hB3
  clear hB3
  have HhB3b := Lib.hid hB3b
  clear hB3b
  have Hhk3 := Lib.hid hk3
  clear hk3
  go_wp2_with fail
  generalize hW3 : World.alloc _ _ = w4
  have hk4 : w4.heap[w1.heap.size]? = some (.cells #[.int .i64 358115012204568414, .int .i64 5322311199030329] 23 (0, 0)) := by
    rw [← hW3, Below.heap_alloc _ _ _ (by omega)]; exact Hhk3.out
  have hg4 : w4.heap[w3.heap.size]? = some (.cells #[.int .i64 863586865880404946, .int .i64 (z : Nat)] 25 (0, 0)) := by rw [← hW3]; exact heap_alloc_new w3 _
  have hs4 : w4.heap.size = w3.heap.size + 1 := by rw [← hW3, World.size_alloc]
  have hB4 : Below w.heap.size w w4 := by rw [← hW3]; exact Below.alloc HhB3b.out (by omega) _
  clear hW3
  obtain ⟨b1, hb1⟩ : ∃ b, b = w1.heap.size := ⟨_, rfl⟩
  obtain ⟨b2, hb2⟩ : ∃ b, b = w3.heap.size := ⟨_, rfl⟩
  rw [← hb1] at hk4 ⊢
  rw [← hb2] at hg4 ⊢
  have hl1 : b1 < w4.heap.size := by omega
  have hl2 : b2 < w4.heap.size := by omega
  have hws : w.heap.size ≤ w4.heap.size := hB4.size
  clear hb1 hb2 hs1 hs2 hs3 hs4
  have hK : ∀ wx, Below w4.heap.size w4 wx → (wx.cell? ⟨b1, 0, none⟩ = some (.int .i64 358115012204568414) ∧ wx.cell? ⟨b1, 1, none⟩ = some (.int .i64 5322311199030329)) ∧ wx.cell? ⟨b2, 0, none⟩ = some (.int .i64 863586865880404946) ∧ wx.cell? ⟨b2, 1, none⟩ = some (.int .i64 (z : Nat)) := fun wx hx => by
    have h1 := (hx.block b1 hl1).trans hk4
    have h2 := (hx.block b2 hl2).trans hg4
    refine ⟨⟨?_, ?_⟩, ?_, ?_⟩
    · rw [cell_of_row _ _ _ _ _ _ h1]; rfl
    · rw [cell_of_row _ _ _ _ _ _ h1]; rfl
    · rw [cell_of_row _ _ _ _ _ _ h2]; rfl
    · rw [cell_of_row _ _ _ _ _ _ h2]; rfl
  have hend : ∀ wx, Below w4.heap.size w4 wx → Below w.heap.size w wx := fun wx hx => hB4.trans (hx.mono hws)
  clear hk4 hg4 hl1 hl2 hws hB4
  have HhK := Lib.hid hK
  clear hK
  have Hhend := Lib.hid hend
  clear hend
  go_wp2_with fail
  refine (Hc3.out _).mono ?_
  rintro e w5 ⟨rfl, hb5⟩
  go_wp2_with fail
  refine (Hc4.out _).mono ?_
  rintro e w6 ⟨rfl, hb6⟩
  have hB6 := hb5.trans (hb6.mono hb5.size)
  obtain ⟨⟨y0, y1⟩, z0, z1⟩ := HhK.out _ hB6
  go_wp2_with fail
  refine (Hc5.out _).mono ?_
  rintro e w7 ⟨rfl, hb7⟩
  have hB7 := hB6.trans (hb7.mono hB6.size)
  clear y0 y1 z0 z1
  obtain ⟨⟨y0, y1⟩, z0, z1⟩ := HhK.out _ hB7
  go_wp2_with fail
  refine (Hc6a.out _ (Hhend.out _ hB7)).mono ?_
  rintro e w8 ⟨rfl, hb8⟩
  have hB8 := hB7.trans (hb8.mono hB7.size)
  clear y0 y1 z0 z1
  obtain ⟨⟨y0, y1⟩, z0, z1⟩ := HhK.out _ hB8
  go_wp2_with fail
  refine (Hc6b.out _ (Hhend.out _ hB8)).mono ?_
  rintro e w9 ⟨rfl, hb9⟩
  have hB9 := hB8.trans (hb9.mono hB8.size)
  clear y0 y1 z0 z1
  obtain ⟨⟨y0, y1⟩, z0, z1⟩ := HhK.out _ hB9
  go_wp2_with fail
  refine (Hc6c.out _ (Hhend.out _ hB9)).mono ?_
  rintro e w10 ⟨rfl, hb10⟩
  have hB10 := hB9.trans (hb10.mono hB9.size)
  go_wp2_with fail
  go_ret
  exact ⟨rfl, Hhend.out _ hB10⟩
theorem short3_calls (a b c : List UInt8) (w : World) (ha : a.length ≤ 140737488355328) (hb : b.length ≤ 140737488355328) (hc : c.length ≤ 140737488355328) :
    Calls Tryd.prog 9 #[.string ⟨a.toArray⟩, .string ⟨b.toArray⟩, .string ⟨c.toArray⟩] w fun e w' => e = .returned (.bool (decide (a.length + b.length + c.length ≤ 2000))) ∧ w = w' := by
  have h1 := str_size a
  have h2 := str_size b
  have h3 := str_size c
  have hd : decide ((a.length : Int) + (b.length : Int) + (c.length : Int) ≤ 2000) = decide (a.length + b.length + c.length ≤ 2000) := decide_eq_decide.2 (by omega)
  go_enter Tryd.func9, Tryd.ntmps9
  go_wp2_with fail
  go_ret
  exact ⟨by rw [← hd]; rfl, rfl⟩
end Go.Proofs.YtjbpjmdnmnbonaaDoor
