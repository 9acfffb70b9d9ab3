/- The walks of sign: challenge, Of, Key. -/
import Derived.Test.YtjbpjmdnmnbonaaDoorX4
import Derived.Laws.ResultCell
set_option linter.unusedSimpArgs false
set_option linter.unusedVariables false
namespace Go.Proofs.YtjbpjmdnmnbonaaDoor
open Go.RowKit

theorem text_calls (l : List UInt8) (m : Int) (w : World) (h : SA m w) (hl : l.length ≤ 1000000) :
    Calls Tryd.prog 27 #[.string ⟨l.toArray⟩] w fun e w' => e = .returned (.string ⟨(encText l).toArray⟩) ∧ Below w.heap.size w w' :=
  Text_calls ⟨l.toArray⟩ m w (by rw [str_size]; exact hl) h.2.2
theorem encText_len2 (l : List UInt8) : (encText l).length ≤ 2 * l.length + 2 := by
  have := encText_le l
  unfold encText; rw [List.length_append]; show _ + 2 ≤ _; omega
def signL : List UInt8 := [115, 105, 103, 110]
def keyL : List UInt8 := [107, 101, 121]
def nonceL : List UInt8 := [110, 111, 110, 99, 101]
def chalS (r pub : Int) (c t : List UInt8) : Nat := shortS [encText signL, numS r, numS pub, encText c, encText t].flatten % 1152921504606845789
theorem chalS_lt (r pub : Int) (c t : List UInt8) : chalS r pub c t < 1152921504606845789 := Nat.mod_lt _ (by decide)

set_option maxRecDepth 100000 in
theorem challenge_calls (r pub : Int) (c t : List UInt8) (m : Int) (w : World) (h : SA m w) (hr : In64 r) (hp : In64 pub) (hc : c.length ≤ 2000) (ht : t.length ≤ 2000) :
    Calls Tryd.prog 32 #[.int .i64 r, .int .i64 pub, .string ⟨c.toArray⟩, .string ⟨t.toArray⟩] w fun e w' => e = .returned (.int .i64 (chalS r pub c t : Nat)) ∧ Below w.heap.size w w' := by
  have h4 := h.2.1
  have hall : ∀ wx, Below w.heap.size w wx → SA m wx := fun wx hx => h.below hx h4
  have c1 : ∀ wx, Below w.heap.size w wx → Calls Tryd.prog 27 #[.string ⟨#[115, 105, 103, 110]⟩] wx fun e w' => e = .returned (.string ⟨(encText signL).toArray⟩) ∧ Below w.heap.size w w' := fun wx hx =>
    (text_calls signL m wx (hall wx hx) (by decide)).mono fun e w' ⟨h1, h2⟩ => ⟨h1, hx.trans (h2.mono hx.size)⟩
  have c2 : ∀ wx, Below w.heap.size w wx → Calls Tryd.prog 31 #[.int .i64 r] wx fun e w' => e = .returned (.string ⟨(numS r).toArray⟩) ∧ Below w.heap.size w w' := fun wx hx =>
    (num_calls r wx hr).mono fun e w' ⟨h1, h2⟩ => ⟨h1, hx.trans (h2.mono hx.size)⟩
  have c3 : ∀ wx, Below w.heap.size w wx → Calls Tryd.prog 31 #[.int .i64 pub] wx fun e w' => e = .returned (.string ⟨(numS pub).toArray⟩) ∧ Below w.heap.size w w' := fun wx hx =>
    (num_calls pub wx hp).mono fun e w' ⟨h1, h2⟩ => ⟨h1, hx.trans (h2.mono hx.size)⟩
  have c4 : ∀ wx, Below w.heap.size w wx → Calls Tryd.prog 27 #[.string ⟨c.toArray⟩] wx fun e w' => e = .returned (.string ⟨(encText c).toArray⟩) ∧ Below w.heap.size w w' := fun wx hx =>
    (text_calls c m wx (hall wx hx) (by omega)).mono fun e w' ⟨h1, h2⟩ => ⟨h1, hx.trans (h2.mono hx.size)⟩
  have c5 : ∀ wx, Below w.heap.size w wx → Calls Tryd.prog 27 #[.string ⟨t.toArray⟩] wx fun e w' => e = .returned (.string ⟨(encText t).toArray⟩) ∧ Below w.heap.size w w' := fun wx hx =>
    (text_calls t m wx (hall wx hx) (by omega)).mono fun e w' ⟨h1, h2⟩ => ⟨h1, hx.trans (h2.mono hx.size)⟩
  have hE : chalS r pub c t = shortS [encText signL, numS r, numS pub, encText c, encText t].flatten % 1152921504606845789 := rfl
  have l1 := encText_len2 signL
  have l2 := numS_len r hr
  have l3 := numS_len pub hp
  have l4 := encText_len2 c
  have l5 := encText_len2 t
  have l1' : signL.length = 4 := rfl
  rw [hE]
  clear hE
  generalize encText signL = A1 at *
  generalize numS r = A2 at *
  generalize numS pub = A3 at *
  generalize encText c = A4 at *
  generalize encText t = A5 at *
  obtain ⟨Z, hZ⟩ : ∃ Z, Z = shortS [A1, A2, A3, A4, A5].flatten := ⟨_, rfl⟩
  have hZl : Z < 1152921504606846976 := by rw [hZ]; exact shortS_lt _
  have hh : ∀ wx, Below w.heap.size w wx → Calls Tryd.prog 42 #[.slice (some ⟨wx.heap.size, 0, none⟩) 5 5] (wx.alloc (.cells #[.string ⟨A1.toArray⟩, .string ⟨A2.toArray⟩, .string ⟨A3.toArray⟩, .string ⟨A4.toArray⟩, .string ⟨A5.toArray⟩] 9)) fun e w' => e = .returned (.int .i64 (Z : Nat)) ∧ Below w.heap.size w w' := fun wx hx => by
    have hB := Below.alloc hx hx.size (.cells #[.string ⟨A1.toArray⟩, .string ⟨A2.toArray⟩, .string ⟨A3.toArray⟩, .string ⟨A4.toArray⟩, .string ⟨A5.toArray⟩] 9)
    have h1 := hash_calls wx.heap.size [A1, A2, A3, A4, A5] (wx.alloc (.cells #[.string ⟨A1.toArray⟩, .string ⟨A2.toArray⟩, .string ⟨A3.toArray⟩, .string ⟨A4.toArray⟩, .string ⟨A5.toArray⟩] 9)) (hall _ hB).1 (str_row wx [A1, A2, A3, A4, A5]) (by simp) (by simp; omega) (by simp)
    rw [← hZ] at h1
    exact h1.mono fun e w' ⟨h1, h2⟩ => ⟨h1, hB.trans (h2.mono hB.size)⟩
  have hrem : (Z : Int).tmod 1152921504606845789 = ((Z % 1152921504606845789 : Nat) : Int) := rfl
  have hml := Nat.mod_lt Z (show 0 < 1152921504606845789 by decide)
  rw [← hZ]
  obtain ⟨z, hz⟩ : ∃ z, z = Z % 1152921504606845789 := ⟨_, rfl⟩
  rw [← hz] at hrem hml
  clear l1 l2 l3 l4 l5
  have Hc1 := Lib.hid c1
  clear c1
  have Hc2 := Lib.hid c2
  clear c2
  have Hc3 := Lib.hid c3
  clear c3
  have Hc4 := Lib.hid c4
  clear c4
  have Hc5 := Lib.hid c5
  clear c5
  have Hhh := Lib.hid hh
  clear hh
  have Hhall := Lib.hid hall
  clear hall
  have Hh := Lib.hid h
  clear h
  have HhZ := Lib.hid hZ
  clear hZ
  have Hhz := Lib.hid hz
  clear hz
  go_enter Tryd.func32, Tryd.ntmps32
  go_wp2_with fail
  refine (Hc1.out _ (Below.refl _ _)).mono ?_
  rintro e w1 ⟨rfl, hB1⟩
  have HhB1 := Lib.hid hB1
  clear hB1
  go_wp2_with fail
  refine (Hc2.out _ HhB1.out).mono ?_
  rintro e w2 ⟨rfl, hB2⟩
  have HhB2 := Lib.hid hB2
  clear hB2
  go_wp2_with fail
  refine (Hc3.out _ HhB2.out).mono ?_
  rintro e w3 ⟨rfl, hB3⟩
  have HhB3 := Lib.hid hB3
  clear hB3
  go_wp2_with fail
  refine (Hc4.out _ HhB3.out).mono ?_
  rintro e w4 ⟨rfl, hB4⟩
  have HhB4 := Lib.hid hB4
  clear hB4
  go_wp2_with fail
  refine (Hc5.out _ HhB4.out).mono ?_
  rintro e w5 ⟨rfl, hB5⟩
  have HhB5 := Lib.hid hB5
  clear hB5
  go_wp2_with fail
  refine (Hhh.out _ HhB5.out).mono ?_
  rintro e w6 ⟨rfl, hB6⟩
  have HhB6 := Lib.hid hB6
  clear hB6
  go_wp2_with fail
  go_ret
  exact ⟨by rw [← Hhz.out]; rfl, HhB6.out⟩

/-- keys and signatures are pairs -/
def pv (k : Int × Int) : Value := .agg #[.int .i64 k.1, .int .i64 k.2]
def ofS (s : Int) : Int × Int := if s < 1 ∨ 1152921504606845789 ≤ s then (0, 0) else (s, (expS 4 s : Nat))
theorem und23 : Tryd.prog.underlying 23 = some (.struct #[{ name := "Secret", type := 3, offset := 0, embedded := false, tag := "", pkgPath := "", byteOffset := 0 }, { name := "Public", type := 3, offset := 1, embedded := false, tag := "", pkgPath := "", byteOffset := 8 }]) := by kernel_rfl
theorem sz23 (a b : Value) : (Tryd.prog.info? 23).map (·.size) = some (#[a, b] : Array Value).size := by
  have : (Tryd.prog.info? 23).map (·.size) = some 2 := by kernel_rfl
  rw [this]; rfl
theorem pv_one (a b : Int) : (#[.int .i64 a, .int .i64 b] : Array Value).all (·.oneCell') = true := by simp [Value.oneCell']
def zeroP : Array Value := #[.int .i64 0, .int .i64 0]
theorem of_calls (s : Int) (w : World) (hs : In64 s) :
    Calls Tryd.prog 12 #[.int .i64 s] w fun e w' => e = .returned (pv (ofS s)) ∧ Below w.heap.size w w' := by
  by_cases h1 : s < 1
  · rw [ofS, if_pos (.inl h1)]
    go_enter Tryd.func12, Tryd.ntmps12
    go_wp2_with fail
    exact bodyPost_ret (results_cell_row (fn := Tryd.f12) rfl _ _ w.heap.size 23 zeroP (0, 0) _ rfl (heap_alloc_new w _) und23 rfl (sz23 _ _)) rfl ⟨rfl, (by ((repeat' (first | exact Below.refl _ _ | (refine Below.alloc ?_ ?_ _) | (refine Below.setCell ?_ ?_ _) | (refine Below.drew ?_) | (refine Below.trans ?_ (Below.mono (by assumption) ?_)))) <;> ((try simp only [World.size_alloc, World.size_setCell, World.size_drew] at *); omega)))⟩
  · by_cases h2 : 1152921504606845789 ≤ s
    · rw [ofS, if_pos (.inr h2)]
      go_enter Tryd.func12, Tryd.ntmps12
      go_wp2_with fail
      exact bodyPost_ret (results_cell_row (fn := Tryd.f12) rfl _ _ w.heap.size 23 zeroP (0, 0) _ rfl (heap_alloc_new w _) und23 rfl (sz23 _ _)) rfl ⟨rfl, (by ((repeat' (first | exact Below.refl _ _ | (refine Below.alloc ?_ ?_ _) | (refine Below.setCell ?_ ?_ _) | (refine Below.drew ?_) | (refine Below.trans ?_ (Below.mono (by assumption) ?_)))) <;> ((try simp only [World.size_alloc, World.size_setCell, World.size_drew] at *); omega)))⟩
    · rw [ofS, if_neg (by omega)]
      have hc := fun wx => exp_calls 4 s wx (by unfold In64; omega) hs
      have hl := expS_lt 4 s
      obtain ⟨z, hz⟩ : ∃ z, z = expS 4 s := ⟨_, rfl⟩
      rw [← hz] at hc hl ⊢
      have Hhc := Lib.hid hc
      clear hc
      have Hhz := Lib.hid hz
      clear hz
      go_enter Tryd.func12, Tryd.ntmps12
      go_wp2_with fail
      refine (Hhc.out _).mono ?_
      rintro e w1 ⟨rfl, hB⟩
      have hrow : w1.heap[w.heap.size]? = some (.cells zeroP 23 (0, 0)) := by rw [hB.block _ (by simp)]; exact heap_alloc_new w _
      have hB0 : Below w.heap.size w w1 := Below.trans (by ((repeat' (first | exact Below.refl _ _ | (refine Below.alloc ?_ ?_ _) | (refine Below.setCell ?_ ?_ _) | (refine Below.drew ?_) | (refine Below.trans ?_ (Below.mono (by assumption) ?_)))) <;> ((try simp only [World.size_alloc, World.size_setCell, World.size_drew] at *); omega))) (hB.mono (by simp))
      clear hB
      have Hhrow := Lib.hid hrow
      clear hrow
      have HhB0 := Lib.hid hB0
      clear hB0
      go_wp2_with (refine wpList_store_row rfl 23 _ _ rfl w.heap.size #[.int .i64 s, .int .i64 z] rfl rfl 23 zeroP Hhrow.out (sz23 _ _) rfl (pv_one _ _) ?_)
      exact bodyPost_ret (results_cell_row (fn := Tryd.f12) rfl _ _ w.heap.size 23 #[.int .i64 s, .int .i64 z] (0, 0) _ rfl (setRow_heap _ _ _ _ _ _ Hhrow.out) und23 rfl (sz23 _ _)) rfl ⟨by rw [Hhz.out]; rfl, below_setRow HhB0.out (Nat.le_refl _) _⟩
end Go.Proofs.YtjbpjmdnmnbonaaDoor
