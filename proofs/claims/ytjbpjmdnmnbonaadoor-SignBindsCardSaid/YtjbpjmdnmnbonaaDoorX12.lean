/- SignBinds: the walk. -/
import Derived.Test.YtjbpjmdnmnbonaaDoorX11
import Derived.Test.YtjbpjmdnmnbonaaDoorE4
set_option linter.unusedSimpArgs false
set_option linter.unusedVariables false
namespace Go.Proofs.YtjbpjmdnmnbonaaDoor
open Go.RowKit

set_option maxRecDepth 100000 in
set_option maxHeartbeats 4000000 in
theorem Binds_calls (seed c t c2 t2 : List UInt8) (m : Int) (w : World) (h : SA m w) (l1 : seed.length ≤ 140737488355328) (l2 : c.length ≤ 140737488355328) (l3 : t.length ≤ 140737488355328) (l4 : c2.length ≤ 140737488355328) (l5 : t2.length ≤ 140737488355328) :
    Calls Tryd.prog 5 #[.string ⟨seed.toArray⟩, .string ⟨c.toArray⟩, .string ⟨t.toArray⟩, .string ⟨c2.toArray⟩, .string ⟨t2.toArray⟩] w fun e w' => e = .returned (.bool true) ∧ Below w.heap.size w w' := by
  have h4 := h.2.1
  have hall : ∀ wx, Below w.heap.size w wx → SA m wx := fun wx hx => h.below hx h4
  have hsm := small_calls m w h
  have hsh := fun wx => short3_calls seed c t wx l1 l2 l3
  have hsh2 := fun wx => short3_calls c2 t2 [] wx l4 l5 (by simp)
  by_cases hlen : seed.length + c.length + t.length ≤ 2000
  · rw [decide_eq_true hlen] at hsh
    by_cases hlen2 : c2.length + t2.length + ([] : List UInt8).length ≤ 2000
    · rw [decide_eq_true hlen2] at hsh2
      simp only [List.length_nil, Nat.add_zero] at hlen2
      obtain ⟨x, hx0, hx1, hkey, -⟩ := key_nat seed
      obtain ⟨e, s, he, hs, hsig⟩ := sig_range hx0 hx1 c t
      have hvs := verS_sig hx0 hx1 c t c2 t2
      rw [hsig] at hvs
      simp only at hvs
      have hp1 := el_lt x
      unfold PP at hp1
      unfold QQ at he hs hx1
      have c1 : ∀ wx, Below w.heap.size w wx → Calls Tryd.prog 10 #[.string ⟨seed.toArray⟩] wx fun e w' => e = .returned (.agg #[.int .i64 (x : Nat), .int .i64 (el x : Nat)]) ∧ Below wx.heap.size wx w' := fun wx hx =>
        (key_calls seed m wx (hall wx hx) (by omega)).mono fun e w' ⟨h1, h2⟩ => ⟨by rw [h1, hkey]; rfl, h2⟩
      have k2 : ∀ wx, Below w.heap.size w wx → Calls Tryd.prog 16 #[.agg #[.int .i64 (x : Nat), .int .i64 (el x : Nat)], .string ⟨c.toArray⟩, .string ⟨t.toArray⟩] wx fun r w' => r = .returned (.agg #[.int .i64 (e : Nat), .int .i64 (s : Nat)]) ∧ Below wx.heap.size wx w' := fun wx hx =>
        (sign_calls ((x : Int), (el x : Int)) c t m wx (hall wx hx) (by unfold In64; simp only; omega) (by unfold In64; simp only; omega) (by omega) (by omega)).mono fun r w' ⟨h1, h2⟩ => ⟨by rw [h1, hsig]; rfl, h2⟩
      obtain ⟨r0, hr0⟩ : ∃ r, r = elemS (el x : Int) ((e : Int), (s : Int)) := ⟨_, rfl⟩
      have hrl : r0 < 2305843009213691579 := by rw [hr0]; exact Nat.mod_lt _ (by decide)
      obtain ⟨z, hz⟩ : ∃ r, r = chalS (r0 : Nat) (el x : Int) c2 t2 := ⟨_, rfl⟩
      have hzl : z < 1152921504606845789 := by rw [hz]; exact chalS_lt _ _ _ _
      have k3 : ∀ wx, Calls Tryd.prog 20 #[.int .i64 (el x : Nat), .agg #[.int .i64 (e : Nat), .int .i64 (s : Nat)]] wx fun r w' => r = .returned (.int .i64 (r0 : Nat)) ∧ Below wx.heap.size wx w' := fun wx =>
        (refElement_calls (el x : Nat) (e : Nat) (s : Nat) wx (by unfold In64; omega) (by omega) (by omega) (by unfold In64; omega)).mono fun r w' ⟨h1, h2⟩ => ⟨by rw [h1, hr0], h2⟩
      have k4 : ∀ wx, Calls Tryd.prog 21 #[.int .i64 (r0 : Nat), .int .i64 (el x : Nat), .string ⟨c2.toArray⟩, .string ⟨t2.toArray⟩] wx fun r w' => r = .returned (.int .i64 (z : Nat)) ∧ Below wx.heap.size wx w' := fun wx =>
        (refChallenge_calls (r0 : Nat) (el x : Nat) c2 t2 wx (by unfold In64; omega) (by unfold In64; omega) (by omega) (by omega)).mono fun r w' ⟨h1, h2⟩ => ⟨by rw [h1, hz], h2⟩
      rw [← hr0, ← hz] at hvs
      obtain ⟨B, hB⟩ : ∃ B, ((z : Int) == (e : Int)) = B := ⟨_, rfl⟩
      rw [hB] at hvs
      have k5 : ∀ wx, Below w.heap.size w wx → Calls Tryd.prog 18 #[.int .i64 (el x : Nat), .string ⟨c2.toArray⟩, .string ⟨t2.toArray⟩, .agg #[.int .i64 (e : Nat), .int .i64 (s : Nat)]] wx fun r w' => r = .returned (.bool B) ∧ Below wx.heap.size wx w' := fun wx hx =>
        (verify_calls (el x : Nat) c2 t2 ((e : Int), (s : Int)) m wx (hall wx hx) (by unfold In64; omega) (by omega) (by omega)).mono fun r w' ⟨h1, h2⟩ => ⟨by rw [h1, hvs], h2⟩
      obtain ⟨p, hp⟩ : ∃ p, p = el x := ⟨_, rfl⟩
      rw [← hp] at c1 k2 k3 k4 k5 hp1
      clear hlen hlen2 hr0 hz hkey hsig hvs
      have Hhsm := Lib.hid hsm
      clear hsm
      have Hhsh := Lib.hid hsh
      clear hsh
      have Hhsh2 := Lib.hid hsh2
      clear hsh2
      have Hc1 := Lib.hid c1
      clear c1
      have Hk2 := Lib.hid k2
      clear k2
      have Hk3 := Lib.hid k3
      clear k3
      have Hk4 := Lib.hid k4
      clear k4
      have Hk5 := Lib.hid k5
      clear k5
      have Hhall := Lib.hid hall
      clear hall
      have Hh := Lib.hid h
      clear h
      have Hhp := Lib.hid hp
      clear hp
      have HhB := Lib.hid hB
      clear hB
      go_enter Tryd.func5, Tryd.ntmps5
      go_wp2_with fail
      refine Hhsm.out.mono ?_
      rintro r w1 ⟨rfl, hB1⟩
      have hs1 := hB1.size
      have HhB1 := Lib.hid hB1
      clear hB1
      go_wp2_with fail
      refine (Hhsh.out w1).mono ?_
      rintro r w1' ⟨rfl, rfl⟩
      go_wp2_with fail
      refine (Hhsh2.out w1).mono ?_
      rintro r w1' ⟨rfl, rfl⟩
      go_wp2_with fail
      refine (Hc1.out w1 HhB1.out).mono ?_
      rintro r w2 ⟨rfl, hB2⟩
      have hs2 := hB2.size
      have hB2b := HhB1.out.trans (hB2.mono hs1)
      have HhB2 := Lib.hid hB2
      clear hB2
      have HhB2b := Lib.hid hB2b
      clear hB2b
      go_wp2_with fail
      generalize hW1 : World.alloc _ _ = w3
      have hk3 : w3.heap[w2.heap.size]? = some (.cells #[.int .i64 (x : Nat), .int .i64 (p : Nat)] 23 (0, 0)) := by rw [← hW1]; exact heap_alloc_new w2 _
      have hs3 : w3.heap.size = w2.heap.size + 1 := by rw [← hW1, World.size_alloc]
      have hB3 : Below w.heap.size w w3 := by rw [← hW1]; exact Below.alloc HhB2b.out (by omega) _
      clear hW1
      have Hhk3 := Lib.hid hk3
      clear hk3
      have HhB3 := Lib.hid hB3
      clear hB3
      refine (Hk2.out _ HhB3.out).mono ?_
      rintro r w4 ⟨rfl, hB4⟩
      have hs4 := hB4.size
      have hB4b := HhB3.out.trans (hB4.mono (by omega))
      have hk4 := (hB4.block w2.heap.size (by omega)).trans Hhk3.out
      obtain ⟨y0, y1⟩ := row2 hk4
      have q1 : w2.heap.size < w4.heap.size := by omega
      have HhB4 := Lib.hid hB4
      clear hB4
      have HhB4b := Lib.hid hB4b
      clear hB4b
      have Hhk4 := Lib.hid hk4
      clear hk4
      go_wp2_with fail
      clear y0 y1
      generalize hW3 : World.alloc _ _ = w5
      have hk5 : w5.heap[w2.heap.size]? = some (.cells #[.int .i64 (x : Nat), .int .i64 (p : Nat)] 23 (0, 0)) := by
        rw [← hW3, Below.heap_alloc _ _ _ (by omega)]; exact Hhk4.out
      have hg5 : w5.heap[w4.heap.size]? = some (.cells #[.int .i64 (e : Nat), .int .i64 (s : Nat)] 25 (0, 0)) := by rw [← hW3]; exact heap_alloc_new w4 _
      have hs5 : w5.heap.size = w4.heap.size + 1 := by rw [← hW3, World.size_alloc]
      have hB5 : Below w.heap.size w w5 := by rw [← hW3]; exact Below.alloc HhB4b.out (by omega) _
      clear hW3
      obtain ⟨b1, hb1⟩ : ∃ b, b = w2.heap.size := ⟨_, rfl⟩
      obtain ⟨b2, hb2⟩ : ∃ b, b = w4.heap.size := ⟨_, rfl⟩
      rw [← hb1] at hk5 ⊢
      rw [← hb2] at hg5 ⊢
      have hl1 : b1 < w5.heap.size := by omega
      have hl2 : b2 < w5.heap.size := by omega
      have hws : w.heap.size ≤ w5.heap.size := hB5.size
      clear hb1 hb2 hs1 hs2 hs3 hs4 hs5 q1
      have hK : ∀ wx, Below w5.heap.size w5 wx → (wx.cell? ⟨b1, 0, none⟩ = some (.int .i64 (x : Nat)) ∧ wx.cell? ⟨b1, 1, none⟩ = some (.int .i64 (p : Nat))) ∧ wx.cell? ⟨b2, 0, none⟩ = some (.int .i64 (e : Nat)) ∧ wx.cell? ⟨b2, 1, none⟩ = some (.int .i64 (s : Nat)) := fun wx hx =>
        ⟨row2 ((hx.block b1 hl1).trans hk5), row2 ((hx.block b2 hl2).trans hg5)⟩
      have hend : ∀ wx, Below w5.heap.size w5 wx → Below w.heap.size w wx := fun wx hx => hB5.trans (hx.mono hws)
      clear hk5 hg5 hl1 hl2 hws
      have hk4' : ∀ wx, Below w5.heap.size w5 wx → Calls Tryd.prog 21 #[.int .i64 (r0 : Nat), .int .i64 (p : Nat), .string ⟨c2.toArray⟩, .string ⟨t2.toArray⟩] wx fun r w' => r = .returned (.int .i64 (z : Nat)) ∧ Below w5.heap.size w5 w' := fun wx hx =>
        (Hk4.out wx).mono fun r w' ⟨h1, h2⟩ => ⟨h1, hx.trans (h2.mono hx.size)⟩
      have HhK := Lib.hid hK
      clear hK
      have Hhend := Lib.hid hend
      clear hend
      have HhB5 := Lib.hid hB5
      clear hB5
      have Hhk4' := Lib.hid hk4'
      clear hk4'
      refine (Hk3.out w5).mono ?_
      rintro r w6 ⟨rfl, hb6⟩
      have hBq := HhB.out
      go_wp2_with fail
      first | (go_region_held3 (fun w' => (w'.cell? ⟨b1, 0, none⟩ = some (.int .i64 (x : Nat)) ∧ w'.cell? ⟨b1, 1, none⟩ = some (.int .i64 (p : Nat))) ∧ w'.cell? ⟨b2, 0, none⟩ = some (.int .i64 (e : Nat)) ∧ w'.cell? ⟨b2, 1, none⟩ = some (.int .i64 (s : Nat))) (exact HhK.out _ (by first | assumption | exact Below.refl _ _ | exact (Below.refl _ _).drew | exact Below.drew (by assumption))) (first | (go_at_call 21; refine (Hhk4'.out _ (by first | assumption | exact Below.refl _ _ | exact (Below.refl _ _).drew | exact Below.drew (by assumption))).mono ?_; rintro r wa ⟨rfl, hba⟩))) | fail
      obtain ⟨⟨y0, y1⟩, z0, z1⟩ := HhK.out _ hba
      go_wp2_with fail
      refine (Hk5.out wa (Hhend.out _ hba)).mono ?_
      rintro r w8 ⟨rfl, hb8⟩
      have hB8 := hba.trans (hb8.mono hba.size)
      clear y0 y1 z0 z1
      go_wp2_with fail
      go_ret
      exact ⟨by simp, Hhend.out _ hB8⟩
    · rw [decide_eq_false hlen2] at hsh2
      clear hlen hlen2
      have Hhsm := Lib.hid hsm
      clear hsm
      have Hhsh := Lib.hid hsh
      clear hsh
      have Hhsh2 := Lib.hid hsh2
      clear hsh2
      have Hhall := Lib.hid hall
      clear hall
      have Hh := Lib.hid h
      clear h
      go_enter Tryd.func5, Tryd.ntmps5
      go_wp2_with fail
      refine Hhsm.out.mono ?_
      rintro r w1 ⟨rfl, hB1⟩
      have HhB1 := Lib.hid hB1
      clear hB1
      go_wp2_with fail
      refine (Hhsh.out w1).mono ?_
      rintro r w1' ⟨rfl, rfl⟩
      go_wp2_with fail
      refine (Hhsh2.out w1).mono ?_
      rintro r w1' ⟨rfl, rfl⟩
      go_wp2_with fail
      go_ret
      exact ⟨rfl, HhB1.out⟩
  · rw [decide_eq_false hlen] at hsh
    obtain ⟨Q, hQ⟩ : ∃ Q, decide (c2.length + t2.length + ([] : List UInt8).length ≤ 2000) = Q := ⟨_, rfl⟩
    rw [hQ] at hsh2
    clear hlen hQ
    have Hhsm := Lib.hid hsm
    clear hsm
    have Hhsh := Lib.hid hsh
    clear hsh
    have Hhsh2 := Lib.hid hsh2
    clear hsh2
    have Hhall := Lib.hid hall
    clear hall
    have Hh := Lib.hid h
    clear h
    go_enter Tryd.func5, Tryd.ntmps5
    go_wp2_with fail
    refine Hhsm.out.mono ?_
    rintro r w1 ⟨rfl, hB1⟩
    have HhB1 := Lib.hid hB1
    clear hB1
    go_wp2_with fail
    refine (Hhsh.out w1).mono ?_
    rintro r w1' ⟨rfl, rfl⟩
    go_wp2_with fail
    refine (Hhsh2.out w1).mono ?_
    rintro r w1' ⟨rfl, rfl⟩
    go_wp2_with fail
    go_ret
    exact ⟨rfl, HhB1.out⟩
theorem Binds_at (s0 s1 s2 s3 s4 : ByteArray) (m : Int) (w : World) (h : SA m w) (l1 : s0.data.toList.length ≤ reachBytes) (l2 : s1.data.toList.length ≤ reachBytes) (l3 : s2.data.toList.length ≤ reachBytes) (l4 : s3.data.toList.length ≤ reachBytes) (l5 : s4.data.toList.length ≤ reachBytes) :
    Calls Tryd.prog 5 #[.string s0, .string s1, .string s2, .string s3, .string s4] w fun e w' => e = .returned (.bool true) ∧ Below w.heap.size w w' := by
  unfold reachBytes at l1 l2 l3 l4 l5
  have := Binds_calls s0.data.toList s1.data.toList s2.data.toList s3.data.toList s4.data.toList m w h (by omega) (by omega) (by omega) (by omega) (by omega)
  have e : ∀ s : ByteArray, (⟨s.data.toList.toArray⟩ : ByteArray) = s := fun s => by apply ByteArray.ext; simp
  rwa [e, e, e, e, e] at this
end Go.Proofs.YtjbpjmdnmnbonaaDoor
