/- SignRanges: plain law and walk. -/
import Derived.Test.YtjbpjmdnmnbonaaDoorX9
set_option linter.unusedSimpArgs false
set_option linter.unusedVariables false
namespace Go.Proofs.YtjbpjmdnmnbonaaDoor
open Go.RowKit

theorem neg_sq {p y : Nat} (h : y ≤ p) : (p - y) * (p - y) % p = y * y % p := by
  obtain ⟨z, rfl⟩ : ∃ z, p = y + z := ⟨p - y, by omega⟩
  rw [Nat.add_sub_cancel_left]
  have h1 : z * z + y * (y + z) = y * y + z * (y + z) := by rw [Nat.mul_add, Nat.mul_add, Nat.mul_comm z y]; omega
  have h2 := congrArg (· % (y + z)) h1
  simpa [Nat.add_mul_mod_self_right] using h2
theorem neg_even {p y : Nat} (h : y ≤ p) (k : Nat) : (p - y) ^ (2 * k) % p = y ^ (2 * k) % p := by
  rw [Nat.pow_mul, Nat.pow_mul, Nat.pow_two, Nat.pow_two, Nat.pow_mod, neg_sq h, ← Nat.pow_mod]
theorem neg_odd {p y k : Nat} (h : y ≤ p) (hp : 2 < p) (hy : y ^ (2 * k + 1) % p = 1) : (p - y) ^ (2 * k + 1) % p ≠ 1 := by
  intro h1
  rw [Nat.pow_succ, Nat.mul_mod, neg_even h, ← Nat.mul_mod] at h1
  rw [Nat.pow_succ] at hy
  have h2 : (y ^ (2 * k) * (p - y) + y ^ (2 * k) * y) % p = 0 := by
    rw [← Nat.mul_add, show p - y + y = p by omega, Nat.mul_mod_left]
  rw [Nat.add_mod, h1, hy, Nat.mod_eq_of_lt hp] at h2
  omega
theorem in_neg {x : Nat} : inG (2305843009213691579 - (el x : Int)) = false := by
  have h1 := el_pos x
  have h2 := el_lt x
  obtain ⟨k, hk⟩ : ∃ k, QQ = 2 * k + 1 := ⟨576460752303422894, by decide⟩
  have h3 := neg_odd (p := PP) (y := el x) (k := k) (by omega) (by decide) (by rw [← hk]; exact el_q x)
  rw [← hk] at h3
  have h4 : (2305843009213691579 : Int) - (el x : Int) = ((PP - el x : Nat) : Int) := by unfold PP at *; omega
  have h5 : expS ((PP - el x : Nat) : Int) 1152921504606845789 = (PP - el x) ^ QQ % PP := expS_nat (PP - el x) QQ (by unfold PP at *; omega)
  rw [h4]
  unfold inG
  rw [h5]
  have h6 : ((PP - el x) ^ QQ % PP == 1) = false := by rw [beq_eq_false_iff_ne]; exact h3
  rw [h6, Bool.and_false, Bool.and_false]
theorem in_low {y : Int} (h : y ≤ 0) : inG y = false := by unfold inG; rw [decide_eq_false (by omega), Bool.false_and]
theorem ver_notin {p : Int} {c t : List UInt8} {s : Int × Int} (h : inG p = false) : verS p c t s = false := by
  unfold verS; rw [decide_eq_false (by rintro ⟨_, h2, _⟩; rw [h] at h2; cases h2), Bool.false_and]
theorem ver_outE {p : Int} {c t : List UInt8} {a b : Int} (h : a < 0 ∨ 1152921504606845789 ≤ a) : verS p c t (a, b) = false := by
  unfold verS; rw [decide_eq_false (by rintro ⟨_, _, h1, h2, _⟩; simp only at h1 h2; omega), Bool.false_and]
theorem ver_outS {p : Int} {c t : List UInt8} {a b : Int} (h : b < 0 ∨ 1152921504606845789 ≤ b) : verS p c t (a, b) = false := by
  unfold verS; rw [decide_eq_false (by rintro ⟨_, _, _, _, h1, h2⟩; simp only at h1 h2; omega), Bool.false_and]

set_option maxRecDepth 100000 in
set_option maxHeartbeats 4000000 in
theorem Ranges_calls (seed c t : List UInt8) (n m : Int) (w : World) (h : SA m w) (l1 : seed.length ≤ 140737488355328) (l2 : c.length ≤ 140737488355328) (l3 : t.length ≤ 140737488355328) :
    Calls Tryd.prog 6 #[.string ⟨seed.toArray⟩, .string ⟨c.toArray⟩, .string ⟨t.toArray⟩, .int .i64 n] w fun e w' => e = .returned (.bool true) ∧ Below w.heap.size w w' := by
  have h4 := h.2.1
  have hall : ∀ wx, Below w.heap.size w wx → SA m wx := fun wx hx => h.below hx h4
  have hsm := small_calls m w h
  have hsh := fun wx => short3_calls seed c t wx l1 l2 l3
  by_cases hlen : seed.length + c.length + t.length ≤ 2000
  · rw [decide_eq_true hlen] at hsh
    by_cases hn : n ≠ 0 ∧ -3 ≤ n ∧ n ≤ 3
    · obtain ⟨hn0, hn1, hn2⟩ := hn
      obtain ⟨x, hx0, hx1, hkey, -⟩ := key_nat seed
      obtain ⟨e, s, he, hs, hsig⟩ := sig_range hx0 hx1 c t
      have hp0 := el_pos x
      have hp1 := el_lt x
      have c1 : ∀ wx, Below w.heap.size w wx → Calls Tryd.prog 10 #[.string ⟨seed.toArray⟩] wx fun e w' => e = .returned (.agg #[.int .i64 (x : Nat), .int .i64 (el x : Nat)]) ∧ Below wx.heap.size wx w' := fun wx hx =>
        (key_calls seed m wx (hall wx hx) (by omega)).mono fun e w' ⟨h1, h2⟩ => ⟨by rw [h1, hkey]; rfl, h2⟩
      have c2 : ∀ wx, Below w.heap.size w wx → Calls Tryd.prog 16 #[.agg #[.int .i64 (x : Nat), .int .i64 (el x : Nat)], .string ⟨c.toArray⟩, .string ⟨t.toArray⟩] wx fun r w' => r = .returned (.agg #[.int .i64 (e : Nat), .int .i64 (s : Nat)]) ∧ Below wx.heap.size wx w' := fun wx hx =>
        (sign_calls ((x : Int), (el x : Int)) c t m wx (hall wx hx) (by unfold QQ at hx1; unfold In64; simp only; omega) (by unfold PP at hp1; unfold In64; simp only; omega) (by omega) (by omega)).mono fun r w' ⟨h1, h2⟩ => ⟨by rw [h1, hsig]; rfl, h2⟩
      have hv : ∀ (p a b : Int) wx, In64 p → Below w.heap.size w wx → verS p c t (a, b) = false → Calls Tryd.prog 18 #[.int .i64 p, .string ⟨c.toArray⟩, .string ⟨t.toArray⟩, .agg #[.int .i64 a, .int .i64 b]] wx fun r w' => r = .returned (.bool false) ∧ Below wx.heap.size wx w' := fun p a b wx hp hx hf =>
        (verify_calls p c t (a, b) m wx (hall wx hx) hp (by omega) (by omega)).mono fun r w' ⟨h1, h2⟩ => ⟨by rw [h1, hf], h2⟩
      have hneg := in_neg (x := x)
      obtain ⟨p, hp⟩ : ∃ p, p = el x := ⟨_, rfl⟩
      rw [← hp] at c1 c2 hp0 hp1 hneg
      unfold PP at hp1
      unfold QQ at he hs hx1
      have v1 : ∀ wx, Below w.heap.size w wx → Calls Tryd.prog 18 #[.int .i64 (p : Nat), .string ⟨c.toArray⟩, .string ⟨t.toArray⟩, .agg #[.int .i64 ((e : Int) + n * 1152921504606845789), .int .i64 (s : Nat)]] wx fun r w' => r = .returned (.bool false) ∧ Below wx.heap.size wx w' := fun wx hx => hv _ _ _ wx (by unfold In64; omega) hx (ver_outE (by omega))
      have v2 : ∀ wx, Below w.heap.size w wx → Calls Tryd.prog 18 #[.int .i64 (p : Nat), .string ⟨c.toArray⟩, .string ⟨t.toArray⟩, .agg #[.int .i64 (e : Nat), .int .i64 ((s : Int) + n * 1152921504606845789)]] wx fun r w' => r = .returned (.bool false) ∧ Below wx.heap.size wx w' := fun wx hx => hv _ _ _ wx (by unfold In64; omega) hx (ver_outS (by omega))
      have v3 : n < 0 → ∀ wx, Below w.heap.size w wx → Calls Tryd.prog 18 #[.int .i64 ((p : Int) + n * 2305843009213691579), .string ⟨c.toArray⟩, .string ⟨t.toArray⟩, .agg #[.int .i64 (e : Nat), .int .i64 (s : Nat)]] wx fun r w' => r = .returned (.bool false) ∧ Below wx.heap.size wx w' := fun hn wx hx => hv _ _ _ wx (by unfold In64; omega) hx (ver_notin (in_low (by omega)))
      have v4 : ∀ wx, Below w.heap.size w wx → Calls Tryd.prog 18 #[.int .i64 (2305843009213691579 - (p : Int)), .string ⟨c.toArray⟩, .string ⟨t.toArray⟩, .agg #[.int .i64 (e : Nat), .int .i64 (s : Nat)]] wx fun r w' => r = .returned (.bool false) ∧ Below wx.heap.size wx w' := fun wx hx => hv _ _ _ wx (by unfold In64; omega) hx (ver_notin hneg)
      have hb0 : (n == 0) = false := by simp [hn0]
      clear hv hneg hkey hsig hlen
      have Hhsm := Lib.hid hsm
      clear hsm
      have Hhsh := Lib.hid hsh
      clear hsh
      have Hc1 := Lib.hid c1
      clear c1
      have Hc2 := Lib.hid c2
      clear c2
      have Hv1 := Lib.hid v1
      clear v1
      have Hv2 := Lib.hid v2
      clear v2
      have Hv3 := Lib.hid v3
      clear v3
      have Hv4 := Lib.hid v4
      clear v4
      have Hhall := Lib.hid hall
      clear hall
      have Hh := Lib.hid h
      clear h
      have Hhp := Lib.hid hp
      clear hp
      go_enter Tryd.func6, Tryd.ntmps6
      go_wp2_with fail
      refine Hhsm.out.mono ?_
      rintro r w1 ⟨rfl, hB1⟩
      have hs1 := hB1.size
      have HhB1 := Lib.hid hB1
      clear hB1
      go_wp2_with fail
      refine (Hhsh.out w1).mono ?_
      rintro r w1' ⟨rfl, rfl⟩
      go_wp2_with fail
      refine (Hc1.out w1 HhB1.out).mono ?_
      rintro r w2 ⟨rfl, hB2⟩
      have hs2 := hB2.size
      have hB2b := HhB1.out.trans (hB2.mono hs1)
      have HhB2 := Lib.hid hB2
      clear hB2
      have HhB2b := Lib.hid hB2b
      clear hB2b
      go_wp2_with fail
      generalize hW1 : World.alloc _ _ = w3
      have hk3 : w3.heap[w2.heap.size]? = some (.cells #[.int .i64 (x : Nat), .int .i64 (p : Nat)] 23 (0, 0)) := by rw [← hW1]; exact heap_alloc_new w2 _
      have hs3 : w3.heap.size = w2.heap.size + 1 := by rw [← hW1, World.size_alloc]
      have hB3 : Below w.heap.size w w3 := by rw [← hW1]; exact Below.alloc HhB2b.out (by omega) _
      clear hW1
      have Hhk3 := Lib.hid hk3
      clear hk3
      have HhB3 := Lib.hid hB3
      clear hB3
      refine (Hc2.out _ HhB3.out).mono ?_
      rintro r w4 ⟨rfl, hB4⟩
      have hs4 := hB4.size
      have hB4b := HhB3.out.trans (hB4.mono (by omega))
      have hk4 := (hB4.block w2.heap.size (by omega)).trans Hhk3.out
      have y0 : w4.cell? ⟨w2.heap.size, 0, none⟩ = some (.int .i64 (x : Nat)) := by rw [cell_of_row _ _ _ _ _ _ hk4]; rfl
      have y1 : w4.cell? ⟨w2.heap.size, 1, none⟩ = some (.int .i64 (p : Nat)) := by rw [cell_of_row _ _ _ _ _ _ hk4]; rfl
      have q1 : w2.heap.size < w4.heap.size := by omega
      have HhB4 := Lib.hid hB4
      clear hB4
      have HhB4b := Lib.hid hB4b
      clear hB4b
      have Hhk4 := Lib.hid hk4
      clear hk4
      go_wp2_with fail
      clear y0 y1
      generalize hW3 : World.alloc _ _ = w5
      have hk5 : w5.heap[w2.heap.size]? = some (.cells #[.int .i64 (x : Nat), .int .i64 (p : Nat)] 23 (0, 0)) := by
        rw [← hW3, Below.heap_alloc _ _ _ (by omega)]; exact Hhk4.out
      have hg5 : w5.heap[w4.heap.size]? = some (.cells #[.int .i64 (e : Nat), .int .i64 (s : Nat)] 25 (0, 0)) := by rw [← hW3]; exact heap_alloc_new w4 _
      have hs5 : w5.heap.size = w4.heap.size + 1 := by rw [← hW3, World.size_alloc]
      have hB5 : Below w.heap.size w w5 := by rw [← hW3]; exact Below.alloc HhB4b.out (by omega) _
      clear hW3
      obtain ⟨b1, hb1⟩ : ∃ b, b = w2.heap.size := ⟨_, rfl⟩
      obtain ⟨b2, hb2⟩ : ∃ b, b = w4.heap.size := ⟨_, rfl⟩
      rw [← hb1] at hk5 ⊢
      rw [← hb2] at hg5 ⊢
      have hl1 : b1 < w5.heap.size := by omega
      have hl2 : b2 < w5.heap.size := by omega
      have hws : w.heap.size ≤ w5.heap.size := hB5.size
      clear hb1 hb2 hs1 hs2 hs3 hs4 hs5 q1
      have hK : ∀ wx, Below w5.heap.size w5 wx → (wx.cell? ⟨b1, 0, none⟩ = some (.int .i64 (x : Nat)) ∧ wx.cell? ⟨b1, 1, none⟩ = some (.int .i64 (p : Nat))) ∧ wx.cell? ⟨b2, 0, none⟩ = some (.int .i64 (e : Nat)) ∧ wx.cell? ⟨b2, 1, none⟩ = some (.int .i64 (s : Nat)) := fun wx hx => by
        have h1 := (hx.block b1 hl1).trans hk5
        have h2 := (hx.block b2 hl2).trans hg5
        refine ⟨⟨?_, ?_⟩, ?_, ?_⟩
        · rw [cell_of_row _ _ _ _ _ _ h1]; rfl
        · rw [cell_of_row _ _ _ _ _ _ h1]; rfl
        · rw [cell_of_row _ _ _ _ _ _ h2]; rfl
        · rw [cell_of_row _ _ _ _ _ _ h2]; rfl
      have hend : ∀ wx, Below w5.heap.size w5 wx → Below w.heap.size w wx := fun wx hx => hB5.trans (hx.mono hws)
      clear hk5 hg5 hl1 hl2 hws
      have HhK := Lib.hid hK
      clear hK
      have Hhend := Lib.hid hend
      clear hend
      have HhB5 := Lib.hid hB5
      clear hB5
      refine (Hv1.out _ HhB5.out).mono ?_
      rintro r w6 ⟨rfl, hb6⟩
      obtain ⟨⟨y0, y1⟩, z0, z1⟩ := HhK.out _ hb6
      go_wp2_with fail
      refine (Hv2.out _ (Hhend.out _ hb6)).mono ?_
      rintro r w7 ⟨rfl, hb7⟩
      have hB7 := hb6.trans (hb7.mono hb6.size)
      clear y0 y1 z0 z1
      obtain ⟨⟨y0, y1⟩, z0, z1⟩ := HhK.out _ hB7
      by_cases hneg : n < 0
      · go_wp2_with fail
        refine (Hv3.out hneg _ (Hhend.out _ hB7)).mono ?_
        rintro r w8 ⟨rfl, hb8⟩
        have hB8 := hB7.trans (hb8.mono hB7.size)
        clear y0 y1 z0 z1
        obtain ⟨⟨y0, y1⟩, z0, z1⟩ := HhK.out _ hB8
        go_wp2_with fail
        refine (Hv4.out _ (Hhend.out _ hB8)).mono ?_
        rintro r w9 ⟨rfl, hb9⟩
        have hB9 := hB8.trans (hb9.mono hB8.size)
        clear y0 y1 z0 z1
        go_wp2_with fail
        go_ret
        exact ⟨rfl, Hhend.out _ hB9⟩
      · go_wp2_with fail
        refine (Hv4.out _ (Hhend.out _ hB7)).mono ?_
        rintro r w9 ⟨rfl, hb9⟩
        have hB9 := hB7.trans (hb9.mono hB7.size)
        clear y0 y1 z0 z1
        go_wp2_with fail
        go_ret
        exact ⟨rfl, Hhend.out _ hB9⟩
    · rcases (show n = 0 ∨ (n ≠ 0 ∧ n < -3) ∨ (n ≠ 0 ∧ -3 ≤ n ∧ 3 < n) by omega) with q1 | ⟨q1, q2⟩ | ⟨q1, q2, q3⟩
      all_goals
        clear hn hlen
        have Hhsm := Lib.hid hsm
        clear hsm
        have Hhsh := Lib.hid hsh
        clear hsh
        have Hhall := Lib.hid hall
        clear hall
        have Hh := Lib.hid h
        clear h
        go_enter Tryd.func6, Tryd.ntmps6
        go_wp2_with fail
        refine Hhsm.out.mono ?_
        rintro r w1 ⟨rfl, hB1⟩
        have HhB1 := Lib.hid hB1
        clear hB1
        go_wp2_with fail
        refine (Hhsh.out w1).mono ?_
        rintro r w1' ⟨rfl, rfl⟩
        go_wp2_with fail
        go_ret
        exact ⟨rfl, HhB1.out⟩
  · rw [decide_eq_false hlen] at hsh
    clear hlen
    have Hhsm := Lib.hid hsm
    clear hsm
    have Hhsh := Lib.hid hsh
    clear hsh
    have Hhall := Lib.hid hall
    clear hall
    have Hh := Lib.hid h
    clear h
    go_enter Tryd.func6, Tryd.ntmps6
    go_wp2_with fail
    refine Hhsm.out.mono ?_
    rintro r w1 ⟨rfl, hB1⟩
    have HhB1 := Lib.hid hB1
    clear hB1
    go_wp2_with fail
    refine (Hhsh.out w1).mono ?_
    rintro r w1' ⟨rfl, rfl⟩
    go_wp2_with fail
    go_ret
    exact ⟨rfl, HhB1.out⟩
theorem Ranges_at (s0 s1 s2 : ByteArray) (n m : Int) (w : World) (h : SA m w) (l1 : s0.data.toList.length ≤ reachBytes) (l2 : s1.data.toList.length ≤ reachBytes) (l3 : s2.data.toList.length ≤ reachBytes) :
    Calls Tryd.prog 6 #[.string s0, .string s1, .string s2, .int .i64 n] w fun e w' => e = .returned (.bool true) ∧ Below w.heap.size w w' := by
  unfold reachBytes at l1 l2 l3
  have := Ranges_calls s0.data.toList s1.data.toList s2.data.toList n m w h (by omega) (by omega) (by omega)
  have e : ∀ s : ByteArray, (⟨s.data.toList.toArray⟩ : ByteArray) = s := fun s => by apply ByteArray.ext; simp
  rwa [e, e, e] at this
end Go.Proofs.YtjbpjmdnmnbonaaDoor
