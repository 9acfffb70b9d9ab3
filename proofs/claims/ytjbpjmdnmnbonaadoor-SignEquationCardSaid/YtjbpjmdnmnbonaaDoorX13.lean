/- SignEquation: plain law and walk. -/
import Derived.Test.YtjbpjmdnmnbonaaDoorX11
import Derived.Test.YtjbpjmdnmnbonaaDoorE4
set_option linter.unusedSimpArgs false
set_option linter.unusedVariables false
namespace Go.Proofs.YtjbpjmdnmnbonaaDoor
open Go.RowKit

theorem exp_neg (E Q : Nat) (hE : E < Q) : (E * (2 * Q - 1)) % Q = (Q - E) % Q := by
  cases E with
  | zero => simp
  | succ k =>
    have h1 : (k + 1) * (2 * Q - 1) = (Q - (k + 1)) + Q * (2 * k + 1) := by
      obtain ⟨d, rfl⟩ : ∃ d, Q = k + 1 + d := ⟨Q - (k + 1), by omega⟩
      rw [show 2 * (k + 1 + d) - 1 = 2 * k + 1 + 2 * d by omega, Nat.add_sub_cancel_left]
      simp only [Nat.mul_add, Nat.add_mul, Nat.one_mul, Nat.mul_one]
      have e1 : k * (2 * k) = 2 * (k * k) := by rw [Nat.mul_left_comm]
      have e2 : k * (2 * d) = 2 * (k * d) := by rw [Nat.mul_left_comm]
      have e3 : d * (2 * k) = 2 * (k * d) := by rw [Nat.mul_left_comm, Nat.mul_comm d k]
      omega
    rw [h1, Nat.add_mul_mod_self_left]
theorem inv_eq {y E : Nat} (hy : y ^ QQ % PP = 1) (hE : E < QQ) : (y ^ E % PP) ^ (PP - 2) % PP = y ^ (QQ - E) % PP := by
  have hy' : y ^ QQ % PP = 1 % PP := by rw [hy, one_pp]
  rw [← Nat.pow_mod, ← Nat.pow_mul, pow_rest hy', pow_rest hy' (QQ - E), show PP - 2 = 2 * QQ - 1 by decide, exp_neg E QQ hE]
theorem pow_q_one {y k : Nat} (hy : y ^ QQ % PP = 1) : (y ^ k % PP) ^ QQ % PP = 1 := by
  have hy' : y ^ QQ % PP = 1 % PP := by rw [hy, one_pp]
  rw [← Nat.pow_mod, ← Nat.pow_mul, Nat.mul_comm, pow_one hy', one_pp]
theorem in_of {y : Nat} (h : y < PP) (hy : y ^ QQ % PP = 1) : 0 < y ∧ inG (y : Int) = true := by
  have h0 : 0 < y := by
    rcases Nat.eq_zero_or_pos y with h0 | h0
    · rw [h0, Nat.zero_pow (by decide)] at hy; exact absurd hy (by decide)
    · exact h0
  refine ⟨h0, ?_⟩
  unfold inG
  unfold PP at h
  rw [decide_eq_true (show (0 : Int) < (y : Int) by omega), decide_eq_true (show (y : Int) < 2305843009213691579 by omega), Bool.true_and, Bool.true_and]
  have h3 : expS (y : Int) 1152921504606845789 = 1 := (expS_nat y QQ (by unfold PP; exact h)).trans hy
  rw [h3]; rfl
theorem of_in {p : Int} (h : inG p = true) : ∃ y : Nat, p = y ∧ 0 < y ∧ y < PP ∧ y ^ QQ % PP = 1 := by
  unfold inG at h
  simp only [Bool.and_eq_true, decide_eq_true_eq, beq_iff_eq] at h
  obtain ⟨h1, h2, h3⟩ := h
  obtain ⟨y, rfl⟩ : ∃ y : Nat, p = y := ⟨p.toNat, by omega⟩
  have hl : y < PP := by unfold PP; omega
  refine ⟨y, rfl, by omega, hl, ?_⟩
  rw [← expS_nat y QQ hl]; exact h3
theorem mulP_nat {a b : Nat} (ha : a < PP) (hb : b < PP) : mulP (a : Int) (b : Int) = a * b % PP := by unfold mulP; rw [resP_nat ha, resP_nat hb]; rfl
/-- what a signature's element and the inverse of the public key's power have to do with one another -/
theorem equation {y E S : Nat} (hl : y < PP) (hy : y ^ QQ % PP = 1) (hE : E < QQ) :
    let a := expS (y : Int) (E : Int)
    let i := expS (a : Int) ((PP - 2 : Nat) : Int)
    let r := mulP (el S : Int) (i : Int)
    0 < a ∧ a < PP ∧ i < PP ∧ r < PP ∧ (r : Int) = (elemS (y : Int) ((E : Int), (S : Int)) : Int) ∧ inG (r : Int) = true ∧ mulP (r : Int) (a : Int) = el S := by
  intro a i r
  have ha : a = y ^ E % PP := expS_nat y E hl
  have hal : a < PP := by rw [ha]; exact Nat.mod_lt _ (by decide)
  have ha1 : a ^ QQ % PP = 1 := by rw [ha]; exact pow_q_one hy
  have hi : i = y ^ (QQ - E) % PP := by
    rw [show i = a ^ (PP - 2) % PP from expS_nat a (PP - 2) hal, ha]; exact inv_eq hy hE
  have hil : i < PP := by rw [hi]; exact Nat.mod_lt _ (by decide)
  have hi1 : i ^ QQ % PP = 1 := by rw [hi]; exact pow_q_one hy
  have hr : r = el S * i % PP := mulP_nat (el_lt S) hil
  have hrl : r < PP := by rw [hr]; exact Nat.mod_lt _ (by decide)
  have hr1 : r ^ QQ % PP = 1 := by
    rw [hr, ← Nat.pow_mod, Nat.mul_pow, Nat.mul_mod, el_q, hi1]; decide
  have he : elemS (y : Int) ((E : Int), (S : Int)) = r := by
    unfold elemS
    simp only
    have h1 : (1152921504606845789 : Int) - (E : Int) = ((QQ - E : Nat) : Int) := by unfold QQ at *; omega
    rw [h1, expS_four, expS_nat y _ hl, ← hi]
    rw [hr]; exact mulP_nat (el_lt S) hil
  refine ⟨(in_of hal ha1).1, hal, hil, hrl, by rw [he], (in_of hrl hr1).2, ?_⟩
  rw [mulP_nat hrl hal, hr, Nat.mod_mul_mod, Nat.mul_assoc, Nat.mul_mod, hi, ha, ← Nat.mul_mod (y ^ (QQ - E)), ← Nat.pow_add, show QQ - E + E = QQ by omega, hy, Nat.mul_one, Nat.mod_mod, Nat.mod_eq_of_lt (el_lt S)]
theorem inv_calls (a : Nat) (w : World) (h0 : 0 < a) (h1 : a < 2305843009213691579) :
    Calls Tryd.prog 23 #[.int .i64 a] w fun r w' => r = .returned (.tuple #[.int .i64 (expS (a : Int) ((PP - 2 : Nat) : Int) : Nat), .bool true]) ∧ Below w.heap.size w w' := by
  have hr := resP_calls (a : Int) w (by unfold In64; omega)
  rw [resP_nat (by unfold PP; exact h1)] at hr
  have he : ∀ wx, Calls Tryd.prog 24 #[.int .i64 a, .int .i64 2305843009213691577] wx fun r w' => r = .returned (.int .i64 (expS (a : Int) ((PP - 2 : Nat) : Int) : Nat)) ∧ Below wx.heap.size wx w' := fun wx => exp_calls a 2305843009213691577 wx (by unfold In64; omega) (by unfold In64; omega)
  have hl := expS_lt (a : Int) ((PP - 2 : Nat) : Int)
  obtain ⟨z, hz⟩ : ∃ z, z = expS (a : Int) ((PP - 2 : Nat) : Int) := ⟨_, rfl⟩
  rw [← hz] at he hl ⊢
  have hne : ((a : Int) == 0) = false := by simp; omega
  have Hhr := Lib.hid hr
  clear hr
  have Hhe := Lib.hid he
  clear he
  have Hhz := Lib.hid hz
  clear hz
  go_enter Tryd.func23, Tryd.ntmps23
  go_wp2_with fail
  refine Hhr.out.mono ?_
  rintro r w1 ⟨rfl, hB1⟩
  have HhB1 := Lib.hid hB1
  clear hB1
  go_wp2_with fail
  refine (Hhe.out w1).mono ?_
  rintro r w2 ⟨rfl, hB2⟩
  have hB := HhB1.out.trans (hB2.mono HhB1.out.size)
  clear hB2
  have HhB := Lib.hid hB
  clear hB
  go_wp2_with fail
  go_ret2
  exact ⟨rfl, HhB.out⟩

set_option maxRecDepth 100000 in
set_option maxHeartbeats 4000000 in
theorem Equation_calls (pub a b : Int) (c t : List UInt8) (m : Int) (w : World) (h : SA m w) (hp : In64 pub) (ha : In64 a) (hb : In64 b) (l1 : c.length ≤ 140737488355328) (l2 : t.length ≤ 140737488355328) :
    Calls Tryd.prog 7 #[.int .i64 pub, .string ⟨c.toArray⟩, .string ⟨t.toArray⟩, .agg #[.int .i64 a, .int .i64 b]] w fun e w' => e = .returned (.bool true) ∧ Below w.heap.size w w' := by
  have h4 := h.2.1
  obtain ⟨wb, hwb⟩ : ∃ wb, wb = w.alloc (.cells #[.int .i64 a, .int .i64 b] 25) := ⟨_, rfl⟩
  have hbox : wb.heap[w.heap.size]? = some (.cells #[.int .i64 a, .int .i64 b] 25 (0, 0)) := by rw [hwb]; exact heap_alloc_new w _
  have hBb : Below w.heap.size w wb := by rw [hwb]; exact (by ((repeat' (first | exact Below.refl _ _ | (refine Below.alloc ?_ ?_ _) | (refine Below.setCell ?_ ?_ _) | (refine Below.drew ?_) | (refine Below.trans ?_ (Below.mono (by assumption) ?_)))) <;> ((try simp only [World.size_alloc, World.size_setCell, World.size_drew] at *); omega)))
  have hszb : wb.heap.size = w.heap.size + 1 := by rw [hwb, World.size_alloc]
  have hend : ∀ wx, Below wb.heap.size wb wx → Below w.heap.size w wx := fun wx hx => hBb.trans (hx.mono hBb.size)
  have hall : ∀ wx, Below wb.heap.size wb wx → SA m wx := fun wx hx => h.below (hend wx hx) h4
  have hK : ∀ wx, Below wb.heap.size wb wx → wx.cell? ⟨w.heap.size, 0, none⟩ = some (.int .i64 a) ∧ wx.cell? ⟨w.heap.size, 1, none⟩ = some (.int .i64 b) := fun wx hx => row2 ((hx.block w.heap.size (by omega)).trans hbox)
  have hsm := small_calls m wb (hall wb (Below.refl _ _))
  have hsh := fun wx => short3_calls [] c t wx (by simp) l1 l2
  by_cases hlen : ([] : List UInt8).length + c.length + t.length ≤ 2000
  · rw [decide_eq_true hlen] at hsh
    simp only [List.length_nil, Nat.zero_add] at hlen
    have hver : ∀ wx, Below wb.heap.size wb wx → Calls Tryd.prog 18 #[.int .i64 pub, .string ⟨c.toArray⟩, .string ⟨t.toArray⟩, .agg #[.int .i64 a, .int .i64 b]] wx fun r w' => r = .returned (.bool (verS pub c t (a, b))) ∧ Below wb.heap.size wb w' := fun wx hx =>
      (verify_calls pub c t (a, b) m wx (hall wx hx) hp (by omega) (by omega)).mono fun r w' ⟨h1, h2⟩ => ⟨h1, hx.trans (h2.mono hx.size)⟩
    cases hV : verS pub c t (a, b)
    · rw [hV] at hver
      clear hlen hV
      have Hhsm := Lib.hid hsm
      clear hsm
      have Hhsh := Lib.hid hsh
      clear hsh
      have Hhver := Lib.hid hver
      clear hver
      have Hhall := Lib.hid hall
      clear hall
      have Hh := Lib.hid h
      clear h
      have Hhbox := Lib.hid hbox
      clear hbox
      have HhBb := Lib.hid hBb
      clear hBb
      have Hhend := Lib.hid hend
      clear hend
      have HhK := Lib.hid hK
      clear hK
      go_enter Tryd.func7, Tryd.ntmps7
      go_wp2_with fail
      rw [show w.alloc (.cells #[.int .i64 a, .int .i64 b] 25) = wb from hwb.symm]
      clear hwb
      refine Hhsm.out.mono ?_
      rintro r w1 ⟨rfl, hB1⟩
      go_wp2_with fail
      refine (Hhsh.out w1).mono ?_
      rintro r w1' ⟨rfl, rfl⟩
      obtain ⟨z0, z1⟩ := HhK.out _ hB1
      go_wp2_with fail
      refine (Hhver.out w1 hB1).mono ?_
      rintro r w2 ⟨rfl, hB2⟩
      clear z0 z1
      go_wp2_with fail
      go_ret
      exact ⟨rfl, Hhend.out _ hB2⟩
    · rw [hV] at hver
      unfold verS at hV
      rw [Bool.and_eq_true, decide_eq_true_eq, beq_iff_eq] at hV
      obtain ⟨⟨hp1, hin, ha0, ha1, hb0, hb1⟩, hch⟩ := hV
      simp only at ha0 ha1 hb0 hb1 hch
      obtain ⟨y, rfl, hy0, hyl, hyq⟩ := of_in hin
      obtain ⟨E, rfl⟩ : ∃ E : Nat, a = E := ⟨a.toNat, by omega⟩
      obtain ⟨S, rfl⟩ : ∃ S : Nat, b = S := ⟨b.toNat, by omega⟩
      obtain ⟨q1, q2, q3, q4, q5, q6, q7⟩ := equation (S := S) hyl hyq (show E < QQ by unfold QQ; omega)
      obtain ⟨A, hA⟩ : ∃ A, A = expS (y : Int) (E : Int) := ⟨_, rfl⟩
      rw [← hA] at q1 q2 q3 q4 q5 q6 q7
      have c23 : ∀ wx, Below wb.heap.size wb wx → Calls Tryd.prog 23 #[.int .i64 (A : Nat)] wx fun r w' => r = .returned (.tuple #[.int .i64 (expS (A : Int) ((PP - 2 : Nat) : Int) : Nat), .bool true]) ∧ Below wb.heap.size wb w' := fun wx hx =>
        (inv_calls A wx q1 (by unfold PP at q2; exact q2)).mono fun r w' ⟨h1, h2⟩ => ⟨h1, hx.trans (h2.mono hx.size)⟩
      obtain ⟨I, hI⟩ : ∃ I, I = expS (A : Int) ((PP - 2 : Nat) : Int) := ⟨_, rfl⟩
      rw [← hI] at c23 q3 q4 q5 q6 q7
      obtain ⟨r0, hr0⟩ : ∃ r, r = mulP (el S : Int) (I : Int) := ⟨_, rfl⟩
      rw [← hr0] at q4 q5 q6 q7
      have hG := el_lt S
      unfold PP at q2 q3 q4 hG hyl
      have c22a : ∀ wx, Below wb.heap.size wb wx → Calls Tryd.prog 22 #[.int .i64 (y : Nat)] wx fun r w' => r = .returned (.bool true) ∧ Below wb.heap.size wb w' := fun wx hx =>
        (in_calls (y : Nat) wx hp).mono fun r w' ⟨h1, h2⟩ => ⟨by rw [h1, hin], hx.trans (h2.mono hx.size)⟩
      have c22b : ∀ wx, Below wb.heap.size wb wx → Calls Tryd.prog 22 #[.int .i64 (r0 : Nat)] wx fun r w' => r = .returned (.bool true) ∧ Below wb.heap.size wb w' := fun wx hx =>
        (in_calls (r0 : Nat) wx (by unfold In64; omega)).mono fun r w' ⟨h1, h2⟩ => ⟨by rw [h1, q6], hx.trans (h2.mono hx.size)⟩
      have c24a : ∀ wx, Below wb.heap.size wb wx → Calls Tryd.prog 24 #[.int .i64 (y : Nat), .int .i64 (E : Nat)] wx fun r w' => r = .returned (.int .i64 (A : Nat)) ∧ Below wb.heap.size wb w' := fun wx hx =>
        (exp_calls (y : Nat) (E : Nat) wx hp ha).mono fun r w' ⟨h1, h2⟩ => ⟨by rw [h1, hA], hx.trans (h2.mono hx.size)⟩
      have c24b : ∀ wx, Below wb.heap.size wb wx → Calls Tryd.prog 24 #[.int .i64 4, .int .i64 (S : Nat)] wx fun r w' => r = .returned (.int .i64 (el S : Nat)) ∧ Below wb.heap.size wb w' := fun wx hx =>
        (exp_calls 4 (S : Nat) wx (by unfold In64; omega) hb).mono fun r w' ⟨h1, h2⟩ => ⟨by rw [h1, expS_four]; rfl, hx.trans (h2.mono hx.size)⟩
      have c25a : ∀ wx, Below wb.heap.size wb wx → Calls Tryd.prog 25 #[.int .i64 (el S : Nat), .int .i64 (I : Nat)] wx fun r w' => r = .returned (.int .i64 (r0 : Nat)) ∧ Below wb.heap.size wb w' := fun wx hx =>
        (mul_calls (el S : Nat) (I : Nat) wx (by unfold In64; omega) (by unfold In64; omega)).mono fun r w' ⟨h1, h2⟩ => ⟨by rw [h1, hr0], hx.trans (h2.mono hx.size)⟩
      have c25b : ∀ wx, Below wb.heap.size wb wx → Calls Tryd.prog 25 #[.int .i64 (r0 : Nat), .int .i64 (A : Nat)] wx fun r w' => r = .returned (.int .i64 (el S : Nat)) ∧ Below wb.heap.size wb w' := fun wx hx =>
        (mul_calls (r0 : Nat) (A : Nat) wx (by unfold In64; omega) (by unfold In64; omega)).mono fun r w' ⟨h1, h2⟩ => ⟨by rw [h1, q7], hx.trans (h2.mono hx.size)⟩
      have c21 : ∀ wx, Below wb.heap.size wb wx → Calls Tryd.prog 21 #[.int .i64 (r0 : Nat), .int .i64 (y : Nat), .string ⟨c.toArray⟩, .string ⟨t.toArray⟩] wx fun r w' => r = .returned (.int .i64 (E : Nat)) ∧ Below wb.heap.size wb w' := fun wx hx =>
        (refChallenge_calls (r0 : Nat) (y : Nat) c t wx (by unfold In64; omega) hp (by omega) (by omega)).mono fun r w' ⟨h1, h2⟩ => ⟨by rw [h1, q5, hch], hx.trans (h2.mono hx.size)⟩
      obtain ⟨g, hg⟩ : ∃ g, g = el S := ⟨_, rfl⟩
      rw [← hg] at c24b c25a c25b hG
      have f1 : ((y : Int) == 1) = false := by simp only [beq_eq_false_iff_ne]; exact hp1
      have f2 : decide ((E : Int) < 0) = false := decide_eq_false (by omega)
      have f3 : decide ((1152921504606845789 : Int) ≤ (E : Int)) = false := decide_eq_false (by omega)
      have f4 : decide ((S : Int) < 0) = false := decide_eq_false (by omega)
      have f5 : decide ((1152921504606845789 : Int) ≤ (S : Int)) = false := decide_eq_false (by omega)
      clear hlen hch hin q1 q5 q6 q7 hA hI hr0 hg hyq ha hb
      have Hhsm := Lib.hid hsm
      clear hsm
      have Hhsh := Lib.hid hsh
      clear hsh
      have Hhver := Lib.hid hver
      clear hver
      have Hhall := Lib.hid hall
      clear hall
      have Hh := Lib.hid h
      clear h
      have Hhbox := Lib.hid hbox
      clear hbox
      have HhBb := Lib.hid hBb
      clear hBb
      have Hhend := Lib.hid hend
      clear hend
      have HhK := Lib.hid hK
      clear hK
      have Hc23 := Lib.hid c23
      clear c23
      have Hc22a := Lib.hid c22a
      clear c22a
      have Hc22b := Lib.hid c22b
      clear c22b
      have Hc24a := Lib.hid c24a
      clear c24a
      have Hc24b := Lib.hid c24b
      clear c24b
      have Hc25a := Lib.hid c25a
      clear c25a
      have Hc25b := Lib.hid c25b
      clear c25b
      have Hc21 := Lib.hid c21
      clear c21
      go_enter Tryd.func7, Tryd.ntmps7
      go_wp2_with fail
      rw [show w.alloc (.cells #[.int .i64 (E : Nat), .int .i64 (S : Nat)] 25) = wb from hwb.symm]
      clear hwb
      refine Hhsm.out.mono ?_
      rintro r w1 ⟨rfl, hB1⟩
      go_wp2_with fail
      refine (Hhsh.out w1).mono ?_
      rintro r w1' ⟨rfl, rfl⟩
      obtain ⟨z0, z1⟩ := HhK.out _ hB1
      go_wp2_with fail
      refine (Hhver.out w1 hB1).mono ?_
      rintro r w2 ⟨rfl, hB2⟩
      clear z0 z1 hB1
      go_wp2_with fail
      refine (Hc22a.out w2 hB2).mono ?_
      rintro r w3 ⟨rfl, hB3⟩
      clear hB2
      obtain ⟨z0, z1⟩ := HhK.out _ hB3
      go_wp2_with fail
      refine (Hc24a.out w3 hB3).mono ?_
      rintro r w4 ⟨rfl, hB4⟩
      clear z0 z1 hB3
      go_wp2_with fail
      refine (Hc23.out w4 hB4).mono ?_
      rintro r w5 ⟨rfl, hB5⟩
      clear hB4
      obtain ⟨z0, z1⟩ := HhK.out _ hB5
      go_wp2_with fail
      refine (Hc24b.out w5 hB5).mono ?_
      rintro r w6 ⟨rfl, hB6⟩
      clear z0 z1 hB5
      go_wp2_with fail
      refine (Hc25a.out w6 hB6).mono ?_
      rintro r w7 ⟨rfl, hB7⟩
      clear hB6
      go_wp2_with fail
      first | (go_region_held3 (fun w' => w'.cell? ⟨w.heap.size, 0, none⟩ = some (.int .i64 (E : Nat)) ∧ w'.cell? ⟨w.heap.size, 1, none⟩ = some (.int .i64 (S : Nat))) (exact HhK.out _ (by first | assumption | exact Below.refl _ _ | exact (Below.refl _ _).drew | exact Below.drew (by assumption))) (first | (go_at_call 22; refine (Hc22b.out _ (by first | assumption | exact Below.refl _ _ | exact (Below.refl _ _).drew | exact Below.drew (by assumption))).mono ?_; rintro r wa ⟨rfl, hba⟩) | (go_at_call 21; refine (Hc21.out _ (by first | assumption | exact Below.refl _ _ | exact (Below.refl _ _).drew | exact Below.drew (by assumption))).mono ?_; rintro r wc ⟨rfl, hbc⟩) | (go_at_call_of 24 S; refine (Hc24b.out _ (by first | assumption | exact Below.refl _ _ | exact (Below.refl _ _).drew | exact Below.drew (by assumption))).mono ?_; rintro r wd ⟨rfl, hbd⟩) | (go_at_call 24; refine (Hc24a.out _ (by first | assumption | exact Below.refl _ _ | exact (Below.refl _ _).drew | exact Below.drew (by assumption))).mono ?_; rintro r we ⟨rfl, hbe⟩) | (go_at_call 25; refine (Hc25b.out _ (by first | assumption | exact Below.refl _ _ | exact (Below.refl _ _).drew | exact Below.drew (by assumption))).mono ?_; rintro r wf ⟨rfl, hbf⟩))) | fail
      go_wp2_with fail
      go_ret
      exact ⟨rfl, Hhend.out _ (by first | assumption | exact Below.refl _ _ | exact (Below.refl _ _).drew | exact Below.drew (by assumption))⟩
  · rw [decide_eq_false hlen] at hsh
    clear hlen
    have Hhsm := Lib.hid hsm
    clear hsm
    have Hhsh := Lib.hid hsh
    clear hsh
    have Hhall := Lib.hid hall
    clear hall
    have Hh := Lib.hid h
    clear h
    have Hhbox := Lib.hid hbox
    clear hbox
    have HhBb := Lib.hid hBb
    clear hBb
    have Hhend := Lib.hid hend
    clear hend
    have HhK := Lib.hid hK
    clear hK
    go_enter Tryd.func7, Tryd.ntmps7
    go_wp2_with fail
    rw [show w.alloc (.cells #[.int .i64 a, .int .i64 b] 25) = wb from hwb.symm]
    clear hwb
    refine Hhsm.out.mono ?_
    rintro r w1 ⟨rfl, hB1⟩
    go_wp2_with fail
    refine (Hhsh.out w1).mono ?_
    rintro r w1' ⟨rfl, rfl⟩
    go_wp2_with fail
    go_ret
    exact ⟨rfl, Hhend.out _ hB1⟩
theorem Equation_at (pub : Int) (s0 s1 : ByteArray) (a b m : Int) (w : World) (h : SA m w) (hp : In64 pub) (ha : In64 a) (hb : In64 b) (l1 : s0.data.toList.length ≤ reachBytes) (l2 : s1.data.toList.length ≤ reachBytes) :
    Calls Tryd.prog 7 #[.int .i64 pub, .string s0, .string s1, .agg #[.int .i64 a, .int .i64 b]] w fun e w' => e = .returned (.bool true) ∧ Below w.heap.size w w' := by
  unfold reachBytes at l1 l2
  have := Equation_calls pub a b s0.data.toList s1.data.toList m w h hp ha hb (by omega) (by omega)
  have e : ∀ s : ByteArray, (⟨s.data.toList.toArray⟩ : ByteArray) = s := fun s => by apply ByteArray.ext; simp
  rwa [e, e] at this
end Go.Proofs.YtjbpjmdnmnbonaaDoor
