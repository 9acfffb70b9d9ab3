/- SignHolds: the walk. -/
import Derived.Test.YtjbpjmdnmnbonaaDoorX10
set_option linter.unusedSimpArgs false
set_option linter.unusedVariables false
namespace Go.Proofs.YtjbpjmdnmnbonaaDoor
open Go.RowKit

theorem row2 {w : World} {g : Nat} {t : TypeId} {a b : Value} (h : w.heap[g]? = some (.cells #[a, b] t (0, 0))) : w.cell? ⟨g, 0, none⟩ = some a ∧ w.cell? ⟨g, 1, none⟩ = some b := by
  refine ⟨?_, ?_⟩ <;> (rw [cell_of_row _ _ _ _ _ _ h]; rfl)
theorem stood25 : Tryd.prog.stoodInHeld 25 = false := by kernel_rfl
theorem guard25 : Tryd.prog.eqGuardType Tryd.prog.depth 25 = false := by kernel_rfl
@[go_sem] theorem guard25_run (op : BinOp) (x y : Operand) (xs ys : Array Value) (w : World) : (eqGuard op 25 x y (.agg xs) (.agg ys)).run Tryd.prog w = .ok () w := run_eqGuard_agg w op 25 x y xs ys guard25
theorem fields25 : (Tryd.prog.fieldsOf 25).toList = [{ name := "E", type := 3, offset := 0, embedded := false, tag := "", pkgPath := "", byteOffset := 0 }, { name := "S", type := 3, offset := 1, embedded := false, tag := "", pkgPath := "", byteOffset := 8 }] := by kernel_rfl
set_option maxRecDepth 100000 in
theorem equal25 (a0 a1 b0 b1 : Int) (w : World) : (Op.equalIn 10000 25 (.agg #[.int .i64 a0, .int .i64 a1]) (.agg #[.int .i64 b0, .int .i64 b1])).run Tryd.prog w = .ok (decide ((a0, a1) = (b0, b1))) w := by
  rw [run_equalIn_agg w _ 25 _ _ und25 stood25, fields25]
  by_cases h1 : a0 = b0
  · by_cases h2 : a1 = b1 <;> simp [Op.eqFields, go_sem, h1, h2]
  · simp [Op.eqFields, go_sem, h1]
theorem rightS_zero : rightS (0, 0) = false := rfl
theorem signS_zero (c t : List UInt8) : signS (0, 0) c t = (0, 0) := by unfold signS; rw [if_neg (by rw [rightS_zero]; decide)]

set_option maxRecDepth 100000 in
set_option maxHeartbeats 4000000 in
theorem Holds_calls (seed c t : List UInt8) (n m : Int) (w : World) (h : SA m w) (hn : In64 n) (l1 : seed.length ≤ 140737488355328) (l2 : c.length ≤ 140737488355328) (l3 : t.length ≤ 140737488355328) :
    Calls Tryd.prog 4 #[.string ⟨seed.toArray⟩, .int .i64 n, .string ⟨c.toArray⟩, .string ⟨t.toArray⟩] w fun e w' => e = .returned (.bool true) ∧ Below w.heap.size w w' := by
  have h4 := h.2.1
  have hall : ∀ wx, Below w.heap.size w wx → SA m wx := fun wx hx => h.below hx h4
  have hsm := small_calls m w h
  have hsh := fun wx => short3_calls seed c t wx l1 l2 l3
  by_cases hlen : seed.length + c.length + t.length ≤ 2000
  · rw [decide_eq_true hlen] at hsh
    obtain ⟨x, hx0, hx1, hkey, -⟩ := key_nat seed
    obtain ⟨e, s, he, hs, hsig⟩ := sig_range hx0 hx1 c t
    have hra := rightS_of hx0 hx1
    have hva := verS_own hx0 hx1 c t
    have hp1 := el_lt x
    have c1 : ∀ wx, Below w.heap.size w wx → Calls Tryd.prog 10 #[.string ⟨seed.toArray⟩] wx fun e w' => e = .returned (.agg #[.int .i64 (x : Nat), .int .i64 (el x : Nat)]) ∧ Below wx.heap.size wx w' := fun wx hx =>
      (key_calls seed m wx (hall wx hx) (by omega)).mono fun e w' ⟨h1, h2⟩ => ⟨by rw [h1, hkey]; rfl, h2⟩
    have c2 : ∀ wx, Below w.heap.size w wx → Calls Tryd.prog 16 #[.agg #[.int .i64 (x : Nat), .int .i64 (el x : Nat)], .string ⟨c.toArray⟩, .string ⟨t.toArray⟩] wx fun r w' => r = .returned (.agg #[.int .i64 (e : Nat), .int .i64 (s : Nat)]) ∧ Below wx.heap.size wx w' := fun wx hx =>
      (sign_calls ((x : Int), (el x : Int)) c t m wx (hall wx hx) (by unfold QQ at hx1; unfold In64; simp only; omega) (by unfold PP at hp1; unfold In64; simp only; omega) (by omega) (by omega)).mono fun r w' ⟨h1, h2⟩ => ⟨by rw [h1, hsig]; rfl, h2⟩
    have c3 : ∀ wx, Calls Tryd.prog 14 #[.agg #[.int .i64 (x : Nat), .int .i64 (el x : Nat)]] wx fun r w' => r = .returned (.bool true) ∧ Below wx.heap.size wx w' := fun wx =>
      (right_calls ((x : Int), (el x : Int)) wx (by unfold QQ at hx1; unfold In64; simp only; omega)).mono fun r w' ⟨h1, h2⟩ => ⟨by rw [h1, hra], h2⟩
    have c4 : ∀ wx, Below w.heap.size w wx → Calls Tryd.prog 18 #[.int .i64 (el x : Nat), .string ⟨c.toArray⟩, .string ⟨t.toArray⟩, .agg #[.int .i64 (e : Nat), .int .i64 (s : Nat)]] wx fun r w' => r = .returned (.bool true) ∧ Below wx.heap.size wx w' := fun wx hx =>
      (verify_calls (el x : Nat) c t ((e : Int), (s : Int)) m wx (hall wx hx) (by unfold PP at hp1; unfold In64; omega) (by omega) (by omega)).mono fun r w' ⟨h1, h2⟩ => ⟨by rw [h1, ← hsig, hva], h2⟩
    obtain ⟨p, hp⟩ : ∃ p, p = el x := ⟨_, rfl⟩
    rw [← hp] at c1 c2 c3 c4 hp1
    unfold PP at hp1
    unfold QQ at he hs hx1
    have heq : ∀ w : World, (Op.equalIn 10000 25 (.agg #[.int .i64 (e : Nat), .int .i64 (s : Nat)]) (.agg #[.int .i64 (e : Nat), .int .i64 (s : Nat)])).run Tryd.prog w = .ok true w := fun w => by rw [equal25]; simp
    have f1 : decide ((e : Int) < 0) = false := decide_eq_false (by omega)
    have f2 : decide ((1152921504606845789 : Int) ≤ (e : Int)) = false := decide_eq_false (by omega)
    have f3 : decide ((s : Int) < 0) = false := decide_eq_false (by omega)
    have f4 : decide ((1152921504606845789 : Int) ≤ (s : Int)) = false := decide_eq_false (by omega)
    have hln1 : c.length ≤ 2000 := by omega
    have hln2 : t.length ≤ 2000 := by omega
    have Hhsm := Lib.hid hsm
    clear hsm
    have Hhsh := Lib.hid hsh
    clear hsh
    have Hc1 := Lib.hid c1
    clear c1
    have Hc2 := Lib.hid c2
    clear c2
    have Hc3 := Lib.hid c3
    clear c3
    have Hc4 := Lib.hid c4
    clear c4
    have Hhall := Lib.hid hall
    clear hall
    have Hh := Lib.hid h
    clear h
    have Hhp := Lib.hid hp
    clear hp
    have Hhra := Lib.hid hra
    clear hra
    have Hhva := Lib.hid hva
    clear hva
    have Hhkey := Lib.hid hkey
    clear hkey
    have Hhsig := Lib.hid hsig
    clear hsig
    have Hheq := Lib.hid heq
    clear heq
    have Hf1 := Lib.hid f1
    clear f1
    have Hf2 := Lib.hid f2
    clear f2
    have Hf3 := Lib.hid f3
    clear f3
    have Hf4 := Lib.hid f4
    clear f4
    clear hlen
    by_cases hv : 1 ≤ n ∧ n < 1152921504606845789
    · obtain ⟨hv0, hv1⟩ := hv
      obtain ⟨y, rfl⟩ : ∃ y : Nat, n = y := ⟨n.toNat, by omega⟩
      have hy0 : 0 < y := by omega
      have hy1 : y < QQ := by unfold QQ; omega
      have hofb := ofS_nat hy0 hy1
      obtain ⟨e2, s2, he2, hs2, hsig2⟩ := sig_range hy0 hy1 c t
      have hrb := rightS_of hy0 hy1
      have hvb := verS_own hy0 hy1 c t
      have hq1 := el_lt y
      rw [hsig2] at hvb
      obtain ⟨q, hq⟩ : ∃ q, q = el y := ⟨_, rfl⟩
      rw [← hq] at hofb hrb hvb hsig2 hq1
      unfold PP at hq1
      unfold QQ at he2 hs2 hy1
      have d5 : ∀ wx, Below w.heap.size w wx → Calls Tryd.prog 18 #[.int .i64 (q : Nat), .string ⟨c.toArray⟩, .string ⟨t.toArray⟩, .agg #[.int .i64 (e2 : Nat), .int .i64 (s2 : Nat)]] wx fun r w' => r = .returned (.bool true) ∧ Below wx.heap.size wx w' := fun wx hx =>
        (verify_calls (q : Nat) c t ((e2 : Int), (s2 : Int)) m wx (Hhall.out wx hx) (by unfold In64; omega) hln1 hln2).mono fun r w' ⟨h1, h2⟩ => ⟨by rw [h1, hvb], h2⟩
      have Hd5 := Lib.hid d5
      clear d5
      have Hhq := Lib.hid hq
      clear hq
      have Hhvb := Lib.hid hvb
      clear hvb
      have d1 : ∀ wx, Calls Tryd.prog 12 #[.int .i64 (y : Nat)] wx fun r w' => r = .returned (.agg #[.int .i64 (y : Nat), .int .i64 (q : Nat)]) ∧ Below wx.heap.size wx w' := fun wx =>
        (of_calls _ wx hn).mono fun r w' ⟨h1, h2⟩ => ⟨by rw [h1, hofb]; rfl, h2⟩
      have d2 : ∀ wx, Calls Tryd.prog 14 #[.agg #[.int .i64 (y : Nat), .int .i64 (q : Nat)]] wx fun r w' => r = .returned (.bool true) ∧ Below wx.heap.size wx w' := fun wx =>
        (right_calls ((y : Nat), (q : Nat)) wx (by unfold In64; simp only; omega)).mono fun r w' ⟨h1, h2⟩ => ⟨by rw [h1, hrb], h2⟩
      have d3 : ∀ wx, Below w.heap.size w wx → Calls Tryd.prog 16 #[.agg #[.int .i64 (y : Nat), .int .i64 (q : Nat)], .string ⟨c.toArray⟩, .string ⟨t.toArray⟩] wx fun r w' => r = .returned (.agg #[.int .i64 (e2 : Nat), .int .i64 (s2 : Nat)]) ∧ Below wx.heap.size wx w' := fun wx hx =>
        (sign_calls ((y : Nat), (q : Nat)) c t m wx (Hhall.out wx hx) (by unfold In64; simp only; omega) (by unfold In64; simp only; omega) hln1 hln2).mono fun r w' ⟨h1, h2⟩ => ⟨by rw [h1, hsig2]; rfl, h2⟩
      clear hln1 hln2
      have Hd1 := Lib.hid d1
      clear d1
      have Hd2 := Lib.hid d2
      clear d2
      have Hd3 := Lib.hid d3
      clear d3
      have Hhofb := Lib.hid hofb
      clear hofb
      have Hhrb := Lib.hid hrb
      clear hrb
      have Hhsig2 := Lib.hid hsig2
      clear hsig2
      go_enter Tryd.func4, Tryd.ntmps4
      go_wp2_with fail
      refine Hhsm.out.mono ?_
      rintro r w1 ⟨rfl, hB1⟩
      have hs1 := hB1.size
      have HhB1 := Lib.hid hB1
      clear hB1
      go_wp2_with fail
      refine (Hhsh.out w1).mono ?_
      rintro r w1' ⟨rfl, rfl⟩
      go_wp2_with fail
      refine (Hc1.out w1 HhB1.out).mono ?_
      rintro r w2 ⟨rfl, hB2⟩
      have hB2b := HhB1.out.trans (hB2.mono hs1)
      have HhB2 := Lib.hid hB2
      clear hB2
      go_wp2_with fail
      generalize hW : World.alloc _ _ = w3
      have hk3 : w3.heap[w2.heap.size]? = some (.cells #[.int .i64 (x : Nat), .int .i64 (p : Nat)] 23 (0, 0)) := by rw [← hW]; exact heap_alloc_new w2 _
      have hs3 : w3.heap.size = w2.heap.size + 1 := by rw [← hW, World.size_alloc]
      have hB3 : Below w.heap.size w w3 := by rw [← hW]; exact Below.alloc hB2b (by have := hB2b.size; omega) _
      clear hW hs1
      obtain ⟨b1, hb1⟩ : ∃ b, b = w2.heap.size := ⟨_, rfl⟩
      rw [← hb1] at hk3 ⊢
      have hl1 : b1 < w3.heap.size := by omega
      clear hb1 hs3 hB2b
      have Hhk3 := Lib.hid hk3
      clear hk3
      have HhB3 := Lib.hid hB3
      clear hB3
      refine (Hd1.out w3).mono ?_
      rintro r w4 ⟨rfl, hB4⟩
      have hs4 := hB4.size
      have hk4 := (hB4.block b1 hl1).trans Hhk3.out
      have hB4b := HhB3.out.trans (hB4.mono HhB3.out.size)
      clear hB4
      have Hhk4 := Lib.hid hk4
      clear hk4
      have HhB4b := Lib.hid hB4b
      clear hB4b
      go_wp2_with fail
      generalize hW : World.alloc _ _ = w5
      have hk5 : w5.heap[b1]? = some (.cells #[.int .i64 (x : Nat), .int .i64 (p : Nat)] 23 (0, 0)) := by
        rw [← hW, Below.heap_alloc _ _ _ (by omega)]; exact Hhk4.out
      have hg5 : w5.heap[w4.heap.size]? = some (.cells #[.int .i64 (y : Nat), .int .i64 (q : Nat)] 23 (0, 0)) := by rw [← hW]; exact heap_alloc_new w4 _
      have hs5 : w5.heap.size = w4.heap.size + 1 := by rw [← hW, World.size_alloc]
      have hB5 : Below w.heap.size w w5 := by rw [← hW]; exact Below.alloc HhB4b.out HhB4b.out.size _
      clear hW
      obtain ⟨b2, hb2⟩ : ∃ b, b = w4.heap.size := ⟨_, rfl⟩
      rw [← hb2] at hg5 ⊢
      have hl1' : b1 < w5.heap.size := by omega
      have hl2' : b2 < w5.heap.size := by omega
      clear hb2 hs5 hs4 hl1
      have hK5 : ∀ wx, Below w5.heap.size w5 wx → wx.heap[b1]? = some (.cells #[.int .i64 (x : Nat), .int .i64 (p : Nat)] 23 (0, 0)) ∧ wx.heap[b2]? = some (.cells #[.int .i64 (y : Nat), .int .i64 (q : Nat)] 23 (0, 0)) := fun wx hx =>
        ⟨(hx.block b1 hl1').trans hk5, (hx.block b2 hl2').trans hg5⟩
      clear hk5 hg5
      have HhK5 := Lib.hid hK5
      clear hK5
      have HhB5 := Lib.hid hB5
      clear hB5
      refine (Hd2.out w5).mono ?_
      rintro r w6 ⟨rfl, hb6⟩
      obtain ⟨y0, y1⟩ := row2 (HhK5.out _ hb6).1
      go_wp2_with fail
      refine (Hc3.out w6).mono ?_
      rintro r w7 ⟨rfl, hb7⟩
      have hB7 := hb6.trans (hb7.mono hb6.size)
      clear y0 y1
      obtain ⟨y0, y1⟩ := row2 (HhK5.out _ hB7).1
      go_wp2_with fail
      refine (Hc2.out w7 (HhB5.out.trans (hB7.mono HhB5.out.size))).mono ?_
      rintro r w8 ⟨rfl, hb8⟩
      have hB8 := hB7.trans (hb8.mono hB7.size)
      have hs8 := hB8.size
      clear y0 y1
      have HhB8 := Lib.hid hB8
      clear hB8
      have HhB7 := Lib.hid hB7
      clear hB7
      have Hhb6 := Lib.hid hb6
      clear hb6
      have Hhb7 := Lib.hid hb7
      clear hb7
      have Hhb8 := Lib.hid hb8
      clear hb8
      go_wp2_with fail
      generalize hW : World.alloc _ _ = w9
      have hg9 : w9.heap[w8.heap.size]? = some (.cells #[.int .i64 (e : Nat), .int .i64 (s : Nat)] 25 (0, 0)) := by rw [← hW]; exact heap_alloc_new w8 _
      have hs9 : w9.heap.size = w8.heap.size + 1 := by rw [← hW, World.size_alloc]
      have hB9 : Below w5.heap.size w5 w9 := by rw [← hW]; exact Below.alloc HhB8.out HhB8.out.size _
      clear hW
      obtain ⟨b3, hb3⟩ : ∃ b, b = w8.heap.size := ⟨_, rfl⟩
      rw [← hb3] at hg9 ⊢
      have hl3 : b3 < w9.heap.size := by omega
      have hl1 : b1 < w9.heap.size := by omega
      have hl2 : b2 < w9.heap.size := by omega
      have hB9b := HhB5.out.trans (hB9.mono HhB5.out.size)
      have hK9 : ∀ wx, Below w9.heap.size w9 wx → wx.heap[b2]? = some (.cells #[.int .i64 (y : Nat), .int .i64 (q : Nat)] 23 (0, 0)) ∧ (wx.cell? ⟨b1, 0, none⟩ = some (.int .i64 (x : Nat)) ∧ wx.cell? ⟨b1, 1, none⟩ = some (.int .i64 (p : Nat))) ∧ wx.cell? ⟨b3, 0, none⟩ = some (.int .i64 (e : Nat)) ∧ wx.cell? ⟨b3, 1, none⟩ = some (.int .i64 (s : Nat)) := fun wx hx =>
        ⟨(hx.block b2 hl2).trans (HhK5.out _ hB9).2, row2 ((hx.block b1 hl1).trans (HhK5.out _ hB9).1), row2 ((hx.block b3 hl3).trans hg9)⟩
      have hc2 : ∀ wx, Below w9.heap.size w9 wx → Calls Tryd.prog 16 #[.agg #[.int .i64 (x : Nat), .int .i64 (p : Nat)], .string ⟨c.toArray⟩, .string ⟨t.toArray⟩] wx fun r w' => r = .returned (.agg #[.int .i64 (e : Nat), .int .i64 (s : Nat)]) ∧ Below w9.heap.size w9 w' := fun wx hx =>
        (Hc2.out wx (hB9b.trans (hx.mono hB9b.size))).mono fun r w' ⟨h1, h2⟩ => ⟨h1, hx.trans (h2.mono hx.size)⟩
      have hc4 : ∀ wx, Below w9.heap.size w9 wx → Calls Tryd.prog 18 #[.int .i64 (p : Nat), .string ⟨c.toArray⟩, .string ⟨t.toArray⟩, .agg #[.int .i64 (e : Nat), .int .i64 (s : Nat)]] wx fun r w' => r = .returned (.bool true) ∧ Below w9.heap.size w9 w' := fun wx hx =>
        (Hc4.out wx (hB9b.trans (hx.mono hB9b.size))).mono fun r w' ⟨h1, h2⟩ => ⟨h1, hx.trans (h2.mono hx.size)⟩
      have hend : ∀ wx, Below w9.heap.size w9 wx → Below w.heap.size w wx := fun wx hx => hB9b.trans (hx.mono hB9b.size)
      clear hb3 hs9 hs8 hl1 hl2 hl3 hl1' hl2' hg9
      have heq := Hheq.out
      have f1 := Hf1.out
      have f2 := Hf2.out
      have f3 := Hf3.out
      have f4 := Hf4.out
      have HhK9 := Lib.hid hK9
      clear hK9
      have Hhc2 := Lib.hid hc2
      clear hc2
      have Hhc4 := Lib.hid hc4
      clear hc4
      have Hhend := Lib.hid hend
      clear hend
      have HhB9 := Lib.hid hB9
      clear hB9
      have HhB9b := Lib.hid hB9b
      clear hB9b
      first | (go_region_held3 (fun w' => (w'.cell? ⟨b1, 0, none⟩ = some (.int .i64 (x : Nat)) ∧ w'.cell? ⟨b1, 1, none⟩ = some (.int .i64 (p : Nat))) ∧ w'.cell? ⟨b3, 0, none⟩ = some (.int .i64 (e : Nat)) ∧ w'.cell? ⟨b3, 1, none⟩ = some (.int .i64 (s : Nat))) (exact (HhK9.out _ (by first | assumption | exact Below.refl _ _ | exact (Below.refl _ _).drew | exact Below.drew (by assumption))).2) (first | (go_at_call 18; refine (Hhc4.out _ (by first | assumption | exact Below.refl _ _ | exact (Below.refl _ _).drew | exact Below.drew (by assumption))).mono ?_; rintro r wa ⟨rfl, hba⟩) | (go_at_call 16; refine (Hhc2.out _ (by first | assumption | exact Below.refl _ _ | exact (Below.refl _ _).drew | exact Below.drew (by assumption))).mono ?_; rintro r wb ⟨rfl, hbb⟩))) | fail
      clear heq f1 f2 f3 f4
      obtain ⟨y0, y1⟩ := row2 (HhK9.out _ hbb).1
      go_wp2_with fail
      refine (Hd3.out wb (Hhend.out _ hbb)).mono ?_
      rintro r w10 ⟨rfl, hb10⟩
      have hB10 := hbb.trans (hb10.mono hbb.size)
      clear y0 y1
      obtain ⟨y0, y1⟩ := row2 (HhK9.out _ hB10).1
      have q1 : b2 < w10.heap.size := (Array.getElem?_eq_some_iff.1 (HhK9.out _ hB10).1).1
      go_wp2_with fail
      generalize hW : World.alloc _ _ = w11
      have hg11 : w11.heap[w10.heap.size]? = some (.cells #[.int .i64 (e2 : Nat), .int .i64 (s2 : Nat)] 25 (0, 0)) := by rw [← hW]; exact heap_alloc_new w10 _
      have hs11 : w11.heap.size = w10.heap.size + 1 := by rw [← hW, World.size_alloc]
      have hB11 : Below w9.heap.size w9 w11 := by rw [← hW]; exact Below.alloc hB10 hB10.size _
      clear hW y0 y1
      refine (Hd2.out w11).mono ?_
      rintro r w12 ⟨rfl, hb12⟩
      have hB12 := hB11.trans (hb12.mono hB11.size)
      obtain ⟨y0, y1⟩ := row2 (HhK9.out _ hB12).1
      obtain ⟨z0, z1⟩ := row2 ((hb12.block w10.heap.size (by omega)).trans hg11)
      clear hg11 hs11
      go_wp2_with fail
      refine (Hd5.out w12 (Hhend.out _ hB12)).mono ?_
      rintro r w13 ⟨rfl, hb13⟩
      have hB13 := hB12.trans (hb13.mono hB12.size)
      go_wp2_with fail
      go_ret
      exact ⟨rfl, Hhend.out _ hB13⟩
    · rcases (show n < 1 ∨ (1 ≤ n ∧ 1152921504606845789 ≤ n) by omega) with hv0 | ⟨hv0, hv1⟩
      · clear hv
        have hofb : ofS n = (0, 0) := by unfold ofS; rw [if_pos (by omega)]
        have hrb := rightS_zero
        have hsig2 := signS_zero c t
        have heq0 : ∀ w : World, (Op.equalIn 10000 25 (.agg #[.int .i64 0, .int .i64 0]) (.agg #[.int .i64 0, .int .i64 0])).run Tryd.prog w = .ok true w := fun w => by rw [equal25]; rfl
        have d1 : ∀ wx, Calls Tryd.prog 12 #[.int .i64 n] wx fun r w' => r = .returned (.agg #[.int .i64 0, .int .i64 0]) ∧ Below wx.heap.size wx w' := fun wx =>
          (of_calls _ wx hn).mono fun r w' ⟨h1, h2⟩ => ⟨by rw [h1, hofb]; rfl, h2⟩
        have d2 : ∀ wx, Calls Tryd.prog 14 #[.agg #[.int .i64 0, .int .i64 0]] wx fun r w' => r = .returned (.bool false) ∧ Below wx.heap.size wx w' := fun wx =>
          (right_calls (0, 0) wx (by unfold In64; simp only; omega)).mono fun r w' ⟨h1, h2⟩ => ⟨by rw [h1, hrb], h2⟩
        have d3 : ∀ wx, Below w.heap.size w wx → Calls Tryd.prog 16 #[.agg #[.int .i64 0, .int .i64 0], .string ⟨c.toArray⟩, .string ⟨t.toArray⟩] wx fun r w' => r = .returned (.agg #[.int .i64 0, .int .i64 0]) ∧ Below wx.heap.size wx w' := fun wx hx =>
          (sign_calls (0, 0) c t m wx (Hhall.out wx hx) (by unfold In64; simp only; omega) (by unfold In64; simp only; omega) hln1 hln2).mono fun r w' ⟨h1, h2⟩ => ⟨by rw [h1, hsig2]; rfl, h2⟩
        clear hln1 hln2
        have Hd1 := Lib.hid d1
        clear d1
        have Hd2 := Lib.hid d2
        clear d2
        have Hd3 := Lib.hid d3
        clear d3
        have Hhofb := Lib.hid hofb
        clear hofb
        have Hhrb := Lib.hid hrb
        clear hrb
        have Hhsig2 := Lib.hid hsig2
        clear hsig2
        go_enter Tryd.func4, Tryd.ntmps4
        go_wp2_with fail
        refine Hhsm.out.mono ?_
        rintro r w1 ⟨rfl, hB1⟩
        have hs1 := hB1.size
        have HhB1 := Lib.hid hB1
        clear hB1
        go_wp2_with fail
        refine (Hhsh.out w1).mono ?_
        rintro r w1' ⟨rfl, rfl⟩
        go_wp2_with fail
        refine (Hc1.out w1 HhB1.out).mono ?_
        rintro r w2 ⟨rfl, hB2⟩
        have hB2b := HhB1.out.trans (hB2.mono hs1)
        have HhB2 := Lib.hid hB2
        clear hB2
        go_wp2_with fail
        generalize hW : World.alloc _ _ = w3
        have hk3 : w3.heap[w2.heap.size]? = some (.cells #[.int .i64 (x : Nat), .int .i64 (p : Nat)] 23 (0, 0)) := by rw [← hW]; exact heap_alloc_new w2 _
        have hs3 : w3.heap.size = w2.heap.size + 1 := by rw [← hW, World.size_alloc]
        have hB3 : Below w.heap.size w w3 := by rw [← hW]; exact Below.alloc hB2b (by have := hB2b.size; omega) _
        clear hW hs1
        obtain ⟨b1, hb1⟩ : ∃ b, b = w2.heap.size := ⟨_, rfl⟩
        rw [← hb1] at hk3 ⊢
        have hl1 : b1 < w3.heap.size := by omega
        clear hb1 hs3 hB2b
        have Hhk3 := Lib.hid hk3
        clear hk3
        have HhB3 := Lib.hid hB3
        clear hB3
        refine (Hd1.out w3).mono ?_
        rintro r w4 ⟨rfl, hB4⟩
        have hs4 := hB4.size
        have hk4 := (hB4.block b1 hl1).trans Hhk3.out
        have hB4b := HhB3.out.trans (hB4.mono HhB3.out.size)
        clear hB4
        have Hhk4 := Lib.hid hk4
        clear hk4
        have HhB4b := Lib.hid hB4b
        clear hB4b
        go_wp2_with fail
        generalize hW : World.alloc _ _ = w5
        have hk5 : w5.heap[b1]? = some (.cells #[.int .i64 (x : Nat), .int .i64 (p : Nat)] 23 (0, 0)) := by
          rw [← hW, Below.heap_alloc _ _ _ (by omega)]; exact Hhk4.out
        have hg5 : w5.heap[w4.heap.size]? = some (.cells #[.int .i64 0, .int .i64 0] 23 (0, 0)) := by rw [← hW]; exact heap_alloc_new w4 _
        have hs5 : w5.heap.size = w4.heap.size + 1 := by rw [← hW, World.size_alloc]
        have hB5 : Below w.heap.size w w5 := by rw [← hW]; exact Below.alloc HhB4b.out HhB4b.out.size _
        clear hW
        obtain ⟨b2, hb2⟩ : ∃ b, b = w4.heap.size := ⟨_, rfl⟩
        rw [← hb2] at hg5 ⊢
        have hl1' : b1 < w5.heap.size := by omega
        have hl2' : b2 < w5.heap.size := by omega
        clear hb2 hs5 hs4 hl1
        have hK5 : ∀ wx, Below w5.heap.size w5 wx → wx.heap[b1]? = some (.cells #[.int .i64 (x : Nat), .int .i64 (p : Nat)] 23 (0, 0)) ∧ wx.heap[b2]? = some (.cells #[.int .i64 0, .int .i64 0] 23 (0, 0)) := fun wx hx =>
          ⟨(hx.block b1 hl1').trans hk5, (hx.block b2 hl2').trans hg5⟩
        clear hk5 hg5
        have HhK5 := Lib.hid hK5
        clear hK5
        have HhB5 := Lib.hid hB5
        clear hB5
        refine (Hd2.out w5).mono ?_
        rintro r w6 ⟨rfl, hb6⟩
        obtain ⟨y0, y1⟩ := row2 (HhK5.out _ hb6).1
        go_wp2_with fail
        refine (Hc3.out w6).mono ?_
        rintro r w7 ⟨rfl, hb7⟩
        have hB7 := hb6.trans (hb7.mono hb6.size)
        clear y0 y1
        obtain ⟨y0, y1⟩ := row2 (HhK5.out _ hB7).1
        go_wp2_with fail
        refine (Hc2.out w7 (HhB5.out.trans (hB7.mono HhB5.out.size))).mono ?_
        rintro r w8 ⟨rfl, hb8⟩
        have hB8 := hB7.trans (hb8.mono hB7.size)
        have hs8 := hB8.size
        clear y0 y1
        have HhB8 := Lib.hid hB8
        clear hB8
        have HhB7 := Lib.hid hB7
        clear hB7
        have Hhb6 := Lib.hid hb6
        clear hb6
        have Hhb7 := Lib.hid hb7
        clear hb7
        have Hhb8 := Lib.hid hb8
        clear hb8
        go_wp2_with fail
        generalize hW : World.alloc _ _ = w9
        have hg9 : w9.heap[w8.heap.size]? = some (.cells #[.int .i64 (e : Nat), .int .i64 (s : Nat)] 25 (0, 0)) := by rw [← hW]; exact heap_alloc_new w8 _
        have hs9 : w9.heap.size = w8.heap.size + 1 := by rw [← hW, World.size_alloc]
        have hB9 : Below w5.heap.size w5 w9 := by rw [← hW]; exact Below.alloc HhB8.out HhB8.out.size _
        clear hW
        obtain ⟨b3, hb3⟩ : ∃ b, b = w8.heap.size := ⟨_, rfl⟩
        rw [← hb3] at hg9 ⊢
        have hl3 : b3 < w9.heap.size := by omega
        have hl1 : b1 < w9.heap.size := by omega
        have hl2 : b2 < w9.heap.size := by omega
        have hB9b := HhB5.out.trans (hB9.mono HhB5.out.size)
        have hK9 : ∀ wx, Below w9.heap.size w9 wx → wx.heap[b2]? = some (.cells #[.int .i64 0, .int .i64 0] 23 (0, 0)) ∧ (wx.cell? ⟨b1, 0, none⟩ = some (.int .i64 (x : Nat)) ∧ wx.cell? ⟨b1, 1, none⟩ = some (.int .i64 (p : Nat))) ∧ wx.cell? ⟨b3, 0, none⟩ = some (.int .i64 (e : Nat)) ∧ wx.cell? ⟨b3, 1, none⟩ = some (.int .i64 (s : Nat)) := fun wx hx =>
          ⟨(hx.block b2 hl2).trans (HhK5.out _ hB9).2, row2 ((hx.block b1 hl1).trans (HhK5.out _ hB9).1), row2 ((hx.block b3 hl3).trans hg9)⟩
        have hc2 : ∀ wx, Below w9.heap.size w9 wx → Calls Tryd.prog 16 #[.agg #[.int .i64 (x : Nat), .int .i64 (p : Nat)], .string ⟨c.toArray⟩, .string ⟨t.toArray⟩] wx fun r w' => r = .returned (.agg #[.int .i64 (e : Nat), .int .i64 (s : Nat)]) ∧ Below w9.heap.size w9 w' := fun wx hx =>
          (Hc2.out wx (hB9b.trans (hx.mono hB9b.size))).mono fun r w' ⟨h1, h2⟩ => ⟨h1, hx.trans (h2.mono hx.size)⟩
        have hc4 : ∀ wx, Below w9.heap.size w9 wx → Calls Tryd.prog 18 #[.int .i64 (p : Nat), .string ⟨c.toArray⟩, .string ⟨t.toArray⟩, .agg #[.int .i64 (e : Nat), .int .i64 (s : Nat)]] wx fun r w' => r = .returned (.bool true) ∧ Below w9.heap.size w9 w' := fun wx hx =>
          (Hc4.out wx (hB9b.trans (hx.mono hB9b.size))).mono fun r w' ⟨h1, h2⟩ => ⟨h1, hx.trans (h2.mono hx.size)⟩
        have hend : ∀ wx, Below w9.heap.size w9 wx → Below w.heap.size w wx := fun wx hx => hB9b.trans (hx.mono hB9b.size)
        clear hb3 hs9 hs8 hl1 hl2 hl3 hl1' hl2' hg9
        have heq := Hheq.out
        have f1 := Hf1.out
        have f2 := Hf2.out
        have f3 := Hf3.out
        have f4 := Hf4.out
        have HhK9 := Lib.hid hK9
        clear hK9
        have Hhc2 := Lib.hid hc2
        clear hc2
        have Hhc4 := Lib.hid hc4
        clear hc4
        have Hhend := Lib.hid hend
        clear hend
        have HhB9 := Lib.hid hB9
        clear hB9
        have HhB9b := Lib.hid hB9b
        clear hB9b
        first | (go_region_held3 (fun w' => (w'.cell? ⟨b1, 0, none⟩ = some (.int .i64 (x : Nat)) ∧ w'.cell? ⟨b1, 1, none⟩ = some (.int .i64 (p : Nat))) ∧ w'.cell? ⟨b3, 0, none⟩ = some (.int .i64 (e : Nat)) ∧ w'.cell? ⟨b3, 1, none⟩ = some (.int .i64 (s : Nat))) (exact (HhK9.out _ (by first | assumption | exact Below.refl _ _ | exact (Below.refl _ _).drew | exact Below.drew (by assumption))).2) (first | (go_at_call 18; refine (Hhc4.out _ (by first | assumption | exact Below.refl _ _ | exact (Below.refl _ _).drew | exact Below.drew (by assumption))).mono ?_; rintro r wa ⟨rfl, hba⟩) | (go_at_call 16; refine (Hhc2.out _ (by first | assumption | exact Below.refl _ _ | exact (Below.refl _ _).drew | exact Below.drew (by assumption))).mono ?_; rintro r wb ⟨rfl, hbb⟩))) | fail
        clear heq f1 f2 f3 f4
        obtain ⟨y0, y1⟩ := row2 (HhK9.out _ hbb).1
        go_wp2_with fail
        refine (Hd3.out wb (Hhend.out _ hbb)).mono ?_
        rintro r w10 ⟨rfl, hb10⟩
        have hB10 := hbb.trans (hb10.mono hbb.size)
        clear y0 y1
        obtain ⟨y0, y1⟩ := row2 (HhK9.out _ hB10).1
        have q1 : b2 < w10.heap.size := (Array.getElem?_eq_some_iff.1 (HhK9.out _ hB10).1).1
        go_wp2_with fail
        generalize hW : World.alloc _ _ = w11
        have hg11 : w11.heap[w10.heap.size]? = some (.cells #[.int .i64 0, .int .i64 0] 25 (0, 0)) := by rw [← hW]; exact heap_alloc_new w10 _
        have hs11 : w11.heap.size = w10.heap.size + 1 := by rw [← hW, World.size_alloc]
        have hB11 : Below w9.heap.size w9 w11 := by rw [← hW]; exact Below.alloc hB10 hB10.size _
        clear hW y0 y1
        refine (Hd2.out w11).mono ?_
        rintro r w12 ⟨rfl, hb12⟩
        have hB12 := hB11.trans (hb12.mono hB11.size)
        obtain ⟨y0, y1⟩ := row2 (HhK9.out _ hB12).1
        obtain ⟨z0, z1⟩ := row2 ((hb12.block w10.heap.size (by omega)).trans hg11)
        clear hg11 hs11
        go_wp2_with fail
        go_ret
        exact ⟨rfl, Hhend.out _ hB12⟩
      · clear hv
        have hofb : ofS n = (0, 0) := by unfold ofS; rw [if_pos (by omega)]
        have hrb := rightS_zero
        have hsig2 := signS_zero c t
        have heq0 : ∀ w : World, (Op.equalIn 10000 25 (.agg #[.int .i64 0, .int .i64 0]) (.agg #[.int .i64 0, .int .i64 0])).run Tryd.prog w = .ok true w := fun w => by rw [equal25]; rfl
        have d1 : ∀ wx, Calls Tryd.prog 12 #[.int .i64 n] wx fun r w' => r = .returned (.agg #[.int .i64 0, .int .i64 0]) ∧ Below wx.heap.size wx w' := fun wx =>
          (of_calls _ wx hn).mono fun r w' ⟨h1, h2⟩ => ⟨by rw [h1, hofb]; rfl, h2⟩
        have d2 : ∀ wx, Calls Tryd.prog 14 #[.agg #[.int .i64 0, .int .i64 0]] wx fun r w' => r = .returned (.bool false) ∧ Below wx.heap.size wx w' := fun wx =>
          (right_calls (0, 0) wx (by unfold In64; simp only; omega)).mono fun r w' ⟨h1, h2⟩ => ⟨by rw [h1, hrb], h2⟩
        have d3 : ∀ wx, Below w.heap.size w wx → Calls Tryd.prog 16 #[.agg #[.int .i64 0, .int .i64 0], .string ⟨c.toArray⟩, .string ⟨t.toArray⟩] wx fun r w' => r = .returned (.agg #[.int .i64 0, .int .i64 0]) ∧ Below wx.heap.size wx w' := fun wx hx =>
          (sign_calls (0, 0) c t m wx (Hhall.out wx hx) (by unfold In64; simp only; omega) (by unfold In64; simp only; omega) hln1 hln2).mono fun r w' ⟨h1, h2⟩ => ⟨by rw [h1, hsig2]; rfl, h2⟩
        clear hln1 hln2
        have Hd1 := Lib.hid d1
        clear d1
        have Hd2 := Lib.hid d2
        clear d2
        have Hd3 := Lib.hid d3
        clear d3
        have Hhofb := Lib.hid hofb
        clear hofb
        have Hhrb := Lib.hid hrb
        clear hrb
        have Hhsig2 := Lib.hid hsig2
        clear hsig2
        go_enter Tryd.func4, Tryd.ntmps4
        go_wp2_with fail
        refine Hhsm.out.mono ?_
        rintro r w1 ⟨rfl, hB1⟩
        have hs1 := hB1.size
        have HhB1 := Lib.hid hB1
        clear hB1
        go_wp2_with fail
        refine (Hhsh.out w1).mono ?_
        rintro r w1' ⟨rfl, rfl⟩
        go_wp2_with fail
        refine (Hc1.out w1 HhB1.out).mono ?_
        rintro r w2 ⟨rfl, hB2⟩
        have hB2b := HhB1.out.trans (hB2.mono hs1)
        have HhB2 := Lib.hid hB2
        clear hB2
        go_wp2_with fail
        generalize hW : World.alloc _ _ = w3
        have hk3 : w3.heap[w2.heap.size]? = some (.cells #[.int .i64 (x : Nat), .int .i64 (p : Nat)] 23 (0, 0)) := by rw [← hW]; exact heap_alloc_new w2 _
        have hs3 : w3.heap.size = w2.heap.size + 1 := by rw [← hW, World.size_alloc]
        have hB3 : Below w.heap.size w w3 := by rw [← hW]; exact Below.alloc hB2b (by have := hB2b.size; omega) _
        clear hW hs1
        obtain ⟨b1, hb1⟩ : ∃ b, b = w2.heap.size := ⟨_, rfl⟩
        rw [← hb1] at hk3 ⊢
        have hl1 : b1 < w3.heap.size := by omega
        clear hb1 hs3 hB2b
        have Hhk3 := Lib.hid hk3
        clear hk3
        have HhB3 := Lib.hid hB3
        clear hB3
        refine (Hd1.out w3).mono ?_
        rintro r w4 ⟨rfl, hB4⟩
        have hs4 := hB4.size
        have hk4 := (hB4.block b1 hl1).trans Hhk3.out
        have hB4b := HhB3.out.trans (hB4.mono HhB3.out.size)
        clear hB4
        have Hhk4 := Lib.hid hk4
        clear hk4
        have HhB4b := Lib.hid hB4b
        clear hB4b
        go_wp2_with fail
        generalize hW : World.alloc _ _ = w5
        have hk5 : w5.heap[b1]? = some (.cells #[.int .i64 (x : Nat), .int .i64 (p : Nat)] 23 (0, 0)) := by
          rw [← hW, Below.heap_alloc _ _ _ (by omega)]; exact Hhk4.out
        have hg5 : w5.heap[w4.heap.size]? = some (.cells #[.int .i64 0, .int .i64 0] 23 (0, 0)) := by rw [← hW]; exact heap_alloc_new w4 _
        have hs5 : w5.heap.size = w4.heap.size + 1 := by rw [← hW, World.size_alloc]
        have hB5 : Below w.heap.size w w5 := by rw [← hW]; exact Below.alloc HhB4b.out HhB4b.out.size _
        clear hW
        obtain ⟨b2, hb2⟩ : ∃ b, b = w4.heap.size := ⟨_, rfl⟩
        rw [← hb2] at hg5 ⊢
        have hl1' : b1 < w5.heap.size := by omega
        have hl2' : b2 < w5.heap.size := by omega
        clear hb2 hs5 hs4 hl1
        have hK5 : ∀ wx, Below w5.heap.size w5 wx → wx.heap[b1]? = some (.cells #[.int .i64 (x : Nat), .int .i64 (p : Nat)] 23 (0, 0)) ∧ wx.heap[b2]? = some (.cells #[.int .i64 0, .int .i64 0] 23 (0, 0)) := fun wx hx =>
          ⟨(hx.block b1 hl1').trans hk5, (hx.block b2 hl2').trans hg5⟩
        clear hk5 hg5
        have HhK5 := Lib.hid hK5
        clear hK5
        have HhB5 := Lib.hid hB5
        clear hB5
        refine (Hd2.out w5).mono ?_
        rintro r w6 ⟨rfl, hb6⟩
        obtain ⟨y0, y1⟩ := row2 (HhK5.out _ hb6).1
        go_wp2_with fail
        refine (Hc3.out w6).mono ?_
        rintro r w7 ⟨rfl, hb7⟩
        have hB7 := hb6.trans (hb7.mono hb6.size)
        clear y0 y1
        obtain ⟨y0, y1⟩ := row2 (HhK5.out _ hB7).1
        go_wp2_with fail
        refine (Hc2.out w7 (HhB5.out.trans (hB7.mono HhB5.out.size))).mono ?_
        rintro r w8 ⟨rfl, hb8⟩
        have hB8 := hB7.trans (hb8.mono hB7.size)
        have hs8 := hB8.size
        clear y0 y1
        have HhB8 := Lib.hid hB8
        clear hB8
        have HhB7 := Lib.hid hB7
        clear hB7
        have Hhb6 := Lib.hid hb6
        clear hb6
        have Hhb7 := Lib.hid hb7
        clear hb7
        have Hhb8 := Lib.hid hb8
        clear hb8
        go_wp2_with fail
        generalize hW : World.alloc _ _ = w9
        have hg9 : w9.heap[w8.heap.size]? = some (.cells #[.int .i64 (e : Nat), .int .i64 (s : Nat)] 25 (0, 0)) := by rw [← hW]; exact heap_alloc_new w8 _
        have hs9 : w9.heap.size = w8.heap.size + 1 := by rw [← hW, World.size_alloc]
        have hB9 : Below w5.heap.size w5 w9 := by rw [← hW]; exact Below.alloc HhB8.out HhB8.out.size _
        clear hW
        obtain ⟨b3, hb3⟩ : ∃ b, b = w8.heap.size := ⟨_, rfl⟩
        rw [← hb3] at hg9 ⊢
        have hl3 : b3 < w9.heap.size := by omega
        have hl1 : b1 < w9.heap.size := by omega
        have hl2 : b2 < w9.heap.size := by omega
        have hB9b := HhB5.out.trans (hB9.mono HhB5.out.size)
        have hK9 : ∀ wx, Below w9.heap.size w9 wx → wx.heap[b2]? = some (.cells #[.int .i64 0, .int .i64 0] 23 (0, 0)) ∧ (wx.cell? ⟨b1, 0, none⟩ = some (.int .i64 (x : Nat)) ∧ wx.cell? ⟨b1, 1, none⟩ = some (.int .i64 (p : Nat))) ∧ wx.cell? ⟨b3, 0, none⟩ = some (.int .i64 (e : Nat)) ∧ wx.cell? ⟨b3, 1, none⟩ = some (.int .i64 (s : Nat)) := fun wx hx =>
          ⟨(hx.block b2 hl2).trans (HhK5.out _ hB9).2, row2 ((hx.block b1 hl1).trans (HhK5.out _ hB9).1), row2 ((hx.block b3 hl3).trans hg9)⟩
        have hc2 : ∀ wx, Below w9.heap.size w9 wx → Calls Tryd.prog 16 #[.agg #[.int .i64 (x : Nat), .int .i64 (p : Nat)], .string ⟨c.toArray⟩, .string ⟨t.toArray⟩] wx fun r w' => r = .returned (.agg #[.int .i64 (e : Nat), .int .i64 (s : Nat)]) ∧ Below w9.heap.size w9 w' := fun wx hx =>
          (Hc2.out wx (hB9b.trans (hx.mono hB9b.size))).mono fun r w' ⟨h1, h2⟩ => ⟨h1, hx.trans (h2.mono hx.size)⟩
        have hc4 : ∀ wx, Below w9.heap.size w9 wx → Calls Tryd.prog 18 #[.int .i64 (p : Nat), .string ⟨c.toArray⟩, .string ⟨t.toArray⟩, .agg #[.int .i64 (e : Nat), .int .i64 (s : Nat)]] wx fun r w' => r = .returned (.bool true) ∧ Below w9.heap.size w9 w' := fun wx hx =>
          (Hc4.out wx (hB9b.trans (hx.mono hB9b.size))).mono fun r w' ⟨h1, h2⟩ => ⟨h1, hx.trans (h2.mono hx.size)⟩
        have hend : ∀ wx, Below w9.heap.size w9 wx → Below w.heap.size w wx := fun wx hx => hB9b.trans (hx.mono hB9b.size)
        clear hb3 hs9 hs8 hl1 hl2 hl3 hl1' hl2' hg9
        have heq := Hheq.out
        have f1 := Hf1.out
        have f2 := Hf2.out
        have f3 := Hf3.out
        have f4 := Hf4.out
        have HhK9 := Lib.hid hK9
        clear hK9
        have Hhc2 := Lib.hid hc2
        clear hc2
        have Hhc4 := Lib.hid hc4
        clear hc4
        have Hhend := Lib.hid hend
        clear hend
        have HhB9 := Lib.hid hB9
        clear hB9
        have HhB9b := Lib.hid hB9b
        clear hB9b
        first | (go_region_held3 (fun w' => (w'.cell? ⟨b1, 0, none⟩ = some (.int .i64 (x : Nat)) ∧ w'.cell? ⟨b1, 1, none⟩ = some (.int .i64 (p : Nat))) ∧ w'.cell? ⟨b3, 0, none⟩ = some (.int .i64 (e : Nat)) ∧ w'.cell? ⟨b3, 1, none⟩ = some (.int .i64 (s : Nat))) (exact (HhK9.out _ (by first | assumption | exact Below.refl _ _ | exact (Below.refl _ _).drew | exact Below.drew (by assumption))).2) (first | (go_at_call 18; refine (Hhc4.out _ (by first | assumption | exact Below.refl _ _ | exact (Below.refl _ _).drew | exact Below.drew (by assumption))).mono ?_; rintro r wa ⟨rfl, hba⟩) | (go_at_call 16; refine (Hhc2.out _ (by first | assumption | exact Below.refl _ _ | exact (Below.refl _ _).drew | exact Below.drew (by assumption))).mono ?_; rintro r wb ⟨rfl, hbb⟩))) | fail
        clear heq f1 f2 f3 f4
        obtain ⟨y0, y1⟩ := row2 (HhK9.out _ hbb).1
        go_wp2_with fail
        refine (Hd3.out wb (Hhend.out _ hbb)).mono ?_
        rintro r w10 ⟨rfl, hb10⟩
        have hB10 := hbb.trans (hb10.mono hbb.size)
        clear y0 y1
        obtain ⟨y0, y1⟩ := row2 (HhK9.out _ hB10).1
        have q1 : b2 < w10.heap.size := (Array.getElem?_eq_some_iff.1 (HhK9.out _ hB10).1).1
        go_wp2_with fail
        generalize hW : World.alloc _ _ = w11
        have hg11 : w11.heap[w10.heap.size]? = some (.cells #[.int .i64 0, .int .i64 0] 25 (0, 0)) := by rw [← hW]; exact heap_alloc_new w10 _
        have hs11 : w11.heap.size = w10.heap.size + 1 := by rw [← hW, World.size_alloc]
        have hB11 : Below w9.heap.size w9 w11 := by rw [← hW]; exact Below.alloc hB10 hB10.size _
        clear hW y0 y1
        refine (Hd2.out w11).mono ?_
        rintro r w12 ⟨rfl, hb12⟩
        have hB12 := hB11.trans (hb12.mono hB11.size)
        obtain ⟨y0, y1⟩ := row2 (HhK9.out _ hB12).1
        obtain ⟨z0, z1⟩ := row2 ((hb12.block w10.heap.size (by omega)).trans hg11)
        clear hg11 hs11
        go_wp2_with fail
        go_ret
        exact ⟨rfl, Hhend.out _ hB12⟩
  · rw [decide_eq_false hlen] at hsh
    clear hlen
    have Hhsm := Lib.hid hsm
    clear hsm
    have Hhsh := Lib.hid hsh
    clear hsh
    have Hhall := Lib.hid hall
    clear hall
    have Hh := Lib.hid h
    clear h
    go_enter Tryd.func4, Tryd.ntmps4
    go_wp2_with fail
    refine Hhsm.out.mono ?_
    rintro r w1 ⟨rfl, hB1⟩
    have HhB1 := Lib.hid hB1
    clear hB1
    go_wp2_with fail
    refine (Hhsh.out w1).mono ?_
    rintro r w1' ⟨rfl, rfl⟩
    go_wp2_with fail
    go_ret
    exact ⟨rfl, HhB1.out⟩
theorem Holds_at (s0 s1 s2 : ByteArray) (n m : Int) (w : World) (h : SA m w) (hn : In64 n) (l1 : s0.data.toList.length ≤ reachBytes) (l2 : s1.data.toList.length ≤ reachBytes) (l3 : s2.data.toList.length ≤ reachBytes) :
    Calls Tryd.prog 4 #[.string s0, .int .i64 n, .string s1, .string s2] w fun e w' => e = .returned (.bool true) ∧ Below w.heap.size w w' := by
  unfold reachBytes at l1 l2 l3
  have := Holds_calls s0.data.toList s1.data.toList s2.data.toList n m w h hn (by omega) (by omega) (by omega)
  have e : ∀ s : ByteArray, (⟨s.data.toList.toArray⟩ : ByteArray) = s := fun s => by apply ByteArray.ext; simp
  rwa [e, e, e] at this
end Go.Proofs.YtjbpjmdnmnbonaaDoor
