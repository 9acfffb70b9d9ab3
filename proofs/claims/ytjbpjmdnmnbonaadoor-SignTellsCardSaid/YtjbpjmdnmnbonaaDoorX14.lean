/- SignTells: the walk. -/
import Derived.Test.YtjbpjmdnmnbonaaDoorE6
import Derived.Test.YtjbpjmdnmnbonaaDoorE7
set_option linter.unusedSimpArgs false
set_option linter.unusedVariables false
namespace Go.Proofs.YtjbpjmdnmnbonaaDoor
open Go.RowKit

set_option maxRecDepth 100000 in
set_option maxHeartbeats 8000000 in
theorem Tells_calls (seed c t : List UInt8) (a b pub p q : Int) (m : Int) (w : World) (h : SA m w) (ha : In64 a) (hb : In64 b) (hpub : In64 pub) (l1 : seed.length ≤ 140737488355328) (l2 : c.length ≤ 140737488355328) (l3 : t.length ≤ 140737488355328) :
    Calls Tryd.prog 3 #[.string ⟨seed.toArray⟩, .string ⟨c.toArray⟩, .string ⟨t.toArray⟩, .agg #[.int .i64 a, .int .i64 b], .int .i64 pub, .agg #[.int .i64 p, .int .i64 q]] w fun e w' => e = .returned (.bool true) ∧ Below w.heap.size w w' := by
  have h4 := h.2.1
  obtain ⟨wb, hwb⟩ : ∃ wb, wb = (w.alloc (.cells #[.int .i64 a, .int .i64 b] 23)).alloc (.cells #[.int .i64 p, .int .i64 q] 25) := ⟨_, rfl⟩
  have hbox : wb.heap[w.heap.size]? = some (.cells #[.int .i64 a, .int .i64 b] 23 (0, 0)) := by
    rw [hwb, Below.heap_alloc _ _ _ (by rw [World.size_alloc]; omega)]; exact heap_alloc_new w _
  have hres : wb.heap[w.heap.size + 1]? = some (.cells #[.int .i64 p, .int .i64 q] 25 (0, 0)) := by
    have := heap_alloc_new (w.alloc (.cells #[.int .i64 a, .int .i64 b] 23)) (.cells #[.int .i64 p, .int .i64 q] 25)
    rw [World.size_alloc] at this
    rw [hwb]; exact this
  have hBb : Below w.heap.size w wb := by rw [hwb]; exact (by ((repeat' (first | exact Below.refl _ _ | (refine Below.alloc ?_ ?_ _) | (refine Below.setCell ?_ ?_ _) | (refine Below.drew ?_) | (refine Below.trans ?_ (Below.mono (by assumption) ?_)))) <;> ((try simp only [World.size_alloc, World.size_setCell, World.size_drew] at *); omega)))
  have hszb : wb.heap.size = w.heap.size + 2 := by rw [hwb, World.size_alloc, World.size_alloc]
  have hend : ∀ wx, Below wb.heap.size wb wx → Below w.heap.size w wx := fun wx hx => hBb.trans (hx.mono hBb.size)
  have hall : ∀ wx, Below wb.heap.size wb wx → SA m wx := fun wx hx => h.below (hend wx hx) h4
  have hK : ∀ wx, Below wb.heap.size wb wx → (wx.cell? ⟨w.heap.size, 0, none⟩ = some (.int .i64 a) ∧ wx.cell? ⟨w.heap.size, 1, none⟩ = some (.int .i64 b)) ∧ wx.cell? ⟨w.heap.size + 1, 0, none⟩ = some (.int .i64 p) ∧ wx.cell? ⟨w.heap.size + 1, 1, none⟩ = some (.int .i64 q) := fun wx hx =>
    ⟨row2 ((hx.block w.heap.size (by omega)).trans hbox), row2 ((hx.block (w.heap.size + 1) (by omega)).trans hres)⟩
  have hsm := small_calls m wb (hall wb (Below.refl _ _))
  have hsh := fun wx => short3_calls seed c t wx l1 l2 l3
  by_cases hlen : seed.length + c.length + t.length ≤ 2000
  · rw [decide_eq_true hlen] at hsh
    have d0 : seed.length ≤ 2000 := by omega
    have d1 : c.length ≤ 2000 := by omega
    have d2 : t.length ≤ 2000 := by omega
    obtain ⟨⟨k1, k2⟩, hk⟩ : ∃ k, k = keyS seed := ⟨_, rfl⟩
    obtain ⟨⟨o1, o2⟩, ho⟩ : ∃ k, k = ofS a := ⟨_, rfl⟩
    obtain ⟨R, hR⟩ : ∃ R, R = rightS (a, b) := ⟨_, rfl⟩
    obtain ⟨⟨s1, s2⟩, hs⟩ : ∃ k, k = signS (a, b) c t := ⟨_, rfl⟩
    obtain ⟨V, hV⟩ : ∃ V, V = verS pub c t (p, q) := ⟨_, rfl⟩
    have c10 : ∀ wx, Below wb.heap.size wb wx → Calls Tryd.prog 10 #[.string ⟨seed.toArray⟩] wx fun r w' => r = .returned (.agg #[.int .i64 k1, .int .i64 k2]) ∧ Below wb.heap.size wb w' := fun wx hx =>
      (key_calls seed m wx (hall wx hx) d0).mono fun r w' ⟨h1, h2⟩ => ⟨by rw [h1, ← hk]; rfl, hx.trans (h2.mono hx.size)⟩
    have c11 : ∀ wx, Below wb.heap.size wb wx → Calls Tryd.prog 11 #[.string ⟨seed.toArray⟩] wx fun r w' => r = .returned (.agg #[.int .i64 k1, .int .i64 k2]) ∧ Below wb.heap.size wb w' := fun wx hx =>
      (refKey_calls seed wx d0).mono fun r w' ⟨h1, h2⟩ => ⟨by rw [h1, ← hk]; rfl, hx.trans (h2.mono hx.size)⟩
    have c12 : ∀ wx, Below wb.heap.size wb wx → Calls Tryd.prog 12 #[.int .i64 a] wx fun r w' => r = .returned (.agg #[.int .i64 o1, .int .i64 o2]) ∧ Below wb.heap.size wb w' := fun wx hx =>
      (of_calls a wx ha).mono fun r w' ⟨h1, h2⟩ => ⟨by rw [h1, ← ho]; rfl, hx.trans (h2.mono hx.size)⟩
    have c13 : ∀ wx, Below wb.heap.size wb wx → Calls Tryd.prog 13 #[.int .i64 a] wx fun r w' => r = .returned (.agg #[.int .i64 o1, .int .i64 o2]) ∧ Below wb.heap.size wb w' := fun wx hx =>
      (refOf_calls a wx ha).mono fun r w' ⟨h1, h2⟩ => ⟨by rw [h1, ← ho]; rfl, hx.trans (h2.mono hx.size)⟩
    have c14 : ∀ wx, Below wb.heap.size wb wx → Calls Tryd.prog 14 #[.agg #[.int .i64 a, .int .i64 b]] wx fun r w' => r = .returned (.bool R) ∧ Below wb.heap.size wb w' := fun wx hx =>
      (right_calls (a, b) wx ha).mono fun r w' ⟨h1, h2⟩ => ⟨by rw [h1, ← hR], hx.trans (h2.mono hx.size)⟩
    have c15 : ∀ wx, Below wb.heap.size wb wx → Calls Tryd.prog 15 #[.agg #[.int .i64 a, .int .i64 b]] wx fun r w' => r = .returned (.bool R) ∧ Below wb.heap.size wb w' := fun wx hx =>
      (refRight_calls (a, b) wx ha).mono fun r w' ⟨h1, h2⟩ => ⟨by rw [h1, ← hR], hx.trans (h2.mono hx.size)⟩
    have c16 : ∀ wx, Below wb.heap.size wb wx → Calls Tryd.prog 16 #[.agg #[.int .i64 a, .int .i64 b], .string ⟨c.toArray⟩, .string ⟨t.toArray⟩] wx fun r w' => r = .returned (.agg #[.int .i64 s1, .int .i64 s2]) ∧ Below wb.heap.size wb w' := fun wx hx =>
      (sign_calls (a, b) c t m wx (hall wx hx) ha hb d1 d2).mono fun r w' ⟨h1, h2⟩ => ⟨by rw [h1, ← hs]; rfl, hx.trans (h2.mono hx.size)⟩
    have c17 : ∀ wx, Below wb.heap.size wb wx → Calls Tryd.prog 17 #[.agg #[.int .i64 a, .int .i64 b], .string ⟨c.toArray⟩, .string ⟨t.toArray⟩] wx fun r w' => r = .returned (.agg #[.int .i64 s1, .int .i64 s2]) ∧ Below wb.heap.size wb w' := fun wx hx =>
      (refSign_calls (a, b) c t wx ha hb d1 d2).mono fun r w' ⟨h1, h2⟩ => ⟨by rw [h1, ← hs]; rfl, hx.trans (h2.mono hx.size)⟩
    have c18 : ∀ wx, Below wb.heap.size wb wx → Calls Tryd.prog 18 #[.int .i64 pub, .string ⟨c.toArray⟩, .string ⟨t.toArray⟩, .agg #[.int .i64 p, .int .i64 q]] wx fun r w' => r = .returned (.bool V) ∧ Below wb.heap.size wb w' := fun wx hx =>
      (verify_calls pub c t (p, q) m wx (hall wx hx) hpub d1 d2).mono fun r w' ⟨h1, h2⟩ => ⟨by rw [h1, ← hV], hx.trans (h2.mono hx.size)⟩
    have c19 : ∀ wx, Below wb.heap.size wb wx → Calls Tryd.prog 19 #[.int .i64 pub, .string ⟨c.toArray⟩, .string ⟨t.toArray⟩, .agg #[.int .i64 p, .int .i64 q]] wx fun r w' => r = .returned (.bool V) ∧ Below wb.heap.size wb w' := fun wx hx =>
      (refVerify_calls pub p q c t wx hpub d1 d2).mono fun r w' ⟨h1, h2⟩ => ⟨by rw [h1, ← hV], hx.trans (h2.mono hx.size)⟩
    have e1 : ∀ w : World, (Op.equalIn 10000 23 (.agg #[.int .i64 k1, .int .i64 k2]) (.agg #[.int .i64 k1, .int .i64 k2])).run Tryd.prog w = .ok true w := fun w => by rw [equal23]; simp
    have e2 : ∀ w : World, (Op.equalIn 10000 23 (.agg #[.int .i64 o1, .int .i64 o2]) (.agg #[.int .i64 o1, .int .i64 o2])).run Tryd.prog w = .ok true w := fun w => by rw [equal23]; simp
    have e3 : ∀ w : World, (Op.equalIn 10000 25 (.agg #[.int .i64 s1, .int .i64 s2]) (.agg #[.int .i64 s1, .int .i64 s2])).run Tryd.prog w = .ok true w := fun w => by rw [equal25]; simp
    have e4 : (R == R) = true := by simp
    have e5 : (R != R) = false := by simp
    have e6 : (V == V) = true := by simp
    clear hlen d0 d1 d2 hk ho hR hs hV
    have Hhsm := Lib.hid hsm
    clear hsm
    have Hhsh := Lib.hid hsh
    clear hsh
    have Hhall := Lib.hid hall
    clear hall
    have Hh := Lib.hid h
    clear h
    have Hhbox := Lib.hid hbox
    clear hbox
    have Hhres := Lib.hid hres
    clear hres
    have HhBb := Lib.hid hBb
    clear hBb
    have Hhszb := Lib.hid hszb
    clear hszb
    have Hhend := Lib.hid hend
    clear hend
    have HhK := Lib.hid hK
    clear hK
    have Hc10 := Lib.hid c10
    clear c10
    have Hc11 := Lib.hid c11
    clear c11
    have Hc12 := Lib.hid c12
    clear c12
    have Hc13 := Lib.hid c13
    clear c13
    have Hc14 := Lib.hid c14
    clear c14
    have Hc15 := Lib.hid c15
    clear c15
    have Hc16 := Lib.hid c16
    clear c16
    have Hc17 := Lib.hid c17
    clear c17
    have Hc18 := Lib.hid c18
    clear c18
    have Hc19 := Lib.hid c19
    clear c19
    go_enter Tryd.func3, Tryd.ntmps3
    go_wp2_with fail
    rw [show (w.alloc (.cells #[.int .i64 a, .int .i64 b] 23)).alloc (.cells #[.int .i64 p, .int .i64 q] 25) = wb from hwb.symm]
    clear hwb
    refine Hhsm.out.mono ?_
    rintro r w1 ⟨rfl, hB1⟩
    go_wp2_with fail
    refine (Hhsh.out w1).mono ?_
    rintro r w1' ⟨rfl, rfl⟩
    go_wp2_with fail
    first | (go_region_held3 (fun w' => (w'.cell? ⟨w.heap.size, 0, none⟩ = some (.int .i64 a) ∧ w'.cell? ⟨w.heap.size, 1, none⟩ = some (.int .i64 b)) ∧ w'.cell? ⟨w.heap.size + 1, 0, none⟩ = some (.int .i64 p) ∧ w'.cell? ⟨w.heap.size + 1, 1, none⟩ = some (.int .i64 q)) (exact HhK.out _ (by first | assumption | exact Below.refl _ _ | exact (Below.refl _ _).drew | exact Below.drew (by assumption))) (first | (go_at_call 10; refine (Hc10.out _ (by first | assumption | exact Below.refl _ _ | exact (Below.refl _ _).drew | exact Below.drew (by assumption))).mono ?_; rintro r wa0 ⟨rfl, hba0⟩) | (go_at_call 11; refine (Hc11.out _ (by first | assumption | exact Below.refl _ _ | exact (Below.refl _ _).drew | exact Below.drew (by assumption))).mono ?_; rintro r wa1 ⟨rfl, hba1⟩) | (go_at_call 12; refine (Hc12.out _ (by first | assumption | exact Below.refl _ _ | exact (Below.refl _ _).drew | exact Below.drew (by assumption))).mono ?_; rintro r wa2 ⟨rfl, hba2⟩) | (go_at_call 13; refine (Hc13.out _ (by first | assumption | exact Below.refl _ _ | exact (Below.refl _ _).drew | exact Below.drew (by assumption))).mono ?_; rintro r wa3 ⟨rfl, hba3⟩) | (go_at_call 14; refine (Hc14.out _ (by first | assumption | exact Below.refl _ _ | exact (Below.refl _ _).drew | exact Below.drew (by assumption))).mono ?_; rintro r wa4 ⟨rfl, hba4⟩) | (go_at_call 15; refine (Hc15.out _ (by first | assumption | exact Below.refl _ _ | exact (Below.refl _ _).drew | exact Below.drew (by assumption))).mono ?_; rintro r wa5 ⟨rfl, hba5⟩))) | fail
    go_wp2_with fail
    first | (go_region_held3 (fun w' => (w'.cell? ⟨w.heap.size, 0, none⟩ = some (.int .i64 a) ∧ w'.cell? ⟨w.heap.size, 1, none⟩ = some (.int .i64 b)) ∧ w'.cell? ⟨w.heap.size + 1, 0, none⟩ = some (.int .i64 p) ∧ w'.cell? ⟨w.heap.size + 1, 1, none⟩ = some (.int .i64 q)) (exact HhK.out _ (by first | assumption | exact Below.refl _ _ | exact (Below.refl _ _).drew | exact Below.drew (by assumption))) (first | (go_at_call 16; refine (Hc16.out _ (by first | assumption | exact Below.refl _ _ | exact (Below.refl _ _).drew | exact Below.drew (by assumption))).mono ?_; rintro r wa6 ⟨rfl, hba6⟩) | (go_at_call 17; refine (Hc17.out _ (by first | assumption | exact Below.refl _ _ | exact (Below.refl _ _).drew | exact Below.drew (by assumption))).mono ?_; rintro r wa7 ⟨rfl, hba7⟩) | (go_at_call 18; refine (Hc18.out _ (by first | assumption | exact Below.refl _ _ | exact (Below.refl _ _).drew | exact Below.drew (by assumption))).mono ?_; rintro r wa8 ⟨rfl, hba8⟩) | (go_at_call 19; refine (Hc19.out _ (by first | assumption | exact Below.refl _ _ | exact (Below.refl _ _).drew | exact Below.drew (by assumption))).mono ?_; rintro r wa9 ⟨rfl, hba9⟩))) | fail
    go_wp2_with fail
    go_ret
    exact ⟨by simp, Hhend.out _ (by first | assumption | exact Below.refl _ _ | exact (Below.refl _ _).drew | exact Below.drew (by assumption))⟩
  · rw [decide_eq_false hlen] at hsh
    clear hlen
    have Hhsm := Lib.hid hsm
    clear hsm
    have Hhsh := Lib.hid hsh
    clear hsh
    have Hhall := Lib.hid hall
    clear hall
    have Hh := Lib.hid h
    clear h
    have Hhbox := Lib.hid hbox
    clear hbox
    have Hhres := Lib.hid hres
    clear hres
    have HhBb := Lib.hid hBb
    clear hBb
    have Hhszb := Lib.hid hszb
    clear hszb
    have Hhend := Lib.hid hend
    clear hend
    have HhK := Lib.hid hK
    clear hK
    go_enter Tryd.func3, Tryd.ntmps3
    go_wp2_with fail
    rw [show (w.alloc (.cells #[.int .i64 a, .int .i64 b] 23)).alloc (.cells #[.int .i64 p, .int .i64 q] 25) = wb from hwb.symm]
    clear hwb
    refine Hhsm.out.mono ?_
    rintro r w1 ⟨rfl, hB1⟩
    go_wp2_with fail
    refine (Hhsh.out w1).mono ?_
    rintro r w1' ⟨rfl, rfl⟩
    go_wp2_with fail
    go_ret
    exact ⟨rfl, Hhend.out _ hB1⟩
theorem Tells_at (s0 s1 s2 : ByteArray) (a b pub p q m : Int) (w : World) (h : SA m w) (ha : In64 a) (hb : In64 b) (hpub : In64 pub) (l1 : s0.data.toList.length ≤ reachBytes) (l2 : s1.data.toList.length ≤ reachBytes) (l3 : s2.data.toList.length ≤ reachBytes) :
    Calls Tryd.prog 3 #[.string s0, .string s1, .string s2, .agg #[.int .i64 a, .int .i64 b], .int .i64 pub, .agg #[.int .i64 p, .int .i64 q]] w fun e w' => e = .returned (.bool true) ∧ Below w.heap.size w w' := by
  unfold reachBytes at l1 l2 l3
  have := Tells_calls s0.data.toList s1.data.toList s2.data.toList a b pub p q m w h ha hb hpub (by omega) (by omega) (by omega)
  have e : ∀ s : ByteArray, (⟨s.data.toList.toArray⟩ : ByteArray) = s := fun s => by apply ByteArray.ext; simp
  rwa [e, e, e] at this
end Go.Proofs.YtjbpjmdnmnbonaaDoor
