/- The walk of WireOrder. -/
import Derived.Test.YtiopehgghlfmgaaDoorW15
import Derived.StillTailTactics
set_option linter.unusedSimpArgs false
set_option linter.unusedVariables false
namespace Go.Proofs.YtiopehgghlfmgaaDoor
open Go.RowKit

theorem cmpT_lt {s t : List UInt8} (h : Lt2 s t) : cmpT s t = -1 ∧ cmpT t s = 1 := by
  obtain ⟨h1, h2, h3⟩ := h.less
  unfold cmpT
  constructor
  · rw [if_pos h1]
  · rw [if_neg (by rw [h2]; simp), if_neg h3.symm]
theorem begins_list (a b : List UInt8) (w : World) (ha : a.length ≤ 9223372036854775807) (hb : b.length ≤ 9223372036854775807) : Calls Tryd.prog 23 #[.string ⟨a.toArray⟩, .string ⟨b.toArray⟩] w (BoolIff (b <+: a) w) := by
  have := begins_calls ⟨a.toArray⟩ ⟨b.toArray⟩ w (by rw [str_size]; exact ha) (by rw [str_size]; exact hb)
  simpa using this
theorem text_list (a b : List UInt8) (w : World) : Calls Tryd.prog 22 #[.string ⟨a.toArray⟩, .string ⟨b.toArray⟩] w fun e w' => e = .returned (.int .i64 (cmpT a b)) ∧ w = w' := by
  have := text_calls ⟨a.toArray⟩ ⟨b.toArray⟩ w
  simpa using this
theorem vals_in64 {w : World} {b o : Nat} {v : Val} (h : ValCells w b o v) : In64 v.n ∧ ∀ x ∈ v.l, In64 x := by
  obtain ⟨vl, vt, d0, d1, d2, d3, d4, hil, hst, r1, r2, r3⟩ := h
  exact ⟨r2, hil.in64⟩

set_option maxRecDepth 100000 in
set_option maxHeartbeats 1000000 in
theorem Order_calls (va vb : Value) (la lb : List Val) (m : Int) (w : World) (ha : ValsAt w va la) (hb : ValsAt w vb lb) (hm : w.cell? ⟨0, 0, none⟩ = some (.int .i64 m)) (h0 : 0 < w.heap.size) :
    Calls Tryd.prog 4 #[va, vb] w fun e w' => e = .returned (.bool true) ∧ Below w.heap.size w w' := by
  have ha0 := ha
  have hb0 := hb
  obtain ⟨oa, cap, rfl, hma, -⟩ := ha
  obtain ⟨ob, capb, rfl, hmb, -⟩ := hb
  have Hha0 := Lib.hid ha0
  clear ha0
  have Hhb0 := Lib.hid hb0
  clear hb0
  have Hhm := Lib.hid hm
  clear hm
  go_enter Tryd.func4, Tryd.ntmps4
  go_wp2_with fail
  refine (small_calls m w Hhm.out h0).mono ?_
  rintro e w1 ⟨rfl, hB1⟩
  have hsz1 := hB1.size
  go_wp2_with fail
  refine (light_calls _ la w1 (Hha0.out.below hB1 (Nat.le_refl _))).mono ?_
  rintro e w1' ⟨b, rfl, hL, rfl⟩
  go_wp2_with fail
  refine (light_calls _ lb w1 (Hhb0.out.below hB1 (Nat.le_refl _))).mono ?_
  rintro e w1' ⟨b', rfl, hL', rfl⟩
  cases b
  · go_wp2_with fail
    go_ret
    exact ⟨rfl, hB1⟩
  cases b'
  · go_wp2_with fail
    go_ret
    exact ⟨rfl, hB1⟩
  have hL := hL rfl
  have hL' := hL' rfl
  have hm1 : w1.cell? ⟨0, 0, none⟩ = some (.int .i64 m) := by rw [← Hhm.out]; exact hB1.cell (p := ⟨0, 0, none⟩) h0
  have HhL := Lib.hid hL
  clear hL
  have HhL' := Lib.hid hL'
  clear hL'
  have Hhm1 := Lib.hid hm1
  clear hm1
  go_wp2_with fail
  refine (all_calls _ la m w1 (Hha0.out.below hB1 (Nat.le_refl _)) HhL.out Hhm1.out (by omega)).mono ?_
  rintro e w2 ⟨rfl, hlen1, hB2⟩
  have hsz2 := hB2.size
  have hm2 : w2.cell? ⟨0, 0, none⟩ = some (.int .i64 m) := by rw [← Hhm1.out]; exact hB2.cell (p := ⟨0, 0, none⟩) (by simp; omega)
  have Hhm2 := Lib.hid hm2
  clear hm2
  go_wp2_with fail
  refine (all_calls _ lb m w2 (Hhb0.out.below (B := w.heap.size) (by ((repeat' (first | exact Below.refl _ _ | (refine Below.alloc ?_ ?_ _) | (refine Below.setCell ?_ ?_ _) | (refine Below.drew ?_) | (refine Below.trans ?_ (Below.mono (by assumption) ?_)))) <;> ((try simp only [World.size_alloc, World.size_setCell, World.size_drew] at *); omega))) (Nat.le_refl _)) HhL'.out Hhm2.out (by omega)).mono ?_
  rintro e w3 ⟨rfl, hlen2, hB3⟩
  have hsz3 := hB3.size
  have hbel3 : Below w.heap.size w w3 := (by ((repeat' (first | exact Below.refl _ _ | (refine Below.alloc ?_ ?_ _) | (refine Below.setCell ?_ ?_ _) | (refine Below.drew ?_) | (refine Below.trans ?_ (Below.mono (by assumption) ?_)))) <;> ((try simp only [World.size_alloc, World.size_setCell, World.size_drew] at *); omega)))
  clear hB2 hB3 hB1
  go_wp2_with fail
  go_loopw [10, 11] (fun s10 _ wr => ∃ i : Nat, s10 = .int .i64 i ∧ i ≤ la.length ∧ i ≤ lb.length ∧ encAll (la.take i) = encAll (lb.take i) ∧ Below w.heap.size w wr) (fun s10 _ _ => la.length - (intOf s10).toNat)
  case atStart => exact ⟨0, rfl, by omega, by omega, rfl, hbel3⟩
  case round =>
    obtain ⟨i, rfl, hi1, hi2, hpre, hbel⟩ := hrel
    have hsz := hbel.size
    have Hhpre := Lib.hid hpre
    clear hpre
    by_cases hboth : i < la.length ∧ i < lb.length
    · obtain ⟨h1, h2⟩ := hboth
      obtain ⟨-, p, o, rfl, hpl, hva⟩ := (Hha0.out.below hbel (Nat.le_refl _)).at' h1
      obtain ⟨-, p2, o2, rfl, hpl2, hvb⟩ := (Hhb0.out.below hbel (Nat.le_refl _)).at' h2
      obtain ⟨ina, inla⟩ := vals_in64 hva
      obtain ⟨inb, inlb⟩ := vals_in64 hvb
      have hlaw := fun (hk : kd la[i] = kd lb[i]) => cmpV_law la[i] lb[i] hk ina inb inla inlb
      have hlt1 : Lt2 (encVal la[i]) (encVal lb[i]) → Lt2 (encAll la) (encAll lb) := encAll_lt h1 h2 Hhpre.out
      have hlt2 : Lt2 (encVal lb[i]) (encVal la[i]) → Lt2 (encAll lb) (encAll la) := encAll_lt h2 h1 Hhpre.out.symm
      have hnext : encVal la[i] = encVal lb[i] → encAll (la.take (i + 1)) = encAll (lb.take (i + 1)) := fun e => by rw [encAll_succ _ _ h1, encAll_succ _ _ h2, Hhpre.out, e]
      generalize la[i] = a at *
      generalize lb[i] = b at *
      obtain ⟨vl, vt, d0, d1, d2, d3, d4, hil, hst, r1, r2, r3⟩ := hva
      obtain ⟨ul, ut, g0, g1, g2, g3, g4, gil, gst, q1, q2, q3⟩ := hvb
      have handa := i64_and3 a.kind
      have handb := i64_and3 b.kind
      have hkma : a.kind % 4 = (kd a : Int) := by unfold kd; omega
      have hkmb : b.kind % 4 = (kd b : Int) := by unfold kd; omega
      rw [hkma] at handa
      rw [hkmb] at handb
      clear hkma hkmb
      have hva : ValIs wr (.agg #[.int .i64 a.kind, .int .i64 a.n, .string a.s, vl, vt]) a := ⟨vl, vt, rfl, hil, hst, r1, r2, r3⟩
      have hvb : ValIs wr (.agg #[.int .i64 b.kind, .int .i64 b.n, .string b.s, ul, ut]) b := ⟨ul, ut, rfl, gil, gst, q1, q2, q3⟩
      obtain ⟨oal, capl, rfl⟩ : ∃ oa c, vl = .slice oa a.l.length c := by obtain ⟨x, c, e, _⟩ := hil; exact ⟨x, c, e⟩
      obtain ⟨oat, capt, rfl⟩ : ∃ oa c, vt = .slice oa a.t.length c := by obtain ⟨x, c, e, _⟩ := hst; exact ⟨x, c, e⟩
      obtain ⟨obl, capbl, rfl⟩ : ∃ oa c, ul = .slice oa b.l.length c := by obtain ⟨x, c, e, _⟩ := gil; exact ⟨x, c, e⟩
      obtain ⟨obt, capbt, rfl⟩ : ∃ oa c, ut = .slice oa b.t.length c := by obtain ⟨x, c, e, _⟩ := gst; exact ⟨x, c, e⟩
      clear hil hst gil gst r1 r2 r3 q1 q2 q3 ina inb inla inlb
      have Hhlaw := Lib.hid hlaw
      clear hlaw
      have Hhlt1 := Lib.hid hlt1
      clear hlt1
      have Hhlt2 := Lib.hid hlt2
      clear hlt2
      have Hhnext := Lib.hid hnext
      clear hnext
      have Hhva := Lib.hid hva
      clear hva
      have Hhvb := Lib.hid hvb
      clear hvb
      go_wp2_with fail
      go_quiet (fail)
      generalize hBq : ((kd a : Int) != (kd b : Int)) = Bq
      replace hBq : Bq = !decide (kd a = kd b) := by 
        rw [← hBq]
        by_cases h : kd a = kd b
        · simp [h]
        · simp [h]; omega
      by_cases hk : kd a = kd b
      · have hlaw2 := Hhlaw.out hk
        rw [decide_eq_true hk] at hBq
        subst hBq
        have Hhk := Lib.hid hk
        clear hk
        have Hhlaw2 := Lib.hid hlaw2
        clear hlaw2
        go_wp2_with fail
        have e0 : (wr.drewN nq).cell? ⟨p, o + i * 5, none⟩ = wr.cell? ⟨p, o + i * 5, none⟩ := rfl
        have e1 : ∀ j, (wr.drewN nq).cell? ⟨p, o + i * 5 + j, none⟩ = wr.cell? ⟨p, o + i * 5 + j, none⟩ := fun _ => rfl
        have e2 : (wr.drewN nq).cell? ⟨p2, o2 + i * 5, none⟩ = wr.cell? ⟨p2, o2 + i * 5, none⟩ := rfl
        have e3 : ∀ j, (wr.drewN nq).cell? ⟨p2, o2 + i * 5 + j, none⟩ = wr.cell? ⟨p2, o2 + i * 5 + j, none⟩ := fun _ => rfl
        rw [← e0] at d0
        rw [← e1] at d1 d2 d3 d4
        rw [← e2] at g0
        rw [← e3] at g1 g2 g3 g4
        have hva4 : ValIs (wr.drewN nq) (.agg #[.int .i64 a.kind, .int .i64 a.n, .string a.s, .slice oal a.l.length capl, .slice oat a.t.length capt]) a := ValIs.below Hhva.out (below_drewN (Below.refl _ _) _) (Nat.le_refl _)
        have hvb4 : ValIs (wr.drewN nq) (.agg #[.int .i64 b.kind, .int .i64 b.n, .string b.s, .slice obl b.l.length capbl, .slice obt b.t.length capbt]) b := ValIs.below Hhvb.out (below_drewN (Below.refl _ _) _) (Nat.le_refl _)
        have hbelq : Below w.heap.size w (wr.drewN nq) := below_drewN hbel _
        clear e0 e1 e2 e3
        generalize wr.drewN nq = wq at *
        have hszq := hbelq.size
        have Hhva4 := Lib.hid hva4
        clear hva4
        have Hhvb4 := Lib.hid hvb4
        clear hvb4
        go_still_tail 8, (by kernel_rfl)
        go_wp2_with fail
        refine (compare_calls _ _ a b _ (ValIs.below Hhva4.out (B := wq.heap.size) (by ((repeat' (first | exact Below.refl _ _ | (refine Below.alloc ?_ ?_ _) | (refine Below.setCell ?_ ?_ _) | (refine Below.drew ?_) | (refine Below.trans ?_ (Below.mono (by assumption) ?_)))) <;> ((try simp only [World.size_alloc, World.size_setCell, World.size_drew] at *); omega))) (Nat.le_refl _)) (ValIs.below Hhvb4.out (B := wq.heap.size) (by ((repeat' (first | exact Below.refl _ _ | (refine Below.alloc ?_ ?_ _) | (refine Below.setCell ?_ ?_ _) | (refine Below.drew ?_) | (refine Below.trans ?_ (Below.mono (by assumption) ?_)))) <;> ((try simp only [World.size_alloc, World.size_setCell, World.size_drew] at *); omega))) (Nat.le_refl _))).mono ?_
        rintro e w4 ⟨rfl, hB4⟩
        have hbel4 : Below w.heap.size w w4 := (by ((repeat' (first | exact Below.refl _ _ | (refine Below.alloc ?_ ?_ _) | (refine Below.setCell ?_ ?_ _) | (refine Below.drew ?_) | (refine Below.trans ?_ (Below.mono (by assumption) ?_)))) <;> ((try simp only [World.size_alloc, World.size_setCell, World.size_drew] at *); omega)))
        rcases Hhlaw2.out with ⟨hc, he⟩ | ⟨hc, hlt⟩ | ⟨hc, hlt⟩
        · rw [hc]
          have hn := Hhnext.out he
          have Hhc := Lib.hid hc
          clear hc
          have Hhe := Lib.hid he
          clear he
          have Hhn := Lib.hid hn
          clear hn
          go_wp2_with fail
          exact ⟨⟨i + 1, by go_num, by omega, by omega, Hhn.out, hbel4⟩, by simp [intOf]; omega⟩
        · rw [hc]
          have hl := Hhlt1.out hlt
          obtain ⟨hct, -⟩ := cmpT_lt hl
          obtain ⟨hnp1, hnp2⟩ := hl.not_pre
          have Hhc := Lib.hid hc
          clear hc
          have Hhlt := Lib.hid hlt
          clear hlt
          have Hhl := Lib.hid hl
          clear hl
          have Hhct := Lib.hid hct
          clear hct
          have Hhnp1 := Lib.hid hnp1
          clear hnp1
          have Hhnp2 := Lib.hid hnp2
          clear hnp2
          go_wp2_with fail
          refine (text_list _ _ _).mono ?_
          rintro e w5 ⟨rfl, rfl⟩
          rw [Hhct.out]
          go_wp2_with fail
          refine (begins_list _ _ _ (by omega) (by omega)).mono ?_
          rintro e w5 ⟨b1, rfl, hb1, rfl⟩
          obtain rfl : b1 = false := by
            cases b1
            · rfl
            · exact absurd (hb1.1 rfl) Hhnp2.out
          clear hb1
          go_wp2_with fail
          refine (begins_list _ _ _ (by omega) (by omega)).mono ?_
          rintro e w5 ⟨b1, rfl, hb1, rfl⟩
          obtain rfl : b1 = false := by
            cases b1
            · rfl
            · exact absurd (hb1.1 rfl) Hhnp1.out
          clear hb1
          go_wp2_with fail
          go_ret
          exact ⟨rfl, hbel4⟩
        · rw [hc]
          have hl := Hhlt2.out hlt
          obtain ⟨-, hct⟩ := cmpT_lt hl
          obtain ⟨hnp1, hnp2⟩ := hl.not_pre
          have Hhc := Lib.hid hc
          clear hc
          have Hhlt := Lib.hid hlt
          clear hlt
          have Hhl := Lib.hid hl
          clear hl
          have Hhct := Lib.hid hct
          clear hct
          have Hhnp1 := Lib.hid hnp1
          clear hnp1
          have Hhnp2 := Lib.hid hnp2
          clear hnp2
          go_wp2_with fail
          refine (text_list _ _ _).mono ?_
          rintro e w5 ⟨rfl, rfl⟩
          rw [Hhct.out]
          go_wp2_with fail
          refine (begins_list _ _ _ (by omega) (by omega)).mono ?_
          rintro e w5 ⟨b1, rfl, hb1, rfl⟩
          obtain rfl : b1 = false := by
            cases b1
            · rfl
            · exact absurd (hb1.1 rfl) Hhnp1.out
          clear hb1
          go_wp2_with fail
          refine (begins_list _ _ _ (by omega) (by omega)).mono ?_
          rintro e w5 ⟨b1, rfl, hb1, rfl⟩
          obtain rfl : b1 = false := by
            cases b1
            · rfl
            · exact absurd (hb1.1 rfl) Hhnp2.out
          clear hb1
          go_wp2_with fail
          go_ret
          exact ⟨rfl, hbel4⟩
      · rw [decide_eq_false hk] at hBq
        subst hBq
        have Hhk := Lib.hid hk
        clear hk
        go_wp2_with fail
        go_ret
        exact ⟨rfl, below_drewN hbel _⟩
    · have hcase : encAll la <+: encAll lb ∧ la.length ≤ lb.length ∨ encAll lb <+: encAll la ∧ ¬ la.length ≤ lb.length := by
        by_cases h1 : la.length ≤ lb.length
        · obtain rfl : i = la.length := by omega
          exact .inl ⟨encAll_prefix h1 Hhpre.out, h1⟩
        · obtain rfl : i = lb.length := by omega
          exact .inr ⟨encAll_prefix (by omega) Hhpre.out.symm, h1⟩
      rcases hcase with ⟨hp, hl⟩ | ⟨hp, hl⟩
      · have Hhp := Lib.hid hp
        clear hp
        by_cases h1 : i < la.length
        · have h2 : ¬ i < lb.length := by omega
          go_wp2_with fail
          refine (begins_list _ _ _ (by omega) (by omega)).mono ?_
          rintro e w5 ⟨b1, rfl, hb1, rfl⟩
          obtain rfl : b1 = true := hb1.2 Hhp.out
          clear hb1
          go_wp2_with fail
          go_ret
          exact ⟨rfl, hbel⟩
        · go_wp2_with fail
          refine (begins_list _ _ _ (by omega) (by omega)).mono ?_
          rintro e w5 ⟨b1, rfl, hb1, rfl⟩
          obtain rfl : b1 = true := hb1.2 Hhp.out
          clear hb1
          go_wp2_with fail
          go_ret
          exact ⟨rfl, hbel⟩
      · have Hhp := Lib.hid hp
        clear hp
        by_cases h1 : i < la.length
        · have h2 : ¬ i < lb.length := by omega
          go_wp2_with fail
          refine (begins_list _ _ _ (by omega) (by omega)).mono ?_
          rintro e w5 ⟨b1, rfl, hb1, rfl⟩
          obtain rfl : b1 = true := hb1.2 Hhp.out
          clear hb1
          go_wp2_with fail
          go_ret
          exact ⟨rfl, hbel⟩
        · go_wp2_with fail
          refine (begins_list _ _ _ (by omega) (by omega)).mono ?_
          rintro e w5 ⟨b1, rfl, hb1, rfl⟩
          obtain rfl : b1 = true := hb1.2 Hhp.out
          clear hb1
          go_wp2_with fail
          go_ret
          exact ⟨rfl, hbel⟩
end Go.Proofs.YtiopehgghlfmgaaDoor
