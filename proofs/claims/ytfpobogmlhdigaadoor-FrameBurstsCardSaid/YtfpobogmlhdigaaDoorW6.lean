/- The stretches of a stream; the reference's walk of Decode; Same; short. -/
import Derived.Test.YtfpobogmlhdigaaDoorW5
set_option linter.unusedSimpArgs false
set_option linter.unusedVariables false
namespace Go.Proofs.YtfpobogmlhdigaaDoor
open Go.RowKit

/-- the state between two bytes: what stands behind the last flag, and the stretches before it -/
abbrev St := Option (List UInt8) × List (List UInt8)
def step (x : St) (c : UInt8) : St := if c = 126 then (some [], x.2 ++ x.1.toList) else (x.1.map (fun l => l ++ [c]), x.2)
def scan (l : List UInt8) : St := l.foldl step (none, [])
def cur (l : List UInt8) : Option (List UInt8) := (scan l).1
def strs (l : List UInt8) : List (List UInt8) := (scan l).2
theorem scan_snoc (l : List UInt8) (c : UInt8) : scan (l ++ [c]) = step (scan l) c := by unfold scan; rw [List.foldl_append]; rfl
theorem scan_succ (l : List UInt8) (k : Nat) (h : k < l.length) : scan (l.take (k + 1)) = step (scan (l.take k)) l[k] := by
  rw [List.take_succ_eq_append_getElem h, scan_snoc]

/-- the payloads of a stream -/
def pays (l : List UInt8) : List (List UInt8) := (strs l).filterMap pay
def restV (o : Option (List UInt8)) : List UInt8 := match o with
  | none => []
  | some c => if 2048 < c.length then [] else 126 :: c

theorem ex_mid (l : List UInt8) (a b : Nat) : (ByteArray.mk l.toArray).extract a b = ⟨((l.take b).drop a).toArray⟩ := by
  apply ByteArray.ext
  simp [ByteArray.data_extract, List.drop_take]
theorem filterMap_snoc {α β : Type} (f : α → Option β) (l : List α) (x : α) : (l ++ [x]).filterMap f = l.filterMap f ++ (f x).toList := by
  rw [List.filterMap_append]
  congr 1
theorem pays_len : ∀ (l : List UInt8), (pays l).length ≤ l.length := by
  intro l
  have h1 : (pays l).length ≤ (strs l).length := List.length_filterMap_le _ _
  have h2 : ∀ (l : List UInt8) (x : St), (l.foldl step x).2.length ≤ x.2.length + l.length := by
    intro l
    induction l with
    | nil => intro x; simp
    | cons c l ih =>
      intro x
      have := ih (step x c)
      have h3 : (step x c).2.length ≤ x.2.length + 1 := by
        unfold step
        split
        · simp only [List.length_append]
          have : x.1.toList.length ≤ 1 := by cases x.1 <;> simp
          omega
        · show x.2.length ≤ x.2.length + 1
          omega
      simp only [List.foldl_cons, List.length_cons]
      omega
  have := h2 l (none, [])
  unfold strs scan at h1
  simp at this
  omega

set_option maxHeartbeats 2000000 in
theorem refDecode_calls (s : List UInt8) (w : World) (hs : s.length ≤ 1000000) :
    Calls Tryd.prog 11 #[.string ⟨s.toArray⟩] w fun e w' => ∃ v, e = .returned (.tuple #[v, .string ⟨(restV (cur s)).toArray⟩]) ∧ w'.ownsRow w.heap.size 9 1 v (pays s).length ((pays s).map strV) ∧ Below w.heap.size w w' := by
  have hz := str_size s
  go_enter Tryd.func11, Tryd.ntmps11
  go_wp2_with fail
  go_loopw [4, 5, 6, 7, 8] (fun s4 s5 s6 _ _ wr => ∃ i : Nat, s6 = .int .i64 i ∧ i ≤ s.length ∧ ((s5 = .int .i64 (-1) ∧ cur (s.take i) = none) ∨ (∃ j : Nat, s5 = .int .i64 j ∧ j < i ∧ s[j]? = some 126 ∧ cur (s.take i) = some ((s.take i).drop (j + 1)))) ∧ wr.ownsRow w.heap.size 9 1 s4 (pays (s.take i)).length ((pays (s.take i)).map strV) ∧ Below w.heap.size w wr) (fun _ _ s6 _ _ _ => s.length - (intOf s6).toNat)
  case atStart => exact ⟨0, rfl, by omega, .inl ⟨rfl, rfl⟩, World.ownsRow_nil _ _ _ _, Below.refl _ _⟩
  case round =>
    obtain ⟨i, rfl, hi, hcase, hown, hB⟩ := hrel
    have hsz := hB.size
    have hpl := pays_len (s.take i)
    rw [List.length_take] at hpl
    have hpl2 : (pays (s.take i)).length ≤ 1000000 := by omega
    clear hpl
    by_cases hlt : i < s.length
    · have hsn := scan_succ s i hlt
      have hg0 : ∀ hx, (ByteArray.mk s.toArray)[i]'hx = s[i] := fun _ => rfl
      have hcl := s[i].toNat_lt
      by_cases hc : s[i] = 126
      · have hct : ((s[i].toNat : Int) != 126) = false := by rw [hc]; rfl
        have hcn : cur (s.take (i + 1)) = some [] := by unfold cur; rw [hsn, hc]; rfl
        have hdr : (s.take (i + 1)).drop (i + 1) = [] := by rw [List.drop_of_length_le]; rw [List.length_take]; omega
        have hst : strs (s.take (i + 1)) = strs (s.take i) ++ (cur (s.take i)).toList := by unfold strs cur; rw [hsn, hc]; rfl
        rcases hcase with ⟨rfl, hcu⟩ | ⟨j, rfl, hji, hfl, hcu⟩
        · have hp : pays (s.take (i + 1)) = pays (s.take i) := by unfold pays; rw [hst, hcu]; simp
          clear hst hsn
          have Hhg0 := Lib.hid hg0
          clear hg0
          have Hhcn := Lib.hid hcn
          clear hcn
          have Hhdr := Lib.hid hdr
          clear hdr
          have Hhcu := Lib.hid hcu
          clear hcu
          have Hhp := Lib.hid hp
          clear hp
          have Hhown := Lib.hid hown
          clear hown
          have Hhc := Lib.hid hc
          clear hc
          go_wp2_with fail
          refine ⟨⟨i + 1, by go_num, by omega, .inr ⟨i, rfl, by omega, by rw [List.getElem?_eq_getElem hlt, Hhc.out], by rw [Hhcn.out, Hhdr.out]⟩, by rw [Hhp.out]; exact Hhown.out, hB⟩, by simp [intOf]; omega⟩
        · have hp : pays (s.take (i + 1)) = pays (s.take i) ++ (pay ((s.take i).drop (j + 1))).toList := by
            unfold pays; rw [hst, hcu]; exact filterMap_snoc _ _ _
          have hdl : ((s.take i).drop (j + 1)).length ≤ 1000000 := by rw [List.length_drop, List.length_take]; omega
          have hex := ex_mid s (j + 1) i
          clear hst hsn hfl
          generalize (s.take i).drop (j + 1) = st at *
          generalize pays (s.take i) = ps at *
          have Hhg0 := Lib.hid hg0
          clear hg0
          have Hhcn := Lib.hid hcn
          clear hcn
          have Hhdr := Lib.hid hdr
          clear hdr
          have Hhcu := Lib.hid hcu
          clear hcu
          have Hhp := Lib.hid hp
          clear hp
          have Hhown := Lib.hid hown
          clear hown
          have Hhc := Lib.hid hc
          clear hc
          go_wp2_with fail
          refine (refPayload_calls st wr hdl).mono ?_
          rintro e w4 ⟨rfl, hB4⟩
          have hsz4 := hB4.size
          have hown4 := ownsRow_below Hhown.out hB4 (Nat.le_refl _)
          have Hhown4 := Lib.hid hown4
          clear hown4
          cases hpay : pay st with
          | none =>
            have hpv := payV_none hpay
            rw [hpv]
            have hp2 := Hhp.out
            rw [hpay] at hp2
            have Hhpv := Lib.hid hpv
            clear hpv
            have Hhp2 := Lib.hid hp2
            clear hp2
            have Hhpay := Lib.hid hpay
            clear hpay
            go_wp2_with fail
            refine ⟨⟨i + 1, by go_num, by omega, .inr ⟨i, rfl, by omega, by rw [List.getElem?_eq_getElem hlt, Hhc.out], by rw [Hhcn.out, Hhdr.out]⟩, by rw [Hhp2.out]; simpa using Hhown4.out, (by ((repeat' (first | exact Below.refl _ _ | (refine Below.alloc ?_ ?_ _) | (refine Below.setCell ?_ ?_ _) | (refine Below.drew ?_) | (refine Below.trans ?_ (Below.mono (by assumption) ?_)))) <;> ((try simp only [World.size_alloc, World.size_setCell, World.size_drew] at *); omega)))⟩, by simp [intOf]; omega⟩
          | some p =>
            have hpv := payV_some hpay
            rw [hpv]
            have hp2 := Hhp.out
            rw [hpay] at hp2
            have Hhpv := Lib.hid hpv
            clear hpv
            have Hhp2 := Lib.hid hp2
            clear hp2
            have Hhpay := Lib.hid hpay
            clear hpay
            go_wp2_with (at_builtin; refine append_str rfl _ _ rfl w.heap.size u4 ps.length _ rfl (Hhown4.out.alloc _) w4.heap.size ⟨p.toArray⟩ rfl (by simp) (by omega) (by simp; omega) ?_)
            intro v5 w5 hown5 hg5 hB5
            have hsz5 := hg5.size
            have Hhown5 := Lib.hid hown5
            clear hown5
            go_wp2_with fail
            refine ⟨⟨i + 1, by go_num, by omega, .inr ⟨i, rfl, by omega, by rw [List.getElem?_eq_getElem hlt, Hhc.out], by rw [Hhcn.out, Hhdr.out]⟩, by rw [Hhp2.out]; simpa [strV] using Hhown5.out, (by ((repeat' (first | exact Below.refl _ _ | (refine Below.alloc ?_ ?_ _) | (refine Below.setCell ?_ ?_ _) | (refine Below.drew ?_) | (refine Below.trans ?_ (Below.mono (by assumption) ?_)))) <;> ((try simp only [World.size_alloc, World.size_setCell, World.size_drew] at *); omega)))⟩, by simp [intOf]; omega⟩
      · have hct : ((s[i].toNat : Int) != 126) = true := by
          have := (u8_ne hc).2
          have e : ((126 : UInt8).toNat : Int) = 126 := rfl
          rw [e] at this
          exact this
        have hp : pays (s.take (i + 1)) = pays (s.take i) := by unfold pays strs; rw [hsn]; unfold step; rw [if_neg hc]
        have hcn : cur (s.take (i + 1)) = (cur (s.take i)).map (fun l => l ++ [s[i]]) := by unfold cur; rw [hsn]; unfold step; rw [if_neg hc]
        have hdr : ∀ j, j < i → (s.take (i + 1)).drop (j + 1) = (s.take i).drop (j + 1) ++ [s[i]] := fun j hj => by
          rw [List.take_succ_eq_append_getElem hlt, List.drop_append_of_le_length (by rw [List.length_take]; omega)]
        clear hsn
        rcases hcase with ⟨rfl, hcu⟩ | ⟨j, rfl, hji, hfl, hcu⟩
        · rw [hcu] at hcn
          have Hhg0 := Lib.hid hg0
          clear hg0
          have Hhcn := Lib.hid hcn
          clear hcn
          have Hhdr := Lib.hid hdr
          clear hdr
          have Hhcu := Lib.hid hcu
          clear hcu
          have Hhp := Lib.hid hp
          clear hp
          have Hhown := Lib.hid hown
          clear hown
          have Hhc := Lib.hid hc
          clear hc
          go_wp2_with fail
          refine ⟨⟨i + 1, by go_num, by omega, .inl ⟨rfl, Hhcn.out⟩, by rw [Hhp.out]; exact Hhown.out, hB⟩, by simp [intOf]; omega⟩
        · rw [hcu] at hcn
          have hdr2 := hdr j hji
          have Hhg0 := Lib.hid hg0
          clear hg0
          have Hhcn := Lib.hid hcn
          clear hcn
          have Hhdr := Lib.hid hdr
          clear hdr
          have Hhdr2 := Lib.hid hdr2
          clear hdr2
          have Hhcu := Lib.hid hcu
          clear hcu
          have Hhp := Lib.hid hp
          clear hp
          have Hhown := Lib.hid hown
          clear hown
          have Hhc := Lib.hid hc
          clear hc
          have Hhfl := Lib.hid hfl
          clear hfl
          go_wp2_with fail
          refine ⟨⟨i + 1, by go_num, by omega, .inr ⟨j, rfl, by omega, Hhfl.out, by rw [Hhcn.out, Hhdr2.out]; rfl⟩, by rw [Hhp.out]; exact Hhown.out, hB⟩, by simp [intOf]; omega⟩
    · obtain rfl : i = s.length := by omega
      rw [List.take_length] at hcase hown
      rcases hcase with ⟨rfl, hcu⟩ | ⟨j, rfl, hji, hfl, hcu⟩
      · have hr : restV (cur s) = [] := by rw [hcu]; rfl
        have Hhr := Lib.hid hr
        clear hr
        have Hhcu := Lib.hid hcu
        clear hcu
        have Hhown := Lib.hid hown
        clear hown
        go_wp2_with fail
        go_ret2
        rw [Hhr.out]
        exact ⟨_, rfl, Hhown.out, hB⟩
      · have hdl : (s.drop (j + 1)).length = s.length - (j + 1) := List.length_drop
        by_cases hl : 2048 < (s.drop (j + 1)).length
        · have hr : restV (cur s) = [] := by rw [hcu]; unfold restV; simp only; rw [if_pos hl]
          have h1 : (2048 : Int) < (s.length : Int) - j - 1 := by omega
          clear hdl hfl
          have Hhr := Lib.hid hr
          clear hr
          have Hhcu := Lib.hid hcu
          clear hcu
          have Hhown := Lib.hid hown
          clear hown
          go_wp2_with fail
          go_ret2
          rw [Hhr.out]
          exact ⟨_, rfl, Hhown.out, hB⟩
        · have hd : s.drop j = 126 :: s.drop (j + 1) := by
            obtain ⟨h1, h2⟩ := List.getElem?_eq_some_iff.1 hfl
            rw [drop1 h1, h2]
          have hr : restV (cur s) = s.drop j := by rw [hcu, hd]; unfold restV; simp only; rw [if_neg hl]
          have h1 : ¬ (2048 : Int) < (s.length : Int) - j - 1 := by omega
          have hex := drop_extract s j
          have hj1 : (j : Int) ≤ s.length := by omega
          have hz2 : ((ByteArray.mk s.toArray).size : Int) = s.length := by rw [hz]
          clear hdl hfl hd
          have Hhr := Lib.hid hr
          clear hr
          have Hhcu := Lib.hid hcu
          clear hcu
          have Hhown := Lib.hid hown
          clear hown
          go_wp2_with fail
          go_quiet (fail)
          go_wp2_with fail
          go_ret2
          rw [Hhr.out]
          exact ⟨_, rfl, Hhown.out, below_drewN hB _⟩

set_option maxHeartbeats 400000 in
theorem Same_calls (va vb : Value) (la lb : List ByteArray) (w : World) (ha : StrsAt w va la) (hb : StrsAt w vb lb) :
    Calls Tryd.prog 12 #[va, vb] w fun e w' => e = .returned (.bool (decide (la = lb))) ∧ Below w.heap.size w w' := by
  have ha0 := ha
  have hb0 := hb
  obtain ⟨oa, cap, rfl, hm, hr, hc⟩ := ha
  obtain ⟨ob, capb, rfl, hmb, hrb, hcb⟩ := hb
  clear hr hrb hc hcb
  have Hha0 := Lib.hid ha0
  clear ha0
  have Hhb0 := Lib.hid hb0
  clear hb0
  by_cases hlen : la.length = lb.length
  · have hlen' : ((la.length : Int) != (lb.length : Int)) = false := by simp [hlen]
    have HLen := Lib.hid hlen
    clear hlen
    go_enter Tryd.func12, Tryd.ntmps12
    go_wp2_with fail
    go_loopw [5] (fun s5 wr => ∃ k : Nat, k ≤ la.length ∧ s5 = .int .i64 k ∧ la.take k = lb.take k ∧ Below w.heap.size w wr) (fun s5 _ => la.length - (intOf s5).toNat)
    case atStart => exact ⟨0, by omega, rfl, by simp, Below.refl _ _⟩
    case round =>
      clear hlen'
      obtain ⟨k, hk, rfl, ht, hB⟩ := hrel
      have Hht := Lib.hid ht
      clear ht
      by_cases hlt : k < la.length
      · obtain ⟨-, b1, off1, rfl, _, hc1⟩ := (Hha0.out.below hB (Nat.le_refl _)).at' hlt
        have hlb : k < lb.length := by have := HLen.out; omega
        obtain ⟨-, b2, off2, rfl, _, hc2⟩ := (Hhb0.out.below hB (Nat.le_refl _)).at' hlb
        have hstep : la[k] = lb[k] → la.take (k + 1) = lb.take (k + 1) := take_eq_succ hlt hlb Hht.out
        have hstop : la[k] ≠ lb[k] → la ≠ lb := ne_of_at hlt hlb
        generalize la[k] = x at *
        generalize lb[k] = y at *
        have Hhstep := Lib.hid hstep
        clear hstep
        have Hhstop := Lib.hid hstop
        clear hstop
        go_wp2_with fail
        go_quiet (fail)
        generalize hB2 : (x.toList == y.toList) = B
        rw [bytes_eq] at hB2
        by_cases he : x = y
        · rw [decide_eq_true he] at hB2
          subst hB2
          have Hhe := Lib.hid he
          clear he
          go_wp2_with fail
          refine ⟨⟨k + 1, by omega, by go_num, Hhstep.out Hhe.out, below_drewN hB _⟩, by simp [intOf]; omega⟩
        · rw [decide_eq_false he] at hB2
          subst hB2
          have Hhe := Lib.hid he
          clear he
          go_wp2_with fail
          go_ret
          refine ⟨ret_bool ?_, below_drewN hB _⟩
          simp [Hhstop.out Hhe.out]
      · go_wp2_with fail
        go_ret
        refine ⟨ret_bool ?_, hB⟩
        have h := Hht.out
        have := HLen.out
        rw [List.take_of_length_le (by omega), List.take_of_length_le (by omega)] at h
        simp [h]
  · have hlen' : ((la.length : Int) != (lb.length : Int)) = true := by simp; omega
    have HLen := Lib.hid hlen
    clear hlen
    go_enter Tryd.func12, Tryd.ntmps12
    go_wp2_with fail
    go_ret
    refine ⟨ret_bool ?_, Below.refl _ _⟩
    have : la ≠ lb := fun h => HLen.out (by rw [h])
    simp [this]
end Go.Proofs.YtfpobogmlhdigaaDoor
