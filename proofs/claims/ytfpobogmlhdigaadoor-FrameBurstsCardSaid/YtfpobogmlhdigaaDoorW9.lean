/- small, short. -/
import Derived.Test.YtfpobogmlhdigaaDoorW8
set_option linter.unusedSimpArgs false
set_option linter.unusedVariables false
namespace Go.Proofs.YtfpobogmlhdigaaDoor
open Go.RowKit

theorem escaped_free : ∀ l : List UInt8, (126 : UInt8) ∉ escaped l
  | [] => by simp [escaped]
  | c :: l => by
    have ih := escaped_free l
    have e : escaped (c :: l) = escB c ++ escaped l := by simp [escaped]
    rw [e, List.mem_append]
    rintro (h | h)
    · unfold escB at h
      split at h
      · revert h; decide
      · split at h
        · revert h; decide
        · rename_i h1 h2
          exact h2 (by simpa using h : (126 : UInt8) = c).symm
    · exact ih h

theorem foldl_frees : ∀ (l : List UInt8) (x : St), (∀ c, x.1 = some c → (126 : UInt8) ∉ c) → (∀ c ∈ x.2, (126 : UInt8) ∉ c) →
    (∀ c, (l.foldl step x).1 = some c → (126 : UInt8) ∉ c) ∧ (∀ c ∈ (l.foldl step x).2, (126 : UInt8) ∉ c)
  | [], x, h1, h2 => ⟨h1, h2⟩
  | d :: l, x, h1, h2 => by
    rw [List.foldl_cons]
    refine foldl_frees l _ ?_ ?_
    · intro c hc
      unfold step at hc
      split at hc
      · simp at hc; subst hc; simp
      · rename_i hd
        simp only [Option.map_eq_some_iff] at hc
        obtain ⟨y, hy, rfl⟩ := hc
        have := h1 y hy
        simp [this, Ne.symm hd]
    · intro c hc
      unfold step at hc
      split at hc
      · simp only [List.mem_append] at hc
        rcases hc with hc | hc
        · exact h2 c hc
        · exact h1 c (by simpa using hc)
      · exact h2 c hc
theorem strs_frees (l : List UInt8) : ∀ c ∈ strs l, (126 : UInt8) ∉ c := (foldl_frees l (none, []) (by simp) (by simp)).2
theorem cur_frees (l : List UInt8) : ∀ c, cur l = some c → (126 : UInt8) ∉ c := (foldl_frees l (none, []) (by simp) (by simp)).1

theorem body_take (p : List UInt8) : (body p).take ((body p).length - 2) = p := by
  rw [body_len]; simp [body]
theorem pay_iff {s p : List UInt8} (h : s.length ≤ 2048) : pay s = some p ↔ unesc s = some (body p) := by
  unfold pay
  rw [if_neg (by omega)]
  cases hu : unesc s with
  | none => simp
  | some b =>
    simp only [Option.some.injEq]
    constructor
    · intro h
      split at h
      · rename_i hb
        have : b.take (b.length - 2) = p := by simpa using h
        rw [← this]; exact hb.2.symm
      · simp at h
    · intro hb
      subst hb
      rw [body_take, if_pos ⟨by rw [body_len]; omega, rfl⟩]
theorem pay_esc {s p : List UInt8} (hf : (126 : UInt8) ∉ s) (h : pay s = some p) : s = escaped (body p) ∧ s.length ≤ 2048 := by
  have hl : s.length ≤ 2048 := by
    by_cases h2 : 2048 < s.length
    · rw [pay_long h2] at h; simp at h
    · omega
  exact ⟨(escaped_unesc s _ hf ((pay_iff hl).1 h)).symm, hl⟩
theorem pay_escaped (p : List UInt8) : pay (escaped (body p)) = if 2048 < (escaped (body p)).length then none else some p := by
  split
  · rename_i h; exact pay_long h
  · rename_i h; exact (pay_iff (by omega)).2 (unesc_escaped _)
theorem pay_le {s p : List UInt8} (hf : (126 : UInt8) ∉ s) (h : pay s = some p) : p.length + 2 ≤ 2048 := by
  obtain ⟨h1, h2⟩ := pay_esc hf h
  have := (escaped_le (body p)).2
  rw [body_len] at this
  rw [h1] at h2
  omega
theorem pay_nil : pay [] = none := by decide +kernel
theorem encode_eq (p : List UInt8) (h : (escaped (body p)).length ≤ 2048) : encode p = 126 :: (escaped (body p) ++ [126]) := by
  unfold encode; rw [if_neg (by omega)]
theorem encode_nil (p : List UInt8) (h : 2048 < (escaped (body p)).length) : encode p = [] := by
  unfold encode; rw [if_pos h]
theorem encode_len (p : List UInt8) : (encode p).length ≤ 2050 := by
  unfold encode; split
  · simp
  · simp only [List.length_cons, List.length_append, List.length_nil]; omega

theorem bytesOf_inj {a b : List UInt8} (h : bytesOf a = bytesOf b) : a = b := by
  have := congrArg (fun x : ByteArray => x.data.toList) h
  simpa [bytesOf] using this
theorem map_bytesOf (a b : List (List UInt8)) : decide (a.map bytesOf = b.map bytesOf) = decide (a = b) := by
  apply decide_eq_decide.2
  constructor
  · intro h
    exact (List.map_inj_right (fun x y => bytesOf_inj)).1 h
  · intro h; rw [h]
theorem pays_short (l : List UInt8) : ∀ x ∈ pays l, x.length ≤ 9223372036854775807 := by
  intro x hx
  unfold pays at hx
  obtain ⟨s, hm, hs⟩ := List.mem_filterMap.1 hx
  have := pay_le (strs_frees l s hm) hs
  omega

theorem s1 : pays [49, 126, 0, 0, 126, 0, 0, 126, 50] = [[], []] := by decide +kernel
theorem s2 : restV (cur [49, 126, 0, 0, 126, 0, 0, 126, 50]) = [126, 50] := by decide +kernel
theorem s4 : pays (120 :: (encode [97, 126, 125] ++ encode [98])) = [[97, 126, 125], [98]] := by decide +kernel
theorem s5 : restV (cur (120 :: (encode [97, 126, 125] ++ encode [98]))) = [126] := by decide +kernel
theorem s6 : encode [] = [126, 0, 0, 126] := by decide +kernel
theorem strs_lit2 {w : World} {base : Nat} {v : Value} (h : w.ownsRow base 9 1 v 2 [strV [97, 126, 125], strV [98]]) : StrsAt w v ([[97, 126, 125], [98]].map bytesOf) :=
  StrsAt.of_owned (l := [[97, 126, 125], [98]]) h (by simp) (by simp)

set_option maxHeartbeats 2000000 in
theorem small_calls (m : Int) (w : World) (hm : MaxAt m w) :
    Calls Tryd.prog 9 #[] w fun e w' => e = .returned (.bool true) ∧ Below w.heap.size w w' := by
  have hm0 := hm.2
  have Hhm := Lib.hid hm
  clear hm
  go_enter Tryd.func9, Tryd.ntmps9
  go_wp2_with fail
  refine (decode_calls [49, 126, 0, 0, 126, 0, 0, 126, 50] m w Hhm.out (by simp)).mono ?_
  rintro e w1 ⟨v1, rfl, hown1, hB1⟩
  rw [s1] at hown1
  rw [s2]
  obtain ⟨g1, c1, rfl⟩ := ownsRow_succ (k := 1) hown1
  clear hown1
  have hm1 := Hhm.out.below hB1 hm0
  have hz1 := hB1.size
  have Hhm1 := Lib.hid hm1
  clear hm1
  go_wp2_with fail
  refine (encode_calls [97, 126, 125] m w1 Hhm1.out (by simp)).mono ?_
  rintro e w2 ⟨rfl, hB2⟩
  have hm2 := Hhm1.out.below hB2 (by omega)
  have hz2 := hB2.size
  have l1 := encode_len [97, 126, 125]
  have l2 := encode_len [98]
  have Hhm2 := Lib.hid hm2
  clear hm2
  have hc1 := cat_run [120] (encode [97, 126, 125]) (by simp only [List.length_cons, List.length_nil]; omega) w2
  go_wp2_with fail
  refine (encode_calls [98] m w2 Hhm2.out (by simp)).mono ?_
  rintro e w3 ⟨rfl, hB3⟩
  have hm3 := Hhm2.out.below hB3 (by omega)
  have hz3 := hB3.size
  have Hhm3 := Lib.hid hm3
  clear hm3
  have hc2 := cat_run (120 :: encode [97, 126, 125]) (encode [98]) (by simp only [List.length_cons]; omega) w3
  go_wp2_with fail
  refine (decode_calls (120 :: (encode [97, 126, 125] ++ encode [98])) m w3 Hhm3.out (by simp only [List.length_append, List.length_cons]; omega)).mono ?_
  rintro e w4 ⟨v4, rfl, hown4, hB4⟩
  have hz4 := hB4.size
  rw [s4] at hown4
  rw [s5]
  have hm4 := Hhm3.out.below hB4 (by omega)
  obtain ⟨g4, c4, rfl⟩ := ownsRow_succ (k := 1) hown4
  have Hhm4 := Lib.hid hm4
  clear hm4
  have Hhown4 := Lib.hid hown4
  clear hown4
  go_wp2_with fail
  refine (encode_calls [] m w4 Hhm4.out (by simp)).mono ?_
  rintro e w5 ⟨rfl, hB5⟩
  have hz5 := hB5.size
  have hown5 := ownsRow_below Hhown4.out hB5 (Nat.le_refl _)
  rw [s6]
  have Hhown5 := Lib.hid hown5
  clear hown5
  go_wp2_with fail
  have hlit := strs_lit2 (World.ownsRow_lit w5 #[strV [97, 126, 125], strV [98]] 2 (Nat.le_refl _) (by decide) rfl)
  refine (Same_calls _ _ _ _ _ (strs_lit2 (Hhown5.out.alloc _)) hlit).mono ?_
  rintro e w6 ⟨rfl, hB6⟩
  have hz6 := hB6.size
  have hbel : Below w.heap.size w w6 := (((((hB1.trans (hB2.mono (by omega))).trans (hB3.mono (by omega))).trans (hB4.mono (by omega))).trans (hB5.mono (by omega))).alloc (by omega) _).trans (hB6.mono (by simp only [World.size_alloc]; omega))
  rw [decide_eq_true rfl]
  clear hlit hB1 hB2 hB3 hB4 hB5 hB6
  go_wp2_with fail
  go_ret
  exact ⟨rfl, hbel⟩

def okStrs (l : List ByteArray) : Prop := l.length ≤ 20 ∧ ∀ x ∈ l, x.size ≤ 3000
instance (l : List ByteArray) : Decidable (okStrs l) := by unfold okStrs; infer_instance

set_option maxHeartbeats 1000000 in
theorem short_calls (v : Value) (l : List ByteArray) (w : World) (hl : StrsAt w v l) :
    Calls Tryd.prog 15 #[v] w fun e w' => e = .returned (.bool (decide (okStrs l))) ∧ w = w' := by
  have hl0 := hl
  obtain ⟨oa, cap, rfl, hm, hr, hc⟩ := hl
  clear hr hc
  have Hhl0 := Lib.hid hl0
  clear hl0
  by_cases h20 : l.length ≤ 20
  · go_enter Tryd.func15, Tryd.ntmps15
    go_wp2_with fail
    go_loopw [3] (fun s3 wr => ∃ k : Nat, k ≤ l.length ∧ s3 = .int .i64 k ∧ (∀ x ∈ l.take k, x.size ≤ 3000) ∧ w = wr) (fun s3 _ => l.length - (intOf s3).toNat)
    case atStart => exact ⟨0, by omega, rfl, by simp, rfl⟩
    case round =>
      obtain ⟨k, hk, rfl, ht, rfl⟩ := hrel
      by_cases hlt : k < l.length
      · obtain ⟨-, b1, off1, rfl, _, hc1⟩ := Hhl0.out.at' hlt
        have hstep : l[k].size ≤ 3000 → ∀ x ∈ l.take (k + 1), x.size ≤ 3000 := fun h x hx => by
          rw [take_snoc' l k hlt, List.mem_append] at hx
          rcases hx with hx | hx
          · exact ht x hx
          · simp at hx; subst hx; exact h
        have hstop : ¬ l[k].size ≤ 3000 → decide (okStrs l) = false := fun h => decide_eq_false (fun h2 => h (h2.2 _ (List.getElem_mem _)))
        generalize l[k] = x at *
        clear ht
        have Hhstep := Lib.hid hstep
        clear hstep
        have Hhstop := Lib.hid hstop
        clear hstop
        by_cases hx : x.size ≤ 3000
        · have hx2 : (x.size : Int) ≤ 3000 := by omega
          go_wp2_with fail
          refine ⟨⟨k + 1, by omega, by go_num, Hhstep.out hx, trivial⟩, by simp [intOf]; omega⟩
        · have hx2 : ¬ (x.size : Int) ≤ 3000 := by omega
          go_wp2_with fail
          go_ret
          exact ⟨ret_bool (Hhstop.out hx).symm, rfl⟩
      · have hd : decide (okStrs l) = true := decide_eq_true ⟨h20, fun x hx => ht x (by rw [List.take_of_length_le (by omega)]; exact hx)⟩
        clear ht
        have Hhd := Lib.hid hd
        clear hd
        go_wp2_with fail
        go_ret
        exact ⟨ret_bool Hhd.out.symm, rfl⟩
  · have hd : decide (okStrs l) = false := decide_eq_false (fun h => h20 h.1)
    rw [hd]
    go_enter Tryd.func15, Tryd.ntmps15
    go_wp2_with fail
    go_ret
    exact ⟨rfl, rfl⟩
end Go.Proofs.YtfpobogmlhdigaaDoor
