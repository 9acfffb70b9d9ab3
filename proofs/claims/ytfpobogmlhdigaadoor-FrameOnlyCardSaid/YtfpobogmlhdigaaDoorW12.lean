/- FrameOnly: walk. -/
import Derived.Test.YtfpobogmlhdigaaDoorW10
set_option linter.unusedSimpArgs false
set_option linter.unusedVariables false
namespace Go.Proofs.YtfpobogmlhdigaaDoor
open Go.RowKit

/-- the packets' frames stand in the text, one behind the other; two neighbours may share a flag -/
def Emb : List UInt8 → List (List UInt8) → Prop
  | _, [] => True
  | t, p :: ps => encode p ≠ [] ∧ ∃ j, j + (encode p).length ≤ t.length ∧ (t.drop j).take (encode p).length = encode p ∧ Emb (t.drop (j + (encode p).length - 1)) ps
theorem emb_drop : ∀ (ps : List (List UInt8)) (t : List UInt8) (i : Nat), Emb (t.drop i) ps → Emb t ps
  | [], _, _, _ => trivial
  | p :: ps, t, i, h => by
    obtain ⟨h0, j, h1, h2, h3⟩ := h
    have hlen : 0 < (encode p).length := List.length_pos_iff.2 h0
    rw [List.length_drop] at h1
    rw [List.drop_drop] at h2 h3
    refine ⟨h0, i + j, by omega, h2, ?_⟩
    rw [show i + j + (encode p).length - 1 = i + (j + (encode p).length - 1) by omega]
    exact h3
theorem emb_le {ps : List (List UInt8)} {t : List UInt8} {i j : Nat} (h : Emb (t.drop j) ps) (hij : i ≤ j) : Emb (t.drop i) ps := by
  refine emb_drop ps _ (j - i) ?_
  rw [List.drop_drop, show i + (j - i) = j by omega]
  exact h

def restP (c : Option (List UInt8)) : List UInt8 := match c with
  | none => []
  | some x => 126 :: x
theorem emb_scan : ∀ (l : List UInt8) (c : Option (List UInt8)), (∀ x, c = some x → (126 : UInt8) ∉ x) → Emb (restP c ++ l) ((l.foldl step (c, [])).2.filterMap pay)
  | [], c, _ => trivial
  | d :: l, c, hf => by
    rw [List.foldl_cons]
    by_cases hd : d = 126
    · subst hd
      have hs : step (c, []) 126 = (some [], c.toList) := by unfold step; rw [if_pos rfl]; rfl
      rw [hs, foldl_out]
      have ih := emb_scan l (some []) (by simp)
      have ih' : Emb (126 :: l) ((l.foldl step (some [], [])).2.filterMap pay) := ih
      cases c with
      | none => simpa [restP] using ih'
      | some x =>
        have hx := hf x rfl
        show Emb (126 :: x ++ 126 :: l) ((x :: (l.foldl step (some [], [])).2).filterMap pay)
        cases hp : pay x with
        | none =>
          rw [List.filterMap_cons_none hp]
          refine emb_drop _ _ (x.length + 1) ?_
          rw [show (126 :: x ++ 126 :: l).drop (x.length + 1) = 126 :: l by simp]
          exact ih'
        | some p =>
          rw [List.filterMap_cons_some hp]
          obtain ⟨he, hl⟩ := pay_esc hx hp
          have hen := encode_eq p (by rw [← he]; exact hl)
          rw [← he] at hen
          have hlen : (encode p).length = x.length + 2 := by rw [hen]; simp
          refine ⟨by rw [hen]; simp, 0, by rw [hlen]; simp, ?_, ?_⟩
          · rw [hlen, hen]
            rw [List.drop_zero, show x.length + 2 = (126 :: x ++ [126]).length by simp, show (126 :: x ++ 126 :: l) = (126 :: x ++ [126]) ++ l by simp, List.take_left']
            · rfl
            · rfl
          · rw [hlen, show 0 + (x.length + 2) - 1 = x.length + 1 by omega, show (126 :: x ++ 126 :: l).drop (x.length + 1) = 126 :: l by simp]
            exact ih'
    · have hs : step (c, []) d = (c.map (fun l => l ++ [d]), []) := by unfold step; rw [if_neg hd]
      rw [hs]
      have ih := emb_scan l (c.map (fun l => l ++ [d])) (by
        intro x hx
        simp only [Option.map_eq_some_iff] at hx
        obtain ⟨y, hy, rfl⟩ := hx
        have := hf y hy
        simp [this, Ne.symm hd])
      cases c with
      | none =>
        refine emb_drop _ _ 1 ?_
        exact ih
      | some x =>
        have e : restP (some x) ++ d :: l = restP (Option.map (fun l => l ++ [d]) (some x)) ++ l := by simp [restP]
        rw [e]; exact ih
theorem emb_pays (s : List UInt8) : Emb s (pays s) := emb_scan s none (by simp)
theorem pays_mem_le (l : List UInt8) : ∀ x ∈ pays l, x.length ≤ 2046 := by
  intro x hx
  unfold pays at hx
  obtain ⟨s, hm, hs⟩ := List.mem_filterMap.1 hx
  have := pay_le (strs_frees l s hm) hs
  omega

def OnlyAt (s ee : List UInt8) (ps : List (List UInt8)) (a : Nat) : Prop :=
  ∃ j, a + j + ee.length ≤ s.length ∧ (s.drop (a + j)).take ee.length = ee ∧ Emb (s.drop (a + j + ee.length - 1)) ps
theorem OnlyAt.of_emb {s p : List UInt8} {ps : List (List UInt8)} {a : Nat} (h : Emb (s.drop a) (p :: ps)) (ha : a ≤ s.length) : OnlyAt s (encode p) ps a := by
  obtain ⟨h0, j, h1, h2, h3⟩ := h
  have hlen : 0 < (encode p).length := List.length_pos_iff.2 h0
  rw [List.length_drop] at h1
  rw [List.drop_drop] at h2 h3
  refine ⟨j, by omega, h2, ?_⟩
  rw [show a + j + (encode p).length - 1 = a + (j + (encode p).length - 1) by omega]
  exact h3
theorem OnlyAt.fits {s ee : List UInt8} {ps : List (List UInt8)} {a : Nat} (h : OnlyAt s ee ps a) : a + ee.length ≤ s.length := by
  obtain ⟨j, h1, _⟩ := h; omega
theorem OnlyAt.step {s ee : List UInt8} {ps : List (List UInt8)} {a : Nat} (h : OnlyAt s ee ps a) (hne : ¬ (s.take (a + ee.length)).drop a = ee) : OnlyAt s ee ps (a + 1) := by
  obtain ⟨j, h1, h2, h3⟩ := h
  cases j with
  | zero =>
    exfalso; apply hne
    rw [List.drop_take, show a + ee.length - a = ee.length by omega]
    simpa using h2
  | succ j => exact ⟨j, by omega, by rw [show a + 1 + j = a + (j + 1) by omega]; exact h2, by rw [show a + 1 + j = a + (j + 1) by omega]; exact h3⟩
theorem OnlyAt.done {s ee : List UInt8} {ps : List (List UInt8)} {a : Nat} (h : OnlyAt s ee ps a) : Emb (s.drop (a + ee.length - 1)) ps := by
  obtain ⟨j, h1, h2, h3⟩ := h
  exact emb_le h3 (by omega)

set_option maxHeartbeats 2000000 in
theorem Only_calls (s : List UInt8) (m : Int) (w : World) (hm : MaxAt m w) (ha : s.length ≤ 9223372036854775807) :
    Calls Tryd.prog 6 #[.string ⟨s.toArray⟩] w fun e w' => e = .returned (.bool true) ∧ Below w.heap.size w w' := by
  have hm0 := hm.2
  have hza := str_size s
  have Hhm := Lib.hid hm
  clear hm
  by_cases h1 : s.length ≤ 6000
  · go_enter Tryd.func6, Tryd.ntmps6
    go_wp2_with fail
    refine (small_calls m w Hhm.out).mono ?_
    rintro e w1 ⟨rfl, hB1⟩
    have hz1 := hB1.size
    have hm1 := Hhm.out.below hB1 hm0
    have Hhm1 := Lib.hid hm1
    clear hm1
    go_wp2_with fail
    refine (decode_calls s m w1 Hhm1.out (by omega)).mono ?_
    rintro e w2 ⟨v2, rfl, hown2, hB2⟩
    have hz2 := hB2.size
    have hm2 := Hhm1.out.below hB2 (by omega)
    have hpl := pays_len s
    have hS2 := StrsAt.of_owned hown2 (pays_short s) (by omega)
    obtain ⟨oa2, c2, rfl⟩ := own_open hown2
    have hbel : Below w.heap.size w w2 := hB1.trans (hB2.mono (by omega))
    have hemb := emb_pays s
    have hle := pays_mem_le s
    clear hown2 hB1 hB2
    generalize pays s = ps at *
    have Hhm2 := Lib.hid hm2
    clear hm2
    have HhS2 := Lib.hid hS2
    clear hS2
    have Hhemb := Lib.hid hemb
    clear hemb
    have Hhle := Lib.hid hle
    clear hle
    go_wp2_with fail
    go_loopw [6, 7, 8] (fun s6 s7 _ wr => ∃ k a : Nat, k ≤ ps.length ∧ a ≤ s.length ∧ s6 = .int .i64 a ∧ s7 = .int .i64 k ∧ Emb (s.drop a) (ps.drop k) ∧ Below w2.heap.size w2 wr) (fun _ s7 _ _ => ps.length - (intOf s7).toNat)
    case atStart => exact ⟨0, 0, by omega, by omega, rfl, rfl, Hhemb.out, Below.refl _ _⟩
    case round =>
      obtain ⟨k, a, hk, hal, rfl, rfl, hem, hB3⟩ := hrel
      have hz3 := hB3.size
      have hm3 := Hhm2.out.below hB3 (by omega)
      by_cases hlt : k < ps.length
      · have hlt2 : k < (ps.map bytesOf).length := by simpa using hlt
        obtain ⟨-, b1, off1, rfl, _, hc1⟩ := (HhS2.out.below hB3 (Nat.le_refl _)).at' hlt2
        have hpk : (ps.map bytesOf)[k] = ⟨ps[k].toArray⟩ := by simp [bytesOf]
        rw [hpk] at hc1
        have hpl2 := Hhle.out ps[k] (List.getElem_mem _)
        rw [List.drop_eq_getElem_cons hlt] at hem
        generalize ps[k] = p at *
        clear hpk
        have Hhem := Lib.hid hem
        clear hem
        have HhB3 := Lib.hid hB3
        clear hB3
        have Hhm3 := Lib.hid hm3
        clear hm3
        go_wp2_with fail
        refine (encode_calls p m wr Hhm3.out (by omega)).mono ?_
        rintro e w4 ⟨rfl, hB4⟩
        have hz4 := hB4.size
        have hel := encode_len p
        have hem2 := Hhem.out
        have hbel4 : Below w2.heap.size w2 w4 := HhB3.out.trans (hB4.mono (by omega))
        clear hB4
        have hon := OnlyAt.of_emb hem2 hal
        have he0 : encode p ≠ [] := hem2.1
        clear hem2
        have hlen0 : 0 < (encode p).length := List.length_pos_iff.2 he0
        have hie : (encode p).isEmpty = false := by simp [he0]
        have hez := str_size (encode p)
        generalize encode p = ee at *
        have Hhon := Lib.hid hon
        clear hon
        have Hhbel4 := Lib.hid hbel4
        clear hbel4
        go_wp2_with fail
        go_loopw [6] (fun s6 wi => ∃ a2 : Nat, a2 ≤ s.length ∧ s6 = .int .i64 a2 ∧ OnlyAt s ee (ps.drop (k + 1)) a2 ∧ Below w4.heap.size w4 wi) (fun s6 _ => s.length - (intOf s6).toNat)
        case atStart => exact ⟨a, hal, rfl, Hhon.out, Below.refl _ _⟩
        case round =>
          obtain ⟨a2, ha2, rfl, hon2, hB5⟩ := hrel
          have hz5 := hB5.size
          have hfit := hon2.fits
          have hex := ex_mid s a2 (a2 + ee.length)
          have hq := str_beq ((s.take (a2 + ee.length)).drop a2) ee
          have hst := fun h => hon2.step h
          have hdn := hon2.done
          have hb1 : (a2 : Int) ≤ (a2 : Int) + ee.length := by omega
          have hb2 : (a2 : Int) + ee.length ≤ s.length := by omega
          by_cases hee : (s.take (a2 + ee.length)).drop a2 = ee
          · generalize hX : (s.take (a2 + ee.length)).drop a2 = X at *
            subst hee
            have Hhst := Lib.hid hst
            clear hst
            have Hhdn := Lib.hid hdn
            clear hdn
            have HhB5 := Lib.hid hB5
            clear hB5
            have HhX := Lib.hid hX
            clear hX
            go_wp2_with fail
            refine ⟨⟨k + 1, a2 + X.length - 1, by omega, by omega, by go_num, by go_num, Hhdn.out, Hhbel4.out.trans (HhB5.out.mono (by omega))⟩, by simp [intOf]; omega⟩
          · have hon3 := hst hee
            generalize hX : (s.take (a2 + ee.length)).drop a2 = X at *
            have Hhst := Lib.hid hst
            clear hst
            have Hhdn := Lib.hid hdn
            clear hdn
            have HhB5 := Lib.hid hB5
            clear hB5
            have HhX := Lib.hid hX
            clear hX
            have Hhon3 := Lib.hid hon3
            clear hon3
            go_wp2_with fail
            · refine ⟨⟨a2 + 1, by omega, by go_num, Hhon3.out, HhB5.out⟩, by simp [intOf]; omega⟩
            · exfalso
              have hh : (!X == ee) = false := by assumption
              simp at hh
              exact hee hh
      · have hbel3 : Below w.heap.size w wr := hbel.trans (hB3.mono (by omega))
        clear hbel hB3 hem
        go_wp2_with fail
        go_ret
        exact ⟨rfl, hbel3⟩
  · go_enter Tryd.func6, Tryd.ntmps6
    go_wp2_with fail
    refine (small_calls m w Hhm.out).mono ?_
    rintro e w1 ⟨rfl, hB1⟩
    go_wp2_with fail
    go_ret
    exact ⟨rfl, hB1⟩
theorem Only_at (s0 : ByteArray) (m : Int) (w : World) (hm : MaxAt m w) (ha : s0.size ≤ 9223372036854775807) :
    Calls Tryd.prog 6 #[.string s0] w fun e w' => e = .returned (.bool true) ∧ Below w.heap.size w w' := by
  have := Only_calls s0.data.toList m w hm (by rw [len_data]; exact ha)
  rwa [ba_eta] at this
end Go.Proofs.YtfpobogmlhdigaaDoor
