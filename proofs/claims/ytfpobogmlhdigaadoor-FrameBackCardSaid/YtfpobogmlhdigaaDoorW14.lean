/- FrameBack: walk. -/
import Derived.Test.YtfpobogmlhdigaaDoorW13
set_option linter.unusedSimpArgs false
set_option linter.unusedVariables false
namespace Go.Proofs.YtfpobogmlhdigaaDoor
open Go.RowKit

set_option maxRecDepth 100000 in
set_option maxHeartbeats 2000000 in
theorem Back_calls (s : List UInt8) (v : Value) (pl : List (List UInt8)) (m : Int) (w : World) (hm : MaxAt m w) (hl : StrsAt w v (pl.map bytesOf)) (ha : s.length ≤ 9223372036854775807) :
    Calls Tryd.prog 4 #[.string ⟨s.toArray⟩, v] w fun e w' => e = .returned (.bool true) ∧ Below w.heap.size w w' := by
  have hm0 := hm.2
  have hza := str_size s
  have hl0 := hl
  obtain ⟨oa, cap, rfl, hmx, hr, hc⟩ := hl
  rw [List.length_map] at hmx hl0
  have hlm : (pl.map bytesOf).length = pl.length := List.length_map _
  clear hr hc
  rw [List.length_map]
  have Hhm := Lib.hid hm
  clear hm
  have Hhl0 := Lib.hid hl0
  clear hl0
  go_enter Tryd.func4, Tryd.ntmps4
  go_wp2_with fail
  refine (small_calls m w Hhm.out).mono ?_
  rintro e w1 ⟨rfl, hB1⟩
  have hz1 := hB1.size
  have hm1 := Hhm.out.below hB1 hm0
  have hl1 := Hhl0.out.below hB1 (Nat.le_refl _)
  have Hhm1 := Lib.hid hm1
  clear hm1
  have Hhl1 := Lib.hid hl1
  clear hl1
  go_wp2_with fail
  refine (short_calls _ _ w1 Hhl1.out).mono ?_
  rintro e w2 ⟨rfl, rfl⟩
  by_cases hok : okStrs (pl.map bytesOf)
  · rw [decide_eq_true hok]
    by_cases h1 : s.length ≤ 3000
    · have hp20 : pl.length ≤ 20 := by rw [← hlm]; exact hok.1
      have hp3 : ∀ p ∈ pl, p.length ≤ 3000 := fun p hp => by
        have := hok.2 (bytesOf p) (List.mem_map_of_mem hp)
        simpa [bytesOf, ByteArray.size] using this
      clear hok
      have Hhp3 := Lib.hid hp3
      clear hp3
      go_wp2_with fail
      go_loopw [7] (fun s7 wr => ∃ k : Nat, k ≤ s.length ∧ s7 = .int .i64 k ∧ (126 : UInt8) ∉ s.take k ∧ Below w1.heap.size w1 wr) (fun s7 _ => s.length - (intOf s7).toNat)
      case atStart => exact ⟨0, by omega, rfl, by simp, Below.refl _ _⟩
      case round =>
        obtain ⟨k, hk, rfl, hfree, hB3⟩ := hrel
        have hz3 := hB3.size
        have hbel3 : Below w.heap.size w wr := hB1.trans (hB3.mono (by omega))
        by_cases hlt : k < s.length
        · have e126 : ((126 : UInt8).toNat : Int) = 126 := rfl
          have hcl := s[k].toNat_lt
          by_cases hx : s[k] = 126
          · have hx1 : ((s[k].toNat : Int) == 126) = true := by rw [hx]; rfl
            have hx2 : s[k].toNat = 126 := by rw [hx]; rfl
            clear hfree hB3 hB1
            have Hhx := Lib.hid hx
            clear hx
            go_wp2_with fail
            go_ret
            exact ⟨rfl, hbel3⟩
          · have hx1 : ((s[k].toNat : Int) == 126) = false := by have := (u8_ne hx).1; rw [e126] at this; exact this
            have hfree2 : (126 : UInt8) ∉ s.take (k + 1) := by
              rw [take_snoc' s k hlt, List.mem_append]
              rintro (h | h)
              · exact hfree h
              · simp at h; exact hx h.symm
            clear hfree
            have Hhx := Lib.hid hx
            clear hx
            have Hhfree2 := Lib.hid hfree2
            clear hfree2
            go_wp2_with fail
            refine ⟨⟨k + 1, by omega, by go_num, Hhfree2.out, hB3⟩, by simp [intOf]; omega⟩
        · have hfree2 : (126 : UInt8) ∉ s := by rw [List.take_of_length_le (by omega)] at hfree; exact hfree
          have hm3 := Hhm1.out.below hB3 (by omega)
          have hl3 := Hhl1.out.below hB3 (Nat.le_refl _)
          clear hfree hB3 hB1
          have Hhfree2 := Lib.hid hfree2
          clear hfree2
          have Hhbel3 := Lib.hid hbel3
          clear hbel3
          have Hhm3 := Lib.hid hm3
          clear hm3
          have Hhl3 := Lib.hid hl3
          clear hl3
          go_wp2_with fail
          generalize hw0 : wr = w5 at *
          clear hw0
          go_loopw [8, 9, 10, 11] (fun s8 s9 s10 _ wr => ∃ k : Nat, k ≤ pl.length ∧ s10 = .int .i64 k ∧ s8 = .string ⟨(s ++ wireOf (pl.take k)).toArray⟩ ∧ wr.ownsRow w5.heap.size 9 1 s9 (wants (pl.take k)).length ((wants (pl.take k)).map strV) ∧ Below w5.heap.size w5 wr) (fun _ _ s10 _ _ => pl.length - (intOf s10).toNat)
          case atStart => exact ⟨0, by omega, rfl, by simp [wireOf], World.ownsRow_nil _ _ _ _, Below.refl _ _⟩
          case round =>
            obtain ⟨j, hj, rfl, rfl, hown, hB6⟩ := hrel
            have hz6 := hB6.size
            have hwl := wire_len (pl.take j)
            have hwn := wants_len (pl.take j)
            rw [List.length_take] at hwl hwn
            by_cases hlt : j < pl.length
            · have hlt2 : j < (pl.map bytesOf).length := by simpa using hlt
              obtain ⟨-, b1, off1, rfl, hbl, hc0⟩ := Hhl3.out.at' hlt2
              have hpk : (pl.map bytesOf)[j] = ⟨pl[j].toArray⟩ := by simp [bytesOf]
              rw [hpk] at hc0
              have hc1 := (hB6.cell (p := ⟨b1, off1 + j, none⟩) hbl).trans hc0
              have hpl2 := Hhp3.out pl[j] (List.getElem_mem _)
              have hW2 : s ++ wireOf (pl.take (j + 1)) = (s ++ wireOf (pl.take j)) ++ encode pl[j] := by
                rw [take_snoc' pl j hlt, wireOf_snoc, List.append_assoc]
              have hP2 : wants (pl.take (j + 1)) = wants (pl.take j) ++ (if encode pl[j] = [] then [] else [pl[j]]) := by
                rw [take_snoc' pl j hlt, wants_snoc]
              have hWl : (s ++ wireOf (pl.take j)).length ≤ 50000 := by rw [List.length_append]; omega
              have hPl : (wants (pl.take j)).length ≤ 20 := by omega
              have hm6 := Hhm3.out.below hB6 (by omega)
              clear hpk hwl hwn
              generalize pl[j] = p at *
              generalize s ++ wireOf (pl.take j) = X at *
              generalize wants (pl.take j) = Y at *
              have HhW2 := Lib.hid hW2
              clear hW2
              have HhP2 := Lib.hid hP2
              clear hP2
              have Hhown := Lib.hid hown
              clear hown
              have HhB6 := Lib.hid hB6
              clear hB6
              have Hhm6 := Lib.hid hm6
              clear hm6
              have Hhc0 := Lib.hid hc0
              clear hc0
              go_wp2_with fail
              refine (encode_calls p m wr Hhm6.out (by omega)).mono ?_
              rintro e w7 ⟨rfl, hB7⟩
              have hz7 := hB7.size
              have hel := encode_len p
              have hown7 := ownsRow_below Hhown.out hB7 (Nat.le_refl _)
              have hbel7 : Below w5.heap.size w5 w7 := HhB6.out.trans (hB7.mono (by omega))
              have hcat := cat_run X (encode p) (by omega) w7
              have hc7 : w7.cell? ⟨b1, off1 + j, none⟩ = some (.string ⟨p.toArray⟩) := (hbel7.cell (p := ⟨b1, off1 + j, none⟩) hbl).trans Hhc0.out
              have hzp := str_size p
              clear hB7
              by_cases hen : encode p = []
              · have hlong := encode_short p hen
                rw [hen] at hcat ⊢
                have hW3 := HhW2.out
                have hP3 := HhP2.out
                rw [hen] at hW3 hP3
                rw [List.append_nil] at hcat hW3
                rw [if_pos rfl, List.append_nil] at hP3
                have HhW3 := Lib.hid hW3
                clear hW3
                have HhP3 := Lib.hid hP3
                clear hP3
                have Hhown7 := Lib.hid hown7
                clear hown7
                have Hhbel7 := Lib.hid hbel7
                clear hbel7
                have Hhen := Lib.hid hen
                clear hen
                go_wp2_with fail
                refine ⟨⟨j + 1, by omega, by go_num, by rw [HhW3.out], by rw [HhP3.out]; exact Hhown7.out, Hhbel7.out⟩, by simp [intOf]; omega⟩
              · have hlong := encode_long p hen
                have hie : (encode p).isEmpty = false := by simp [hen]
                have hP3 := HhP2.out
                rw [if_neg hen] at hP3
                have hW3 := HhW2.out
                generalize encode p = ee at *
                generalize X ++ ee = X2 at *
                have HhW3 := Lib.hid hW3
                clear hW3
                have HhP3 := Lib.hid hP3
                clear hP3
                have Hhbel7 := Lib.hid hbel7
                clear hbel7
                go_wp2_with (at_builtin; refine append_str rfl _ _ rfl w5.heap.size u9 Y.length _ rfl (hown7.alloc _) w7.heap.size ⟨p.toArray⟩ rfl (by simp) (by omega) (by simp; omega) ?_)
                intro v8 w8 hown8 _ hB8
                have hz8 := hB8.size
                rw [World.size_alloc] at hz8
                have hbel8 : Below w5.heap.size w5 w8 := (Hhbel7.out.alloc (by omega) _).trans hB8
                have hc8 : w8.cell? ⟨b1, off1 + j, none⟩ = some (.string ⟨p.toArray⟩) := (hbel8.cell (p := ⟨b1, off1 + j, none⟩) hbl).trans Hhc0.out
                clear hB8
                have Hhown8 := Lib.hid hown8
                clear hown8
                have Hhbel8 := Lib.hid hbel8
                clear hbel8
                go_wp2_with fail
                refine ⟨⟨j + 1, by omega, by go_num, by rw [HhW3.out], by rw [HhP3.out]; simpa [strV] using Hhown8.out, Hhbel8.out⟩, by simp [intOf]; omega⟩
            · have hjl : pl.take j = pl := List.take_of_length_le (by omega)
              rw [hjl] at hwl hwn
              rw [hjl]
              have hownF : wr.ownsRow w5.heap.size 9 1 u9 (wants pl).length ((wants pl).map strV) := by rw [hjl] at hown; exact hown
              have hm6 := Hhm3.out.below hB6 (by omega)
              have hbel6 : Below w.heap.size w wr := Hhbel3.out.trans (hB6.mono (by omega))
              obtain ⟨hb1, hb2⟩ := back_all s Hhfree2.out pl
              have hWl : (s ++ wireOf pl).length ≤ 1000000 := by rw [List.length_append]; omega
              have hPs : ∀ x ∈ wants pl, x.length ≤ 9223372036854775807 := fun x hx => by
                have := Hhp3.out x (List.mem_filter.1 hx).1; omega
              have hPl : (wants pl).length ≤ 9223372036854775807 := by omega
              have hPl2 : (wants pl).length ≤ 20 := by omega
              clear hown hjl hwl hwn hB6
              generalize s ++ wireOf pl = X at *
              generalize wants pl = Y at *
              have HhownF := Lib.hid hownF
              clear hownF
              have Hhm6 := Lib.hid hm6
              clear hm6
              have Hhbel6 := Lib.hid hbel6
              clear hbel6
              have Hhb1 := Lib.hid hb1
              clear hb1
              have Hhb2 := Lib.hid hb2
              clear hb2
              have HhPs := Lib.hid hPs
              clear hPs
              go_wp2_with fail
              refine (decode_calls X m wr Hhm6.out hWl).mono ?_
              rintro e w7 ⟨v7, rfl, hown7, hB7⟩
              have hz7 := hB7.size
              rw [Hhb1.out] at hown7
              rw [Hhb2.out]
              have hownF7 := ownsRow_below HhownF.out hB7 (Nat.le_refl _)
              have hbel7 : Below w.heap.size w w7 := Hhbel6.out.trans (hB7.mono (by omega))
              have hS1 := StrsAt.of_owned hown7 HhPs.out hPl
              have hS2 := StrsAt.of_owned hownF7 HhPs.out hPl
              obtain ⟨oa1, c1, rfl⟩ := own_open hown7
              obtain ⟨oa2, c2, rfl⟩ := own_open hownF7
              clear hown7 hownF7 hB7
              have hbelF : ∀ w8, Below w7.heap.size w7 w8 → Below w.heap.size w w8 := fun w8 h => hbel7.trans (h.mono (by omega))
              clear hbel7
              by_cases hY : Y = []
              · subst hY
                rw [if_pos rfl]
                have HhS1 := Lib.hid hS1
                clear hS1
                have HhS2 := Lib.hid hS2
                clear hS2
                have HhbelF := Lib.hid hbelF
                clear hbelF
                go_wp2_with fail
                refine (Same_calls _ _ _ _ _ HhS1.out HhS2.out).mono ?_
                rintro e w8 ⟨rfl, hB8⟩
                rw [decide_eq_true rfl]
                have HhB8 := Lib.hid hB8
                clear hB8
                go_wp2_with fail
                go_ret
                exact ⟨rfl, HhbelF.out _ HhB8.out⟩
              · rw [if_neg hY]
                have hY1 : 0 < Y.length := List.length_pos_iff.2 hY
                have hY2 : ((Y.length : Int) == 0) = false := by simp [hY]
                have hY3 : ¬ Y.length = 0 := by omega
                have HhS1 := Lib.hid hS1
                clear hS1
                have HhS2 := Lib.hid hS2
                clear hS2
                have HhbelF := Lib.hid hbelF
                clear hbelF
                go_wp2_with fail
                refine (Same_calls _ _ _ _ _ HhS1.out HhS2.out).mono ?_
                rintro e w8 ⟨rfl, hB8⟩
                rw [decide_eq_true rfl]
                have HhB8 := Lib.hid hB8
                clear hB8
                go_wp2_with fail
                go_ret
                exact ⟨rfl, HhbelF.out _ HhB8.out⟩
    · clear hok
      go_wp2_with fail
      go_ret
      exact ⟨rfl, hB1⟩
  · rw [decide_eq_false hok]
    clear hok
    go_wp2_with fail
    go_ret
    exact ⟨rfl, hB1⟩

theorem Back_at (s0 : ByteArray) (v : Value) (l : List ByteArray) (m : Int) (w : World) (hm : MaxAt m w) (hl : StrsAt w v l) (ha : s0.size ≤ 9223372036854775807) :
    Calls Tryd.prog 4 #[.string s0, v] w fun e w' => e = .returned (.bool true) ∧ Below w.heap.size w w' := by
  have e : (l.map (fun b => b.data.toList)).map bytesOf = l := by
    rw [List.map_map]
    conv => rhs; rw [← List.map_id l]
    apply List.map_congr_left
    intro b _
    exact ba_eta b
  have := Back_calls s0.data.toList v (l.map (fun b => b.data.toList)) m w hm (by rw [e]; exact hl) (by rw [len_data]; exact ha)
  rwa [ba_eta] at this
end Go.Proofs.YtfpobogmlhdigaaDoor
