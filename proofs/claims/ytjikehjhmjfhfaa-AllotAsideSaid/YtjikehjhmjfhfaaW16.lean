/- The fixed example of the laws. -/
import Derived.Test.YtjikehjhmjfhfaaW14
import Derived.Deep.RegionHeld3
namespace Go.Proofs.Ytjikehjhmjfhfaa
open Go.RowKit

theorem SameInts_true (va vb : Value) (l : List Int) (w : World) (ha : IntsAt w va l) (hb : IntsAt w vb l) : Calls Try.prog 12 #[va, vb] w fun e w' => e = .returned (.bool true) ∧ Below w.heap.size w w' :=
  (SameInts_calls va vb l l w ha hb).mono fun e w' h => by simpa using h

theorem IntsAt_lit (w : World) (l : List Int) (hr : ∀ x ∈ l, In64 x) (hm : l.length ≤ 1000000) : IntsAt (w.alloc (.cells (l.map (Value.int .i64)).toArray 3)) (.slice (some ⟨w.heap.size, 0, none⟩) l.length l.length) l :=
  IntsAt.of_owned (by simpa using World.ownsRow_lit (base := 0) (e := 3) (size := 1) w (l.map (Value.int .i64)).toArray l.length (by omega) (by unfold maxLen; omega) (by simp)) hr (by omega)

theorem GrantsAt_lit (w : World) (l : List (Int × Int)) (hr : ∀ x ∈ l, In64 x.1 ∧ In64 x.2) (hm : l.length ≤ 1000000) (hl : (gcells l).length = l.length * 2) : GrantsAt (w.alloc (.cells (gcells l).toArray 47)) (.slice (some ⟨w.heap.size, 0, none⟩) l.length l.length) l :=
  GrantsAt.of_owned (by simpa using World.ownsRow_lit (base := 0) (e := 47) (size := 2) w (gcells l).toArray l.length (by omega) (by unfold maxLen; omega) (by simpa using hl)) hr (by omega)

def pl0 : List Pl := [⟨2, 0⟩, ⟨2, 0⟩, ⟨-1, 0⟩]
def rs0 : List Rt := [⟨1, 0, 0, 2, 30, 0, 0, 0, 0⟩, ⟨2, 0, 0, 0, 8, 0, 0, 500, 1⟩, ⟨3, 0, 0, 1, 8, 0, 0, 0, 0⟩]
def sBox (w : World) : Array Value := #[.string ⟨#[]⟩, .slice none 0 0, .int .i64 0, .slice (some ⟨w.heap.size, 0, none⟩) 3 3, .slice none 0 0, .slice none 0 0, .slice none 0 0, .slice none 0 0, .slice none 0 0, .slice none 0 0, .int .i64 0]
def sWorld (w : World) : World := (((w.alloc (.cells #[.string ⟨#[]⟩, .int .i64 0, .int .i64 0, .int .i64 0, .slice none 0 0, .slice none 0 0, .int .i64 0, .int .i64 0, .int .i64 2, .int .i64 0, .int .i64 0, .slice none 0 0, .string ⟨#[]⟩, .int .i64 0, .int .i64 0, .int .i64 0, .slice none 0 0, .slice none 0 0, .int .i64 0, .int .i64 0, .int .i64 2, .int .i64 0, .int .i64 0, .slice none 0 0, .string ⟨#[]⟩, .int .i64 0, .int .i64 0, .int .i64 0, .slice none 0 0, .slice none 0 0, .int .i64 0, .int .i64 0, .int .i64 (-1), .int .i64 0, .int .i64 0, .slice none 0 0] 58)).alloc (.cells (sBox w) 31)).alloc (.cells #[.int .i64 1, .int .i64 0, .int .i64 0, .int .i64 2, .int .i64 30, .int .i64 0, .int .i64 0, .int .i64 0, .int .i64 0, .int .i64 2, .int .i64 0, .int .i64 0, .int .i64 0, .int .i64 8, .int .i64 0, .int .i64 0, .int .i64 500, .int .i64 1, .int .i64 3, .int .i64 0, .int .i64 0, .int .i64 1, .int .i64 8, .int .i64 0, .int .i64 0, .int .i64 0, .int .i64 0] 45)).alloc (.cells #[.int .i64 10, .int .i64 20, .int .i64 5] 3)
theorem sWorld_size (w : World) : (sWorld w).heap.size = w.heap.size + 4 := by simp [sWorld]
theorem sWorld_below (w : World) : Below w.heap.size w (sWorld w) := ((((Below.refl _ _).alloc (Nat.le_refl _) _).alloc (by simp) _).alloc (by simp; omega) _).alloc (by simp; omega) _
theorem sWorld_0 (w : World) : (sWorld w).heap[w.heap.size]? = some (.cells #[.string ⟨#[]⟩, .int .i64 0, .int .i64 0, .int .i64 0, .slice none 0 0, .slice none 0 0, .int .i64 0, .int .i64 0, .int .i64 2, .int .i64 0, .int .i64 0, .slice none 0 0, .string ⟨#[]⟩, .int .i64 0, .int .i64 0, .int .i64 0, .slice none 0 0, .slice none 0 0, .int .i64 0, .int .i64 0, .int .i64 2, .int .i64 0, .int .i64 0, .slice none 0 0, .string ⟨#[]⟩, .int .i64 0, .int .i64 0, .int .i64 0, .slice none 0 0, .slice none 0 0, .int .i64 0, .int .i64 0, .int .i64 (-1), .int .i64 0, .int .i64 0, .slice none 0 0] 58) := by
  show ((((w.heap.push _).push _).push _).push _)[w.heap.size]? = _
  simp only [Array.getElem?_push, Array.size_push]
  rw [if_neg (by omega), if_neg (by omega), if_neg (by omega), if_pos trivial]
theorem sWorld_1 (w : World) : (sWorld w).heap[w.heap.size + 1]? = some (.cells (sBox w) 31) := by
  show ((((w.heap.push _).push _).push _).push _)[w.heap.size + 1]? = _
  simp only [Array.getElem?_push, Array.size_push]
  rw [if_neg (by omega), if_neg (by omega), if_pos trivial]
theorem sWorld_2 (w : World) : (sWorld w).heap[w.heap.size + 1 + 1]? = some (.cells #[.int .i64 1, .int .i64 0, .int .i64 0, .int .i64 2, .int .i64 30, .int .i64 0, .int .i64 0, .int .i64 0, .int .i64 0, .int .i64 2, .int .i64 0, .int .i64 0, .int .i64 0, .int .i64 8, .int .i64 0, .int .i64 0, .int .i64 500, .int .i64 1, .int .i64 3, .int .i64 0, .int .i64 0, .int .i64 1, .int .i64 8, .int .i64 0, .int .i64 0, .int .i64 0, .int .i64 0] 45) := by
  show ((((w.heap.push _).push _).push _).push _)[w.heap.size + 1 + 1]? = _
  simp only [Array.getElem?_push, Array.size_push]
  rw [if_neg (by omega), if_pos trivial]

def sAgg (w : World) : Value := (.agg #[.string ⟨#[]⟩, .slice none 0 0, .int .i64 0, .slice (some ⟨w.heap.size, 0, none⟩) 3 3, .slice none 0 0, .slice none 0 0, .slice none 0 0, .slice none 0 0, .slice none 0 0, .slice none 0 0, .int .i64 0])
theorem sBasin (w : World) : BasinAt (sWorld w) (sAgg w) pl0 := by
  refine ⟨by decide, _, _, _, _, _, _, _, _, _, _, _, _, rfl, ?_, fun _ => ⟨w.heap.size, 0, rfl, by rw [sWorld_size]; omega, ?_⟩⟩
  · intro x hx
    simp only [pl0, List.mem_cons, List.not_mem_nil, or_false] at hx
    rcases hx with rfl | rfl | rfl <;> (simp only [In64]; omega)
  · intro k hk
    have hk3 : k = 0 ∨ k = 1 ∨ k = 2 := by simp only [pl0, List.length_cons, List.length_nil] at hk; omega
    rcases hk3 with rfl | rfl | rfl <;> exact ⟨by rw [cell_of_row _ _ _ _ _ _ (sWorld_0 w)]; rfl, by rw [cell_of_row _ _ _ _ _ _ (sWorld_0 w)]; rfl⟩
theorem sRights (w : World) : RightsAt (sWorld w) (.slice (some ⟨w.heap.size + 1 + 1, 0, none⟩) 3 3) rs0 := by
  refine ⟨_, _, rfl, by decide, ?_, fun _ => ⟨w.heap.size + 1 + 1, 0, rfl, by rw [sWorld_size]; omega, ?_⟩⟩
  · intro x hx
    simp only [rs0, List.mem_cons, List.not_mem_nil, or_false] at hx
    rcases hx with rfl | rfl | rfl <;> (simp only [Rt.in64, In64]; omega)
  · intro k hk j u hu
    have hk3 : k = 0 ∨ k = 1 ∨ k = 2 := by simp only [rs0, List.length_cons, List.length_nil] at hk; omega
    have hj : j < 9 := (List.getElem?_eq_some_iff.1 hu).1
    rw [cell_of_row _ _ _ _ _ _ (sWorld_2 w), ← hu]
    have hj9 : j = 0 ∨ j = 1 ∨ j = 2 ∨ j = 3 ∨ j = 4 ∨ j = 5 ∨ j = 6 ∨ j = 7 ∨ j = 8 := by omega
    rcases hk3 with rfl | rfl | rfl <;> rcases hj9 with rfl | rfl | rfl | rfl | rfl | rfl | rfl | rfl | rfl <;> rfl
theorem sSupply (w : World) : IntsAt (sWorld w) (.slice (some ⟨w.heap.size + 1 + 1 + 1, 0, none⟩) 3 3) [10, 20, 5] := by
  have h := IntsAt_lit (((w.alloc (.cells #[.string ⟨#[]⟩, .int .i64 0, .int .i64 0, .int .i64 0, .slice none 0 0, .slice none 0 0, .int .i64 0, .int .i64 0, .int .i64 2, .int .i64 0, .int .i64 0, .slice none 0 0, .string ⟨#[]⟩, .int .i64 0, .int .i64 0, .int .i64 0, .slice none 0 0, .slice none 0 0, .int .i64 0, .int .i64 0, .int .i64 2, .int .i64 0, .int .i64 0, .slice none 0 0, .string ⟨#[]⟩, .int .i64 0, .int .i64 0, .int .i64 0, .slice none 0 0, .slice none 0 0, .int .i64 0, .int .i64 0, .int .i64 (-1), .int .i64 0, .int .i64 0, .slice none 0 0] 58)).alloc (.cells (sBox w) 31)).alloc (.cells #[.int .i64 1, .int .i64 0, .int .i64 0, .int .i64 2, .int .i64 30, .int .i64 0, .int .i64 0, .int .i64 0, .int .i64 0, .int .i64 2, .int .i64 0, .int .i64 0, .int .i64 0, .int .i64 8, .int .i64 0, .int .i64 0, .int .i64 500, .int .i64 1, .int .i64 3, .int .i64 0, .int .i64 0, .int .i64 1, .int .i64 8, .int .i64 0, .int .i64 0, .int .i64 0, .int .i64 0] 45)) [10, 20, 5] (by intro x hx; simp at hx; rcases hx with rfl | rfl | rfl <;> (simp only [In64]; omega)) (by simp)
  simp at h
  exact h
theorem sDay : day pl0 rs0 [10, 20, 5] = ([(1, 30), (2, 5), (3, 0)], [5, 20, 0]) := by decide +kernel
theorem sReach0 : reach pl0 0 = [0, 2] := by decide +kernel
theorem sReach3 : reach pl0 3 = [] := by decide +kernel
theorem sBack : backFrom pl0 rs0 [(2, 5)] = [0, 2, 0] := by decide +kernel

theorem h520 : ∀ x ∈ [(5 : Int), 20, 0], In64 x := by intro x hx; simp at hx; rcases hx with rfl | rfl | rfl <;> (simp only [In64]; omega)
theorem h020 : ∀ x ∈ [(0 : Int), 2, 0], In64 x := by
  intro x hx
  simp only [List.mem_cons, List.not_mem_nil, or_false] at hx
  rcases hx with rfl | rfl | rfl <;> (simp only [In64]; omega)
theorem h02 : ∀ x ∈ [(0 : Int), 2], In64 x := by intro x hx; simp at hx; rcases hx with rfl | rfl <;> (simp only [In64]; omega)

theorem lit520 (w : World) : IntsAt (w.alloc (.cells #[.int .i64 5, .int .i64 20, .int .i64 0] 3)) (.slice (some ⟨w.heap.size, 0, none⟩) 3 3) [5, 20, 0] := IntsAt_lit w [5, 20, 0] h520 (by simp)
theorem lit020 (w : World) : IntsAt (w.alloc (.cells #[.int .i64 0, .int .i64 2, .int .i64 0] 3)) (.slice (some ⟨w.heap.size, 0, none⟩) 3 3) [0, 2, 0] := IntsAt_lit w [0, 2, 0] h020 (by simp)
theorem lit02 (w : World) : IntsAt (w.alloc (.cells #[.int .i64 0, .int .i64 2] 3)) (.slice (some ⟨w.heap.size, 0, none⟩) 2 2) [0, 2] := IntsAt_lit w [0, 2] h02 (by simp)
set_option maxRecDepth 100000 in
set_option maxHeartbeats 4000000 in
theorem small_calls (w : World) : Calls Try.prog 8 #[] w fun e w' => e = .returned (.bool true) ∧ Below w.heap.size w w' := by
  go_enter Try.func8, Try.ntmps8
  go_wp2_with fail
  refine (Day_calls _ _ _ pl0 rs0 [10, 20, 5] (sWorld w) (sBasin w) (sRights w) (sSupply w) (by decide) (by decide)).mono ?_
  rintro e w1 ⟨r1, g, rfl, hG, hL, hgg, hB⟩
  rw [show pl0.length = 3 from rfl]
  rw [show pl0.length = 3 from rfl] at hL
  have hs1 := hB.size
  rw [sWorld_size] at hs1
  have hb0 := sWorld_below w
  have hsz0 := sWorld_size w
  rw [sDay] at hG hL
  have hbox : ∀ j, w1.cell? ⟨w.heap.size + 1, j, none⟩ = (sBox w)[j]? := fun j => by
    rw [hB.cell (p := ⟨w.heap.size + 1, j, none⟩) (by rw [sWorld_size]; simp), cell_of_row _ _ _ _ _ _ (sWorld_1 w)]
  have hbas1 : BasinAt w1 (sAgg w) pl0 := (sBasin w).below hB (Nat.le_refl _)
  have hrs1 : RightsAt w1 (.slice (some ⟨w.heap.size + 1 + 1, 0, none⟩) 3 3) rs0 := (sRights w).below hB (Nat.le_refl _)
  have hG1 : GrantsAt w1 r1 [(1, 30), (2, 5), (3, 0)] := GrantsAt.of_owned hG (by intro x hx; simp at hx; rcases hx with rfl | rfl | rfl <;> (simp only [In64]; omega)) (by simp)
  obtain ⟨bg, capg, rfl, hcapg, hbg, hgc2, hgc3⟩ : ∃ bg capg, r1 = .slice (some ⟨bg, 0, none⟩) 3 capg ∧ 3 ≤ capg ∧ bg < w1.heap.size ∧ w1.cell? ⟨bg, 2, none⟩ = some (.int .i64 2) ∧ w1.cell? ⟨bg, 3, none⟩ = some (.int .i64 5) := by
    rcases hG.2 with ⟨rfl, hn⟩ | ⟨g', cap, cur, rfl, hb, hgg', hnc, hcm, hcs, htake⟩
    · simp at hn
    · exact ⟨g', cap, rfl, hnc, (Array.getElem?_eq_some_iff.1 hgg').1, by rw [hG.cellAt 2 (by simp)]; rfl, by rw [hG.cellAt 3 (by simp)]; rfl⟩
  have hL1 : IntsAt w1 (.slice (some ⟨g, 0, none⟩) 3 3) [5, 20, 0] := IntsAt.of_owned (v := .slice (some ⟨g, 0, none⟩) 3 3) (l := [5, 20, 0]) hL (by intro x hx; simp at hx; rcases hx with rfl | rfl | rfl <;> (simp only [In64]; omega)) (by simp)
  have hb1 : Below w.heap.size w w1 := hb0.trans (hB.mono (by omega))
  simp only [sBox] at hbox
  have hGB : GrantsAt w1 (.slice (some ⟨bg, 2, none⟩) 1 (capg - 1)) [(2, 5)] := ⟨_, _, rfl, by simp, by intro x hx; simp at hx; subst hx; simp only [In64]; omega, fun _ => ⟨bg, 2, rfl, hbg, fun k hk => by
    obtain rfl : k = 0 := by simp at hk; omega
    exact ⟨hgc2, hgc3⟩⟩⟩
  have hne : ¬ capg = 1 := by omega
  have hcap2 : (2 : Int) ≤ (capg : Int) := by omega
  have hcap3 : 2 ≤ capg := by omega
  clear hG hL hB hb0 hsz0 hgg hgc2 hgc3
  have HhL1 := Lib.hid hL1
  clear hL1
  have Hhbas1 := Lib.hid hbas1
  clear hbas1
  have Hhrs1 := Lib.hid hrs1
  clear hrs1
  have HhGB := Lib.hid hGB
  clear hGB
  have HhG1 := Lib.hid hG1
  clear hG1
  go_wp2_with fail
  have hsame : ∀ wx, Below (w1.heap.size + 1) (w1.alloc (.cells (gcells [(1, 30), (2, 5), (3, 0)]).toArray 47)) wx → Calls Try.prog 17 #[.slice (some ⟨bg, 0, none⟩) 3 capg, .slice (some ⟨w1.heap.size, 0, none⟩) 3 3] wx fun e w' => e = .returned (.bool true) ∧ Below wx.heap.size wx w' := fun wx hx =>
    (Same_calls _ _ [(1, 30), (2, 5), (3, 0)] [(1, 30), (2, 5), (3, 0)] wx ((HhG1.out.below ((Below.refl _ _).alloc (Nat.le_refl _) _) (Nat.le_refl _)).below hx (by simp)) ((GrantsAt_lit w1 [(1, 30), (2, 5), (3, 0)] (by intro x hx; simp at hx; rcases hx with rfl | rfl | rfl <;> (simp only [In64]; omega)) (by simp) (by simp [gcells])).below hx (by simp))).mono fun e w' h => by simpa using h
  have hintl : ∀ wx, Below w1.heap.size w1 wx → IntsAt wx (.slice (some ⟨g, 0, none⟩) 3 3) [5, 20, 0] := fun wx hx => HhL1.out.below hx (Nat.le_refl _)
  have hc0 : ∀ wx, Below w1.heap.size w1 wx → Calls Try.prog 13 #[sAgg w, .int .i64 0] wx fun e w' => (∃ r, e = .returned r ∧ IntsAt w' r [0, 2]) ∧ Below wx.heap.size wx w' := fun wx hx =>
    (Reach_calls _ pl0 0 wx (Hhbas1.out.below hx (Nat.le_refl _)) (by simp only [In64]; omega) (by decide)).mono fun e w' ⟨r, he, hown, hb⟩ => ⟨⟨r, he, by
      rw [sReach0] at hown
      exact IntsAt.of_owned hown (by intro x hx; simp at hx; rcases hx with rfl | rfl <;> (simp only [In64]; omega)) (by simp)⟩, hb⟩
  have hc3 : ∀ wx, Below w1.heap.size w1 wx → Calls Try.prog 13 #[sAgg w, .int .i64 3] wx fun e w' => (∃ oa cap, e = .returned (.slice oa 0 cap)) ∧ Below wx.heap.size wx w' := fun wx hx =>
    (Reach_calls _ pl0 3 wx (Hhbas1.out.below hx (Nat.le_refl _)) (by simp only [In64]; omega) (by decide)).mono fun e w' ⟨r, he, hown, hb⟩ => ⟨by
      rw [sReach3] at hown
      obtain ⟨oa, cap, rfl⟩ := own_open hown
      exact ⟨oa, cap, he⟩, hb⟩
  have hcb : ∀ wx, Below w1.heap.size w1 wx → Calls Try.prog 15 #[sAgg w, .slice (some ⟨w.heap.size + 1 + 1, 0, none⟩) 3 3, .slice (some ⟨bg, 2, none⟩) 1 (capg - 1)] wx fun e w' => (∃ r, e = .returned r ∧ IntsAt w' r [0, 2, 0]) ∧ Below wx.heap.size wx w' := fun wx hx =>
    (Back_calls _ _ _ pl0 rs0 [(2, 5)] wx (Hhbas1.out.below hx (Nat.le_refl _)) (Hhrs1.out.below hx (Nat.le_refl _)) (HhGB.out.below hx (Nat.le_refl _)) (by decide) (by decide)).mono fun e w' ⟨he, hown, hb⟩ => ⟨⟨_, he, by
      rw [sBack] at hown
      exact IntsAt.of_owned (l := [0, 2, 0]) hown h020 (by simp)⟩, hb⟩
  unfold sAgg at hc0 hc3 hcb
  have Hhsame := Lib.hid hsame
  clear hsame
  have Hhintl := Lib.hid hintl
  clear hintl
  have Hhc0 := Lib.hid hc0
  clear hc0
  have Hhc3 := Lib.hid hc3
  clear hc3
  have Hhcb := Lib.hid hcb
  clear hcb
  go_region_held3 (fun w' => (∀ j, w'.cell? ⟨w.heap.size + 1, j, none⟩ = (#[.string ⟨#[]⟩, .slice none 0 0, .int .i64 0, .slice (some ⟨w.heap.size, 0, none⟩) 3 3, .slice none 0 0, .slice none 0 0, .slice none 0 0, .slice none 0 0, .slice none 0 0, .slice none 0 0, .int .i64 0] : Array Value)[j]?)) (first | exact fun j => (World.cell?_of_block ((show Below w1.heap.size w1 _ from (by ((repeat' (first | exact Below.refl _ _ | (refine Below.alloc ?_ ?_ _) | (refine Below.setCell ?_ ?_ _) | (refine Below.drew ?_) | (refine Below.trans ?_ (Below.mono (by assumption) ?_)))) <;> ((try simp only [World.size_alloc, World.size_setCell, World.size_drew] at *); omega)))).block (w.heap.size + 1) (by omega))).trans (hbox j)) (first | (go_at_call 17; refine (Hhsame.out _ (by ((repeat' (first | exact Below.refl _ _ | (refine Below.alloc ?_ ?_ _) | (refine Below.setCell ?_ ?_ _) | (refine Below.drew ?_) | (refine Below.trans ?_ (Below.mono (by assumption) ?_)))) <;> ((try simp only [World.size_alloc, World.size_setCell, World.size_drew] at *); omega)))).mono ?_; rintro e w2 ⟨rfl, hb2⟩; have hs2 := hb2.size; try simp only [World.size_drew, World.size_alloc] at hs2) | (go_at_call_of 12 (Value.slice (some ⟨g, 0, none⟩) 3 3); refine (SameInts_true _ _ [5, 20, 0] _ (Hhintl.out _ (by ((repeat' (first | exact Below.refl _ _ | (refine Below.alloc ?_ ?_ _) | (refine Below.setCell ?_ ?_ _) | (refine Below.drew ?_) | (refine Below.trans ?_ (Below.mono (by assumption) ?_)))) <;> ((try simp only [World.size_alloc, World.size_setCell, World.size_drew] at *); omega)))) (lit520 _)).mono ?_; rintro e w3 ⟨rfl, hb3⟩; have shb3 := hb3.size; try simp only [World.size_drew, World.size_alloc] at shb3) | (go_at_call_of 13 (Value.int .i64 3); refine (Hhc3.out _ (by ((repeat' (first | exact Below.refl _ _ | (refine Below.alloc ?_ ?_ _) | (refine Below.setCell ?_ ?_ _) | (refine Below.drew ?_) | (refine Below.trans ?_ (Below.mono (by assumption) ?_)))) <;> ((try simp only [World.size_alloc, World.size_setCell, World.size_drew] at *); omega)))).mono ?_; rintro e w6 ⟨⟨oa6, cap6, rfl⟩, hb6⟩; have shb6 := hb6.size; try simp only [World.size_drew, World.size_alloc] at shb6) | (go_at_call_of 12 ra; refine (SameInts_true _ _ [0, 2] _ (by first | (with_reducible exact hia) | (with_reducible exact hia.below ((Below.refl _ _).alloc (Nat.le_refl _) _) (Nat.le_refl _))) (by first | (with_reducible exact lit02 _) | (with_reducible exact (lit02 _).below hb4 (Nat.le_refl _)))).mono ?_; rintro e w5 ⟨rfl, hb5⟩; have shb5 := hb5.size; try simp only [World.size_drew, World.size_alloc] at shb5) | (go_at_call_of 13 (Value.int .i64 0); refine (Hhc0.out _ (by ((repeat' (first | exact Below.refl _ _ | (refine Below.alloc ?_ ?_ _) | (refine Below.setCell ?_ ?_ _) | (refine Below.drew ?_) | (refine Below.trans ?_ (Below.mono (by assumption) ?_)))) <;> ((try simp only [World.size_alloc, World.size_setCell, World.size_drew] at *); omega)))).mono ?_; rintro e w4 ⟨⟨ra, rfl, hia⟩, hb4⟩; have shb4 := hb4.size; try simp only [World.size_drew, World.size_alloc] at shb4) | (go_at_call 15; refine (Hhcb.out _ (by ((repeat' (first | exact Below.refl _ _ | (refine Below.alloc ?_ ?_ _) | (refine Below.setCell ?_ ?_ _) | (refine Below.drew ?_) | (refine Below.trans ?_ (Below.mono (by assumption) ?_)))) <;> ((try simp only [World.size_alloc, World.size_setCell, World.size_drew] at *); omega)))).mono ?_; rintro e w7 ⟨⟨rb, rfl, hib⟩, hb7⟩; have shb7 := hb7.size; try simp only [World.size_drew, World.size_alloc] at shb7) | (go_at_call_of 12 rb; refine (SameInts_true _ _ [0, 2, 0] _ (by first | (with_reducible exact hib) | (with_reducible exact hib.below ((Below.refl _ _).alloc (Nat.le_refl _) _) (Nat.le_refl _))) (by first | (with_reducible exact lit020 _) | (with_reducible exact (lit020 _).below hb7 (Nat.le_refl _)))).mono ?_; rintro e w8 ⟨rfl, hb8⟩; have shb8 := hb8.size; try simp only [World.size_drew, World.size_alloc] at shb8))
  all_goals
    go_wp2_with fail
    go_ret
    exact ⟨rfl, (by ((repeat' (first | exact Below.refl _ _ | (refine Below.alloc ?_ ?_ _) | (refine Below.setCell ?_ ?_ _) | (refine Below.drew ?_) | (refine Below.trans ?_ (Below.mono (by assumption) ?_)))) <;> ((try simp only [World.size_alloc, World.size_setCell, World.size_drew] at *); omega)))⟩
end Go.Proofs.Ytjikehjhmjfhfaa
