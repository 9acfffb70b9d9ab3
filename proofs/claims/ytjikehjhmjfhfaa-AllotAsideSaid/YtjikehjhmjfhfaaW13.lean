/- The walks of Back: the search. -/
import Derived.Test.YtjikehjhmjfhfaaW9
import Derived.Test.YtjikehjhmjfhfaaW12
namespace Go.Proofs.Ytjikehjhmjfhfaa
open Go.RowKit

theorem same_calls (r : Rt) (id : Int) (bg : Nat) (w : World) (hg : w.cell? ⟨bg, 0, none⟩ = some (.int .i64 id)) (hb : bg < w.heap.size) :
    Calls Try.prog 26 #[r.value, .pointer (some ⟨bg, 0, none⟩)] w fun e w' => e = .returned (.bool (r.id == id)) ∧ Below w.heap.size w w' := by
  unfold Rt.value
  have hg2 : ∀ o, (w.alloc o).cell? ⟨bg, 0, none⟩ = some (.int .i64 id) := fun o => by rw [← hg]; exact World.cell?_of_block (Below.heap_alloc _ _ _ hb)
  go_enter Try.func26, Try.ntmps26
  go_wp2
  go_ret
  exact ⟨rfl, (Below.refl _ _).alloc (Nat.le_refl _) _⟩

set_option maxHeartbeats 400000 in
theorem IndexFunc_calls (vr : Value) (rs : List Rt) (id : Int) (bg : Nat) (w : World) (hr : RightsAt w vr rs) (hg : w.cell? ⟨bg, 0, none⟩ = some (.int .i64 id)) (hb : bg < w.heap.size) :
    Calls Try.prog 25 #[vr, .func (.func 26) #[] #[.pointer (some ⟨bg, 0, none⟩)]] w fun e w' => e = .returned (.int .i64 (idx (find rs id))) ∧ Below w.heap.size w w' := by
  have hr0 := hr
  obtain ⟨oa, cap, rfl, hm, -, -⟩ := hr
  have Hhr0 := Lib.hid hr0
  clear hr0
  go_enter Try.func25, Try.ntmps25
  go_wp2_with fail
  go_loopw [8] (fun s8 wr => ∃ k : Nat, k ≤ rs.length ∧ s8 = .int .i64 k ∧ (∀ j (hj : j < k) (hj2 : j < rs.length), rs[j].id ≠ id) ∧ Below w.heap.size w wr) (fun s8 _ => rs.length - (intOf s8).toNat)
  case atStart => exact ⟨0, by omega, rfl, by omega, Below.refl _ _⟩
  case round =>
    obtain ⟨k, hk, rfl, hn, hB⟩ := hrel
    have Hhn := Lib.hid hn
    clear hn
    by_cases hlt : k < rs.length
    · obtain ⟨oa', cap', hv, _, _, hrc⟩ := Hhr0.out.below hB (Nat.le_refl _)
      obtain ⟨rfl, _, rfl⟩ := Value.slice.inj hv
      obtain ⟨b, off, rfl, _, hrc⟩ := hrc (by omega)
      obtain ⟨c0, c1, c2, c3, c4, c5, c6, c7, c8⟩ := right_cells (hrc k hlt)
      have hgr : wr.cell? ⟨bg, 0, none⟩ = some (.int .i64 id) := by rw [← hg]; exact hB.cell (p := ⟨bg, 0, none⟩) hb
      have hsz := hB.size
      clear hrc hv
      by_cases he : rs[k].id = id
      · have hf := find_some hlt (fun j hj => Hhn.out j hj (by omega)) he
        have he' : (rs[k].id == id) = true := by simp [he]
        have Hhf := Lib.hid hf
        clear hf
        have Hhe := Lib.hid he
        clear he
        go_wp2_with fail
        refine (same_calls rs[k] id bg wr hgr (by omega)).mono ?_
        rintro e w2 ⟨rfl, hB2⟩
        go_wp2_with fail
        go_ret
        exact ⟨ret_int (by rw [Hhf.out]; rfl), (by ((repeat' (first | exact Below.refl _ _ | (refine Below.alloc ?_ ?_ _) | (refine Below.setCell ?_ ?_ _) | (refine Below.drew ?_) | (refine Below.trans ?_ (Below.mono (by assumption) ?_)))) <;> ((try simp only [World.size_alloc, World.size_setCell, World.size_drew] at *); omega)))⟩
      · have hf : ∀ j (hj : j < k + 1) (hj2 : j < rs.length), rs[j].id ≠ id := by
          intro j hj hj2
          by_cases hjk : j < k
          · exact Hhn.out j hjk hj2
          · obtain rfl : j = k := by omega
            exact he
        have he' : (rs[k].id == id) = false := by simp [he]
        have Hhf := Lib.hid hf
        clear hf
        have Hhe := Lib.hid he
        clear he
        go_wp2_with fail
        refine (same_calls rs[k] id bg wr hgr (by omega)).mono ?_
        rintro e w2 ⟨rfl, hB2⟩
        go_wp2_with fail
        exact ⟨⟨k + 1, by omega, by go_num, Hhf.out, (by ((repeat' (first | exact Below.refl _ _ | (refine Below.alloc ?_ ?_ _) | (refine Below.setCell ?_ ?_ _) | (refine Below.drew ?_) | (refine Below.trans ?_ (Below.mono (by assumption) ?_)))) <;> ((try simp only [World.size_alloc, World.size_setCell, World.size_drew] at *); omega)))⟩, by simp [intOf]; omega⟩
    · have hf := find_none (rs := rs) (id := id) (fun j hj => Hhn.out j (by omega) hj)
      have Hhf := Lib.hid hf
      clear hf
      go_wp2_with fail
      go_ret
      exact ⟨ret_int (by rw [Hhf.out]; rfl), hB⟩
end Go.Proofs.Ytjikehjhmjfhfaa
