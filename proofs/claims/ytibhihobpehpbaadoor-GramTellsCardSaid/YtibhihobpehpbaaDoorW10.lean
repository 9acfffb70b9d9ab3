/- The walk of the reference's reader's Text. -/
import Derived.Test.YtibhihobpehpbaaDoorW9
set_option linter.unusedSimpArgs false
set_option linter.unusedVariables false
namespace Go.Proofs.YtibhihobpehpbaaDoor
open Go.RowKit

theorem rTextGo_short (bad : Bool) {s : List UInt8} (acc : List UInt8) (h : s.length ≤ 1) : rTextGo bad s acc = ([], [], true) := by
  rcases s with _ | ⟨x, _ | ⟨y, t⟩⟩
  · simp [rTextGo]
  · simp [rTextGo]
  · simp at h

set_option maxHeartbeats 1000000 in
theorem Text_readsR (b : Nat) (s : List UInt8) (bad : Bool) (w : World) (h : QAt w b s bad) (hs : s.length ≤ 100000000) :
    Calls Tryd.prog 32 #[.pointer (some ⟨b, 0, none⟩)] w fun e w' => e = .returned (.string ⟨(rText s bad).1.toArray⟩) ∧ QAt w' b (rText s bad).2.1 (rText s bad).2.2 ∧ w.grownBy w' (some b) := by
  have hlt := h.cells.2.2.2.2
  have Hh := Lib.hid h
  clear h
  go_enter Tryd.func32, Tryd.ntmps32
  go_wp2_with fail
  go_loopw [3, 4] (fun s3 s4 wr => ∃ k acc, s4 = .int .i64 (k : Nat) ∧ k ≤ s.length ∧ rTextGo bad (s.drop k) acc = rText s bad ∧ acc.length ≤ k ∧ wr.ownsRow w.heap.size 5 1 s3 acc.length (Lib.byteCells acc) ∧ Below w.heap.size w wr) (fun _ s4 _ => s.length - (intOf s4).toNat)
  case atStart => exact ⟨0, [], rfl, by omega, rfl, by simp, World.ownsRow_nil _ _ _ _, Below.refl _ _⟩
  case round =>
    obtain ⟨k, acc, rfl, hk, hgo, hal, hown, hB⟩ := hrel
    have hsz := hB.size
    have hrr := Hh.out.below hB hlt
    obtain ⟨c0, c1, f0, f1, hlt1⟩ := hrr.cells
    have Hhgo := Lib.hid hgo
    clear hgo
    have Hhown := Lib.hid hown
    clear hown
    have Hhrr := Lib.hid hrr
    clear hrr
    by_cases hlt2 : k + 1 < s.length
    · have hd := drop2 hlt2
      have hg0 : ∀ hx, (ByteArray.mk s.toArray)[k]'hx = s[k] := fun _ => rfl
      have hg1 : ∀ hx, (ByteArray.mk s.toArray)[k + 1]'hx = s[k + 1] := fun _ => rfl
      have hd1 := drop1 (s := s) (k := k) (by omega)
      have Hhd := Lib.hid hd
      clear hd
      have Hhg0 := Lib.hid hg0
      clear hg0
      have Hhg1 := Lib.hid hg1
      clear hg1
      have Hhd1 := Lib.hid hd1
      clear hd1
      by_cases hx : s[k] = 0
      · by_cases hy : s[k + 1] = 1
        · have hx' : ((s[k].toNat : Int) != 0) = false := by rw [hx]; rfl
          have hy' : ((s[k + 1].toNat : Int) == 1) = true := by rw [hy]; rfl
          have hstr := fun (v : Value) => own_string (ownsRow_grown Hhown.out (grownBy_setCell (grownBy_refl wr (some b)) (a := ⟨b, 0, none⟩) rfl v) hlt)
          go_wp2_with fail
          go_ret
          have := Hhgo.out
          rw [Hhd.out, hx, hy, rTextGo_stop] at this
          rw [← this]
          rw [drop_extract]
          exact ⟨rfl, Hhrr.out.set0 _, grownBy_setCell (below_grown hB (Nat.le_refl _) _) rfl _⟩
        · by_cases hy2 : s[k + 1] = 255
          · have hx' : ((s[k].toNat : Int) != 0) = false := by rw [hx]; rfl
            have hy' : ((s[k + 1].toNat : Int) == 1) = false := by rw [hy2]; rfl
            have hy'' : ((s[k + 1].toNat : Int) != 255) = false := by rw [hy2]; rfl
            have hstep : rTextGo bad (s.drop (k + 2)) (acc ++ [0]) = rText s bad := by rw [← Hhgo.out, Hhd.out, hx, hy2, rTextGo_esc]
            have Hhstep := Lib.hid hstep
            clear hstep
            go_wp2_with (at_builtin; refine append_byte rfl _ _ rfl w.heap.size u3 acc.length _ rfl (Hhown.out.alloc _) wr.heap.size 0 rfl (by simp) (by omega) (by simp; omega) ?_)
            intro v5 w5 hown5 hg5 hB5
            have hsz5 := hg5.size
            have Hhown5 := Lib.hid hown5
            clear hown5
            go_wp2_with fail
            refine ⟨⟨k + 2, acc ++ [0], by go_num, by omega, Hhstep.out, by simp; omega, ?_, (by ((repeat' (first | exact Below.refl _ _ | (refine Below.alloc ?_ ?_ _) | (refine Below.setCell ?_ ?_ _) | (refine Below.drew ?_) | (refine Below.trans ?_ (Below.mono (by assumption) ?_)))) <;> ((try simp only [World.size_alloc, World.size_setCell, World.size_drew] at *); omega)))⟩, by simp [intOf]; omega⟩
            have := Hhown5.out
            rw [Lib.byteCells_append]
            simpa [Lib.byteCells] using this
          · have hx' : ((s[k].toNat : Int) != 0) = false := by rw [hx]; rfl
            obtain ⟨n1, n2⟩ := u8_ne hy2
            obtain ⟨n3, n4⟩ := u8_ne hy
            have e255 : ((255 : UInt8).toNat : Int) = 255 := rfl
            have e1 : ((1 : UInt8).toNat : Int) = 1 := rfl
            rw [e255] at n1 n2
            rw [e1] at n3 n4
            have hstep : rText s bad = ([], [], true) := by rw [← Hhgo.out, Hhd.out, hx, rTextGo_fail bad _ _ _ hy2 hy]
            have Hhstep := Lib.hid hstep
            clear hstep
            clear e255 e1
            go_wp2_with fail
            refine (failR_calls b _ _ wr Hhrr.out).mono ?_
            rintro e w3 ⟨rfl, hr3, hg3⟩
            go_wp2_with fail
            go_ret
            rw [Hhstep.out]
            exact ⟨rfl, hr3, grownBy_trans (below_grown hB (Nat.le_refl _) _) hg3⟩
      · obtain ⟨n1, n2⟩ := u8_ne hx
        have e0 : ((0 : UInt8).toNat : Int) = 0 := rfl
        rw [e0] at n1 n2
        have hstep : rTextGo bad (s.drop (k + 1)) (acc ++ [s[k]]) = rText s bad := by rw [← Hhgo.out, Hhd1.out, rTextGo_other bad _ _ _ hx]
        clear e0
        have Hhstep := Lib.hid hstep
        clear hstep
        go_wp2_with (at_builtin; refine append_byte rfl _ _ rfl w.heap.size u3 acc.length _ rfl (Hhown.out.alloc _) wr.heap.size (s[k].toNat : Int) rfl (by simp) (by omega) (by simp; omega) ?_)
        intro v5 w5 hown5 hg5 hB5
        have hsz5 := hg5.size
        have Hhown5 := Lib.hid hown5
        clear hown5
        go_wp2_with fail
        refine ⟨⟨k + 1, acc ++ [s[k]], by go_num, by omega, Hhstep.out, by simp; omega, ?_, (by ((repeat' (first | exact Below.refl _ _ | (refine Below.alloc ?_ ?_ _) | (refine Below.setCell ?_ ?_ _) | (refine Below.drew ?_) | (refine Below.trans ?_ (Below.mono (by assumption) ?_)))) <;> ((try simp only [World.size_alloc, World.size_setCell, World.size_drew] at *); omega)))⟩, by simp [intOf]; omega⟩
        have := Hhown5.out
        rw [Lib.byteCells_append]
        simpa [Lib.byteCells] using this
    · have hsh := rTextGo_short bad (s := s.drop k) acc (by simp; omega)
      have hlt3 : ¬ (k : Int) + 1 < s.length := by omega
      have Hhsh := Lib.hid hsh
      clear hsh
      go_wp2_with fail
      refine (failR_calls b _ _ wr Hhrr.out).mono ?_
      rintro e w3 ⟨rfl, hr3, hg3⟩
      go_wp2_with fail
      go_ret
      have := Hhgo.out
      rw [Hhsh.out] at this
      rw [← this]
      exact ⟨rfl, hr3, grownBy_trans (below_grown hB (Nat.le_refl _) _) hg3⟩
end Go.Proofs.YtibhihobpehpbaaDoor
