/- The walks of the readers' Text. -/
import Derived.Test.YtibhihobpehpbaaDoorW8
set_option linter.unusedSimpArgs false
set_option linter.unusedVariables false
namespace Go.Proofs.YtibhihobpehpbaaDoor
open Go.RowKit

theorem builderAt_grown {w w' : World} {B : Nat} {b c : Nat} {p : Value} {bs : List Value} (h : Lib.BuilderAt 65 5 B b p bs w) (hg : w.grownBy w' (some c)) (hc : c < B) : Lib.BuilderAt 65 5 B b p bs w' := by
  have hlt := h.lt
  obtain ⟨h1, v, h2, h3, h4⟩ := h
  exact ⟨h1, v, by rw [hg.block b (by omega) (by intro e; simp at e; omega)]; exact h2, ownsRow_grown h3 hg hc, h4⟩
theorem isBuilder_grown {w w' : World} {B : Nat} {b c : Nat} {bs : List Value} (h : Lib.IsBuilder 65 5 B b bs w) (hg : w.grownBy w' (some c)) (hc : c < B) : Lib.IsBuilder 65 5 B b bs w' := by
  rcases h with h | h
  · exact .inl (builderAt_grown h hg hc)
  · exact .inr (builderAt_grown h hg hc)

/-- reading a string: what is left, what has been read -/
def rTextGo (bad : Bool) : List UInt8 → List UInt8 → List UInt8 × List UInt8 × Bool
  | [], _ => ([], [], true)
  | [_], _ => ([], [], true)
  | x :: y :: t, acc => if x = 0 then (if y = 255 then rTextGo bad t (acc ++ [0]) else if y = 1 then (acc, t, bad) else ([], [], true)) else rTextGo bad (y :: t) (acc ++ [x])
def rText (s : List UInt8) (bad : Bool) : List UInt8 × List UInt8 × Bool := rTextGo bad s []
theorem rTextGo_nil (bad : Bool) (acc : List UInt8) : rTextGo bad [] acc = ([], [], true) := by simp [rTextGo]
theorem rTextGo_one (bad : Bool) (x : UInt8) (acc : List UInt8) : rTextGo bad [x] acc = ([], [], true) := by simp [rTextGo]
theorem rTextGo_other (bad : Bool) (x : UInt8) (s acc : List UInt8) (hx : x ≠ 0) : rTextGo bad (x :: s) acc = rTextGo bad s (acc ++ [x]) := by
  cases s with
  | nil => simp [rTextGo]
  | cons y t => simp [rTextGo, hx]
theorem rTextGo_esc (bad : Bool) (t acc : List UInt8) : rTextGo bad (0 :: 255 :: t) acc = rTextGo bad t (acc ++ [0]) := by simp [rTextGo]
theorem rTextGo_stop (bad : Bool) (t acc : List UInt8) : rTextGo bad (0 :: 1 :: t) acc = (acc, t, bad) := by simp [rTextGo]
theorem rTextGo_fail (bad : Bool) (y : UInt8) (t acc : List UInt8) (h1 : y ≠ 255) (h2 : y ≠ 1) : rTextGo bad (0 :: y :: t) acc = ([], [], true) := by simp [rTextGo, h1, h2]

def leftOf (w : World) (b : Nat) : Nat := match w.cell? ⟨b, 0, none⟩ with
  | some (.string s) => s.size
  | _ => 0
theorem ReaderAt.left {w : World} {b : Nat} {s : List UInt8} {bad : Bool} (h : ReaderAt w b s bad) : leftOf w b = s.length := by
  unfold leftOf
  rw [h.cells.1]
  simp [ByteArray.size]
set_option maxHeartbeats 1000000 in
theorem Text_reads (b : Nat) (s : List UInt8) (bad : Bool) (w : World) (h : ReaderAt w b s bad) (hs : s.length ≤ 100000000) :
    Calls Tryd.prog 27 #[.pointer (some ⟨b, 0, none⟩)] w fun e w' => e = .returned (.string ⟨(rText s bad).1.toArray⟩) ∧ ReaderAt w' b (rText s bad).2.1 (rText s bad).2.2 ∧ w.grownBy w' (some b) := by
  have hlt := h.cells.2.2.2.2
  have Hh := Lib.hid h
  clear h
  go_enter Tryd.func27, Tryd.ntmps27
  go_wp2_with fail
  go_loopw [4, 5, 6, 7] (fun _ _ _ _ wr => ∃ s' acc, rTextGo bad s' acc = rText s bad ∧ s'.length + acc.length ≤ s.length ∧ ReaderAt wr b s' bad ∧ Lib.IsBuilder 65 5 w.heap.size w.heap.size (Lib.byteCells acc) wr ∧ w.grownBy wr (some b)) (fun _ _ _ _ wr => leftOf wr b)
  case atStart => exact ⟨s, [], rfl, by simp, by exact Hh.out.below (B := w.heap.size) (by ((repeat' (first | exact Below.refl _ _ | (refine Below.alloc ?_ ?_ _) | (refine Below.setCell ?_ ?_ _) | (refine Below.drew ?_) | (refine Below.trans ?_ (Below.mono (by assumption) ?_)))) <;> ((try simp only [World.size_alloc, World.size_setCell, World.size_drew] at *); omega))) hlt, builder_new w, by exact below_grown (K := w.heap.size) (by ((repeat' (first | exact Below.refl _ _ | (refine Below.alloc ?_ ?_ _) | (refine Below.setCell ?_ ?_ _) | (refine Below.drew ?_) | (refine Below.trans ?_ (Below.mono (by assumption) ?_)))) <;> ((try simp only [World.size_alloc, World.size_setCell, World.size_drew] at *); omega))) (Nat.le_refl _) _⟩
  case round =>
    obtain ⟨s', acc, hgo, hlen, hr, hbd, hg⟩ := hrel
    have hsz := hg.size
    have hleft := hr.left
    have Hhgo := Lib.hid hgo
    clear hgo
    have Hhr := Lib.hid hr
    clear hr
    have Hhbd := Lib.hid hbd
    clear hbd
    have Hhg := Lib.hid hg
    clear hg
    have Hhleft := Lib.hid hleft
    clear hleft
    have hal : (Lib.byteCells acc).length = acc.length := Lib.byteCells_length _
    go_wp2_with fail
    refine (byte_calls b s' bad wr Hhr.out).mono ?_
    rintro e w1 ⟨hn, hc, hg1⟩
    have hsz1 := hg1.size
    rcases s' with _ | ⟨x, s1⟩
    · obtain ⟨rfl, hr1⟩ := hn rfl
      clear hn hc
      go_wp2_with fail
      go_ret
      have := Hhgo.out
      rw [rTextGo_nil] at this
      rw [← this]
      exact ⟨rfl, hr1, grownBy_trans Hhg.out hg1⟩
    · obtain ⟨rfl, hr1⟩ := hc x s1 rfl
      clear hn hc
      have hbd1 := isBuilder_grown Hhbd.out hg1 hlt
      have hleft1 := hr1.left
      simp only [List.length_cons] at hlen
      have Hhr1 := Lib.hid hr1
      clear hr1
      have Hhbd1 := Lib.hid hbd1
      clear hbd1
      have Hhleft1 := Lib.hid hleft1
      clear hleft1
      by_cases hx : x = 0
      · subst hx
        go_wp2_with fail
        refine (byte_calls b s1 bad w1 Hhr1.out).mono ?_
        rintro e w2 ⟨hn, hc, hg2⟩
        have hsz2 := hg2.size
        rcases s1 with _ | ⟨y, t⟩
        · obtain ⟨rfl, hr2⟩ := hn rfl
          clear hn hc
          have Hhr2 := Lib.hid hr2
          clear hr2
          go_wp2_with fail
          refine (fail_calls b _ _ w2 Hhr2.out).mono ?_
          rintro e w3 ⟨rfl, hr3, hg3⟩
          go_wp2_with fail
          go_ret
          have := Hhgo.out
          rw [rTextGo_one] at this
          rw [← this]
          exact ⟨rfl, hr3, grownBy_trans Hhg.out (grownBy_trans hg1 (grownBy_trans hg2 hg3))⟩
        · obtain ⟨rfl, hr2⟩ := hc y t rfl
          clear hn hc
          have hbd2 := isBuilder_grown Hhbd1.out hg2 hlt
          have hleft2 := hr2.left
          simp only [List.length_cons] at hlen
          have Hhr2 := Lib.hid hr2
          clear hr2
          have Hhbd2 := Lib.hid hbd2
          clear hbd2
          have Hhleft2 := Lib.hid hleft2
          clear hleft2
          by_cases hy : y = 255
          · subst hy
            go_wp2_with fail
            refine (Tryd.Builder_WriteByte w.heap.size w.heap.size (Lib.byteCells acc) 0 w2 Hhbd2.out (by omega) (by omega)).mono ?_
            rintro e w3 ⟨rfl, hbd3, hB3⟩
            have hbd4 := builder_byte (c := 0) hbd3
            have hr3 := Hhr2.out.below hB3 hlt
            have Hhbd3 := Lib.hid hbd3
            clear hbd3
            have Hhbd4 := Lib.hid hbd4
            clear hbd4
            go_wp2_with fail
            refine ⟨⟨t, acc ++ [0], by rw [← rTextGo_esc]; exact Hhgo.out, by simp; omega, hr3, .inr Hhbd4.out, grownBy_below_trans (grownBy_trans Hhg.out (grownBy_trans hg1 hg2)) hB3 (Nat.le_refl _)⟩, ?_⟩
            rw [hr3.left, Hhleft.out]; simp; omega
          · by_cases hy1 : y = 1
            · subst hy1
              go_wp2_with fail
              refine (Tryd.Builder_String_any w.heap.size w.heap.size _ w2 Hhbd2.out (by omega)).mono ?_
              rintro e w3 ⟨rfl, hB3⟩
              have hr3 := Hhr2.out.below hB3 hlt
              go_wp2_with fail
              go_ret
              have := Hhgo.out
              rw [rTextGo_stop] at this
              rw [← this]
              exact ⟨rfl, hr3, grownBy_below_trans (grownBy_trans Hhg.out (grownBy_trans hg1 hg2)) hB3 (Nat.le_refl _)⟩
            · have hgf := rTextGo_fail bad y t acc hy hy1
              obtain ⟨n1, n2⟩ := u8_ne hy
              obtain ⟨n3, n4⟩ := u8_ne hy1
              have e255 : ((255 : UInt8).toNat : Int) = 255 := rfl
              have e1 : ((1 : UInt8).toNat : Int) = 1 := rfl
              rw [e255] at n1 n2
              rw [e1] at n3 n4
              have Hhgf := Lib.hid hgf
              clear hgf
              clear e255 e1
              go_wp2_with fail
              refine (fail_calls b _ _ w2 Hhr2.out).mono ?_
              rintro e w3 ⟨rfl, hr3, hg3⟩
              go_wp2_with fail
              go_ret
              have := Hhgo.out
              rw [Hhgf.out] at this
              rw [← this]
              exact ⟨rfl, hr3, grownBy_trans Hhg.out (grownBy_trans hg1 (grownBy_trans hg2 hg3))⟩
      · have hgo2 := rTextGo_other bad x s1 acc hx
        obtain ⟨n1, n2⟩ := u8_ne hx
        have e0 : ((0 : UInt8).toNat : Int) = 0 := rfl
        rw [e0] at n1 n2
        clear e0
        have Hhgo2 := Lib.hid hgo2
        clear hgo2
        go_wp2_with fail
        refine (Tryd.Builder_WriteByte w.heap.size w.heap.size (Lib.byteCells acc) (x.toNat : Int) w1 Hhbd1.out (by omega) (by omega)).mono ?_
        rintro e w3 ⟨rfl, hbd3, hB3⟩
        have hbd4 := builder_byte (c := x) hbd3
        have hr3 := Hhr1.out.below hB3 hlt
        have Hhbd3 := Lib.hid hbd3
        clear hbd3
        have Hhbd4 := Lib.hid hbd4
        clear hbd4
        go_wp2_with fail
        refine ⟨⟨s1, acc ++ [x], by rw [← Hhgo2.out]; exact Hhgo.out, by simp; omega, hr3, .inr Hhbd4.out, grownBy_below_trans (grownBy_trans Hhg.out hg1) hB3 (Nat.le_refl _)⟩, ?_⟩
        rw [hr3.left, Hhleft.out]; simp
end Go.Proofs.YtibhihobpehpbaaDoor
