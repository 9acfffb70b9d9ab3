/- The walks of Num, and of the reference's digits, Int, Num. -/
import Derived.Test.YtjbpjmdnmnbonaaDoorW1
import Derived.Lib.ItoaNum
set_option linter.unusedSimpArgs false
set_option linter.unusedVariables false
namespace Go.Proofs.YtjbpjmdnmnbonaaDoor
open Go.RowKit

def encNum (n : Int) : List UInt8 := if n < 0 then [] else encInt n

/-- the bytes of a number without leading zeros -/
def dgs (m : Nat) : List UInt8 := digs false m (sz m) (sz m)

theorem sz_bounds (m : Nat) (h : m ≤ 18446744073709551615) : m < 256 ^ sz m ∧ ∀ j, j < sz m → 256 ^ j ≤ m := by
  have e : ∀ k, (256 : Nat) ^ k = 2 ^ (8 * k) := fun k => by rw [Nat.pow_mul]
  by_cases h0 : m = 0
  · subst h0
    have : sz 0 = 0 := by decide
    rw [this]
    simp
  · obtain ⟨h1, h2, h3⟩ := Lib.bitLenAux_bounds 64 m (by omega) h0
    have hb : Lib.bitLenAux 64 m = Lib.bitLen m := rfl
    rw [hb] at h1 h2 h3
    refine ⟨Nat.lt_of_lt_of_le h3 (by rw [e]; exact Nat.pow_le_pow_right (by omega) (by unfold sz; omega)), fun j hj => Nat.le_trans (by rw [e]; exact Nat.pow_le_pow_right (by omega) (by unfold sz at hj; omega)) h2⟩

theorem digs_cons (neg : Bool) (m j : Nat) : digs neg m (j + 1) (j + 1) = dig neg m j :: digs neg m j j := by
  simp only [digs, List.range_succ_eq_map, List.map_cons, List.map_map]
  congr 1
  apply List.map_congr_left
  intro t _
  simp only [Function.comp]
  congr 1
  omega

theorem refDigits_calls (m : Nat) (w : World) (h : m ≤ 18446744073709551615) :
    Calls Tryd.prog 58 #[.int .u64 m] w fun e w' => ∃ v, e = .returned v ∧ w'.ownsRow w.heap.size 5 1 v (sz m) (Lib.byteCells (dgs m)) ∧ Below w.heap.size w w' := by
  have hs8 := sz_le m h
  obtain ⟨hb1, hb2⟩ := sz_bounds m h
  have Hhb1 := Lib.hid hb1
  clear hb1
  have Hhb2 := Lib.hid hb2
  clear hb2
  go_enter Tryd.func58, Tryd.ntmps58
  go_wp2_with fail
  go_loopw [0, 3] (fun s0 s3 wr => ∃ j : Nat, j ≤ sz m ∧ s0 = .int .u64 ((m / 256 ^ j : Nat) : Int) ∧ wr.ownsRow w.heap.size 5 1 s3 j (Lib.byteCells (digs false m j j)) ∧ Below w.heap.size w wr) (fun s0 _ _ => (intOf s0).toNat)
  case atStart => exact ⟨0, by omega, by simp, World.ownsRow_nil _ _ _ _, Below.refl _ _⟩
  case round =>
    obtain ⟨j, hj, rfl, hown, hB⟩ := hrel
    have hsz := hB.size
    have Hhown := Lib.hid hown
    clear hown
    have hle : m / 256 ^ j ≤ m := Nat.div_le_self _ _
    have hq : m / 256 ^ (j + 1) = m / 256 ^ j / 256 := by rw [Nat.pow_succ, Nat.div_div_eq_div_mul]
    have hd : ((dig false m j).toNat : Int) = ((m / 256 ^ j % 256 : Nat) : Int) := by simp [dig]
    by_cases hjk : j < sz m
    · have hpos : 0 < m / 256 ^ j := Nat.div_pos (Hhb2.out j hjk) (Nat.pow_pos (by omega))
      generalize m / 256 ^ j = q at *
      have Hhd := Lib.hid hd
      clear hd
      have Hhq := Lib.hid hq
      clear hq
      go_wp2_with (at_builtin; refine append_bytes rfl _ _ rfl w.heap.size _ 1 _ rfl (World.ownsRow_lit wr #[.int .u8 ((q % 256 : Nat) : Int)] 1 (by omega) (by decide) rfl) w.heap.size u3 j _ rfl (Hhown.out.alloc _) (by omega) (by simp; omega) ?_)
      intro v5 w5 hown5 hg5 hB5
      have Hhown5 := Lib.hid hown5
      clear hown5
      go_wp2_with fail
      refine ⟨⟨j + 1, by omega, by rw [Hhq.out]; simp, ?_, (by ((repeat' (first | exact Below.refl _ _ | (refine Below.alloc ?_ ?_ _) | (refine Below.setCell ?_ ?_ _) | (refine Below.drew ?_) | (refine Below.trans ?_ (Below.mono (by assumption) ?_)))) <;> ((try simp only [World.size_alloc, World.size_setCell, World.size_drew] at *); omega)))⟩, by simp [intOf]; omega⟩
      rw [digs_cons, Nat.add_comm j 1]
      have h1 := Hhown5.out
      have h2 := Hhd.out
      simp only [Lib.byteCells, List.map_cons] at h1 ⊢
      rw [h2]
      simpa using h1
    · have hje : j = sz m := by omega
      subst hje
      have hz : m / 256 ^ sz m = 0 := Nat.div_eq_of_lt Hhb1.out
      rw [hz]
      go_wp2_with fail
      go_ret
      exact ⟨_, rfl, Hhown.out, (by ((repeat' (first | exact Below.refl _ _ | (refine Below.alloc ?_ ?_ _) | (refine Below.setCell ?_ ?_ _) | (refine Below.drew ?_) | (refine Below.trans ?_ (Below.mono (by assumption) ?_)))) <;> ((try simp only [World.size_alloc, World.size_setCell, World.size_drew] at *); omega)))⟩
theorem dig_comp (m t : Nat) : (255 : Int) - ((dig false m t).toNat : Int) = ((dig true m t).toNat : Int) ∧ (dig false m t).toNat < 256 := by
  simp only [dig, if_true]
  have hl : m / 256 ^ t % 256 < 256 := Nat.mod_lt _ (by omega)
  generalize m / 256 ^ t % 256 = x at *
  have hx : ∀ x : Fin 256, (255 : Int) - ((UInt8.ofNat x.val).toNat : Int) = ((UInt8.ofNat (255 - x.val)).toNat : Int) ∧ (UInt8.ofNat x.val).toNat < 256 := by decide +kernel
  simpa using hx ⟨x, hl⟩
theorem refInt_calls (n : Int) (w : World) (h : In64 n) :
    Calls Tryd.prog 48 #[.int .i64 n] w fun e w' => e = .returned (.string ⟨(encInt n).toArray⟩) ∧ Below w.heap.size w w' := by
  have hm64 := mag_le h
  have hs := sz_le (mag n) (by omega)
  go_enter Tryd.func48, Tryd.ntmps48
  obtain ⟨hlo, hhi⟩ := h
  by_cases hn : n < 0
  · have e1 : IntKind.u64.wrap (-(n + 1)) = (mag n : Int) := by
      unfold mag; rw [if_pos hn]
      simp [IntKind.wrap, IntKind.signed, IntKind.bits]; omega
    go_wp2_with fail
    refine (refDigits_calls (mag n) w (by omega)).mono ?_
    rintro e w1 ⟨v, rfl, hown, hB⟩
    have hsz := hB.size
    obtain ⟨oa, cap, rfl⟩ := own_open hown
    have Hhown := Lib.hid hown
    clear hown
    go_wp2_with fail
    go_loopw [5, 6] (fun s5 s6 wr => ∃ j : Nat, j ≤ sz (mag n) ∧ s6 = .int .i64 j ∧ wr.ownsRow w1.heap.size 5 1 s5 (1 + j) (.int .u8 (127 - (sz (mag n) : Int)) :: Lib.byteCells (digs true (mag n) (sz (mag n)) j)) ∧ Below w1.heap.size w1 wr) (fun _ s6 _ => sz (mag n) - (intOf s6).toNat)
    case atStart => exact ⟨0, by omega, rfl, World.ownsRow_lit w1 _ 1 (Nat.le_refl _) (by decide) rfl, (by ((repeat' (first | exact Below.refl _ _ | (refine Below.alloc ?_ ?_ _) | (refine Below.setCell ?_ ?_ _) | (refine Below.drew ?_) | (refine Below.trans ?_ (Below.mono (by assumption) ?_)))) <;> ((try simp only [World.size_alloc, World.size_setCell, World.size_drew] at *); omega)))⟩
    case round =>
      obtain ⟨j, hj, rfl, hown2, hB2⟩ := hrel
      have hsz2 := hB2.size
      have hownr := ownsRow_below Hhown.out hB2 (Nat.le_refl _)
      have Hhown2 := Lib.hid hown2
      clear hown2
      by_cases hjk : j < sz (mag n)
      · obtain ⟨g, rfl, hbg, hgs, hc⟩ := own_byte hownr (j := j) (x := dig false (mag n) (sz (mag n) - 1 - j)) (by simp [dgs, digs, hjk])
        obtain ⟨d1, d2⟩ := dig_comp (mag n) (sz (mag n) - 1 - j)
        obtain ⟨t, ht⟩ : ∃ t : Nat, sz (mag n) - 1 - j = t := ⟨_, rfl⟩
        have hsn := digs_snoc true (mag n) (sz (mag n)) j ht
        rw [ht] at hc d1 d2
        generalize (dig false (mag n) t).toNat = x at *
        have hx1 : (0 : Int) ≤ 255 - x := by omega
        have hx2 : (255 : Int) - x ≤ 255 := by omega
        clear hownr
        have Hht := Lib.hid ht
        clear ht
        have Hd1 := Lib.hid d1
        clear d1
        have Hhsn := Lib.hid hsn
        clear hsn
        go_wp2_with (at_builtin; refine append_byte rfl _ _ rfl w1.heap.size u5 (1 + j) _ rfl (Hhown2.out.alloc _) wr.heap.size (255 - (x : Int)) rfl (by simp) (by omega) (by simp; omega) ?_)
        intro v5 w5 hown5 hg5 hB5
        have Hhown5 := Lib.hid hown5
        clear hown5
        go_wp2_with fail
        refine ⟨⟨j + 1, by omega, by go_num, ?_, (by ((repeat' (first | exact Below.refl _ _ | (refine Below.alloc ?_ ?_ _) | (refine Below.setCell ?_ ?_ _) | (refine Below.drew ?_) | (refine Below.trans ?_ (Below.mono (by assumption) ?_)))) <;> ((try simp only [World.size_alloc, World.size_setCell, World.size_drew] at *); omega)))⟩, by simp [intOf]; omega⟩
        have h1 := Hhown5.out
        rw [Hd1.out] at h1
        rw [Hhsn.out, Lib.byteCells_append]
        exact h1
      · have hje : j = sz (mag n) := by omega
        subst hje
        have hk := own_string (n := 1 + sz (mag n)) (l := encInt n) (v := u5) (w := wr) (base := w1.heap.size) (by rw [encInt_neg hn hs]; exact Hhown2.out)
        clear hownr
        go_wp2_with fail
        go_ret
        exact ⟨rfl, (by ((repeat' (first | exact Below.refl _ _ | (refine Below.alloc ?_ ?_ _) | (refine Below.setCell ?_ ?_ _) | (refine Below.drew ?_) | (refine Below.trans ?_ (Below.mono (by assumption) ?_)))) <;> ((try simp only [World.size_alloc, World.size_setCell, World.size_drew] at *); omega)))⟩
  · have e1 : IntKind.u64.wrap n = (mag n : Int) := by
      unfold mag; rw [if_neg hn]
      simp [IntKind.wrap, IntKind.signed, IntKind.bits]; omega
    go_wp2_with fail
    refine (refDigits_calls (mag n) w (by omega)).mono ?_
    rintro e w1 ⟨v, rfl, hown, hB⟩
    have hsz := hB.size
    obtain ⟨oa, cap, rfl⟩ := own_open hown
    have Hhown := Lib.hid hown
    clear hown
    go_wp2_with (at_builtin; refine append_bytes rfl _ _ rfl w.heap.size _ 1 _ rfl (World.ownsRow_lit w1 #[.int .u8 (128 + (sz (mag n) : Int))] 1 (by omega) (by decide) rfl) w.heap.size _ (sz (mag n)) _ rfl (Hhown.out.alloc _) (by omega) (by simp; omega) ?_)
    intro v5 w5 hown5 hg5 hB5
    have hk := own_string (n := 1 + sz (mag n)) (l := encInt n) (v := v5) (w := w5) (base := w.heap.size) (by rw [encInt_pos (by omega) hs]; exact hown5)
    have Hhown5 := Lib.hid hown5
    clear hown5
    go_wp2_with fail
    go_ret
    exact ⟨rfl, (by ((repeat' (first | exact Below.refl _ _ | (refine Below.alloc ?_ ?_ _) | (refine Below.setCell ?_ ?_ _) | (refine Below.drew ?_) | (refine Below.trans ?_ (Below.mono (by assumption) ?_)))) <;> ((try simp only [World.size_alloc, World.size_setCell, World.size_drew] at *); omega)))⟩
end Go.Proofs.YtjbpjmdnmnbonaaDoor
