/- The walks of wire.Num, digest.Short, sign's hash, secret, challenge. -/
import Derived.Test.YtjbpjmdnmnbonaaDoorX3
import Derived.Test.YtjbpjmdnmnbonaaDoorD4
import Derived.Lib.ConvBytes
set_option linter.unusedSimpArgs false
set_option linter.unusedVariables false
namespace Go.Proofs.YtjbpjmdnmnbonaaDoor
open Go.RowKit

/-- what the package variables hold -/
def SA (m : Int) (w : World) : Prop := DigestAt w ∧ 4 < w.heap.size ∧ w.cell? ⟨4, 0, none⟩ = some (.int .i64 m)
theorem SA.below {m : Int} {w w' : World} {B : Nat} (h : SA m w) (hb : Below B w w') (hB : 4 < B) : SA m w' :=
  ⟨h.1.below hb (by omega), Nat.lt_of_lt_of_le h.2.1 hb.size, by rw [← h.2.2]; exact hb.cell (p := ⟨4, 0, none⟩) hB⟩

def numS (n : Int) : List UInt8 := if n < 0 then [] else encInt n
theorem numS_len (n : Int) (h : In64 n) : (numS n).length ≤ 9 := by
  unfold numS; split
  · simp
  · exact encInt_len n h
theorem num_calls (n : Int) (w : World) (h : In64 n) : Calls Tryd.prog 31 #[.int .i64 n] w fun e w' => e = .returned (.string ⟨(numS n).toArray⟩) ∧ Below w.heap.size w w' := by
  by_cases hn : n < 0
  · rw [numS, if_pos hn]
    go_enter Tryd.func31, Tryd.ntmps31
    go_wp2_with fail
    go_ret
    exact ⟨rfl, Below.refl _ _⟩
  · rw [numS, if_neg hn]
    have hc := Int_calls n w h
    have Hhc := Lib.hid hc
    clear hc
    go_enter Tryd.func31, Tryd.ntmps31
    go_wp2_with fail
    refine Hhc.out.mono ?_
    rintro e w1 ⟨rfl, hB⟩
    have HhB := Lib.hid hB
    clear hB
    go_wp2_with fail
    go_ret
    exact ⟨rfl, HhB.out⟩

/-- the number of the first k bytes -/
def beN (l : List UInt8) (k : Nat) : Nat := (l.take k).foldl (fun n c => n * 256 + c.toNat) 0
theorem beN_succ (l : List UInt8) (k : Nat) (h : k < l.length) : beN l (k + 1) = beN l k * 256 + l[k].toNat := by
  unfold beN; rw [List.take_succ_eq_append_getElem h, List.foldl_append]; rfl
theorem beN_lt (l : List UInt8) : ∀ k, k ≤ l.length → beN l k < 256 ^ k
  | 0, _ => by simp [beN]
  | k + 1, h => by
    rw [beN_succ l k (by omega), Nat.pow_succ]
    have h1 := beN_lt l k (by omega)
    have h2 := l[k].toNat_lt
    omega
def shortS (l : List UInt8) : Nat := beN (digestS l) 8 / 16
theorem digestS_len32 (l : List UInt8) : (digestS l).length = 32 := by
  unfold digestS
  have h : ∀ l : List Nat, (l.flatMap leS).length = 4 * l.length := by
    intro l
    induction l with
    | nil => rfl
    | cons a l ih => rw [List.flatMap_cons, List.length_append, ih]; simp [leS]; omega
  rw [h, absorb_len _ _ _ _ (by decide)]
theorem shortS_lt (l : List UInt8) : shortS l < 1152921504606846976 := by
  unfold shortS
  have := beN_lt (digestS l) 8 (by rw [digestS_len32]; omega)
  omega
theorem or_byte64 (a : Nat) (c : UInt8) (h : a < 72057594037927936) : bits .or .u64 ((a : Int) * 256) ((c.toNat : Nat) : Int) = ((a * 256 + c.toNat : Nat) : Int) := by
  have h2 := c.toNat_lt
  have h3 := bits_or_u64_nat (a * 256) c.toNat (by omega) (by omega)
  rw [Int.natCast_mul] at h3
  have h4 : bits .or .u64 ((a : Int) * 256) ((c.toNat : Nat) : Int) = ((a * 256 ||| c.toNat : Nat) : Int) := h3
  rw [h4, Nat.mul_comm a, show (256 : Nat) = 2 ^ 8 from rfl, ← Nat.two_pow_add_eq_or_of_lt h2]
theorem conv_row (w : World) (l : List UInt8) : ∃ (W : World) (cap : Nat), (convert 9 51 (.string ⟨l.toArray⟩)).run Tryd.prog w = .ok (.slice (some ⟨w.heap.size, 0, none⟩) l.length cap) W ∧
    (∀ j (hj : j < l.length), W.cell? ⟨w.heap.size, j, none⟩ = some (.int .u8 (l[j].toNat : Int))) ∧ Below w.heap.size w W ∧ W.heap.size = w.heap.size + 1 := by
  refine ⟨_, _, by rw [Lib.run_convert_string_bytes w 9 51 5 ⟨l.toArray⟩ Tryd.underlying9 Tryd.underlying51 Tryd.underlying5, str_size], ?_, ?_, Lib.bytesWorld_size _ _ _⟩
  · intro j hj
    rw [Lib.bytesWorld_cell w 5 ⟨l.toArray⟩ j (by rw [str_size]; exact hj)]
    simp [List.getD, hj]
  · exact ⟨rfl, rfl, rfl, by rw [Lib.bytesWorld_size]; omega, fun k hk => Lib.bytesWorld_at_old _ _ _ k hk⟩
set_option maxRecDepth 100000 in
set_option maxHeartbeats 1000000 in
theorem short_calls (l : List UInt8) (w : World) (hd : DigestAt w) (hl : l.length ≤ 4611686018427387904) :
    Calls Tryd.prog 52 #[.string ⟨l.toArray⟩] w fun e w' => e = .returned (.int .i64 (shortS l : Nat)) ∧ Below w.heap.size w w' := by
  have hc := Sum_calls l w hd hl
  obtain ⟨D, hD⟩ : ∃ D, D = digestS l := ⟨_, rfl⟩
  rw [← hD] at hc
  have hDl : D.length = 32 := by rw [hD]; exact digestS_len32 l
  have hDs := str_size D
  have h8 : (8 : Int) ≤ (D.length : Int) := by omega
  have Hhc := Lib.hid hc
  clear hc
  have HhD := Lib.hid hD
  clear hD
  go_enter Tryd.func52, Tryd.ntmps52
  go_wp2_with fail
  refine Hhc.out.mono ?_
  rintro e w1 ⟨rfl, hB1⟩
  have hs1 := hB1.size
  have hext : (ByteArray.mk D.toArray).extract 0 8 = ⟨(D.take 8).toArray⟩ := by apply ByteArray.ext; simp [ByteArray.data_extract]
  obtain ⟨E, hE⟩ : ∃ E, E = D.take 8 := ⟨_, rfl⟩
  rw [← hE] at hext
  have hEl : E.length = 8 := by rw [hE, List.length_take]; omega
  have hbe : beN D 8 = beN E 8 := by unfold beN; rw [hE, List.take_take, Nat.min_self]
  obtain ⟨W2, cap, hcv, hrow, hB2, hs2⟩ := conv_row w1 E
  have hB2b := hB1.trans (hB2.mono hs1)
  rw [hEl] at hcv
  have HhB1 := Lib.hid hB1
  clear hB1
  have HhB2 := Lib.hid hB2
  clear hB2
  have HhB2b := Lib.hid hB2b
  clear hB2b
  have Hhrow := Lib.hid hrow
  clear hrow
  have Hhbe := Lib.hid hbe
  clear hbe
  have HhE := Lib.hid hE
  clear hE
  go_wp2_with fail
  go_loopw [3, 5, 11] (fun s3 _ s11 wr => ∃ i : Nat, i ≤ 8 ∧ s11 = .int .i64 i ∧ s3 = .int .u64 (beN E i : Nat) ∧ wr = W2) (fun _ _ s11 _ => 8 - (intOf s11).toNat)
  case atStart => exact ⟨0, by omega, rfl, rfl, rfl⟩
  case round =>
    obtain ⟨i, hi, rfl, rfl, rfl⟩ := hrel
    by_cases hlt : i < 8
    · have hcell := Hhrow.out i (by omega)
      have hsucc := beN_succ E i (by omega)
      have hb := beN_lt E i (by omega)
      have hb7 : beN E i < 72057594037927936 := Nat.lt_of_lt_of_le hb (by have : (256 : Nat) ^ i ≤ 256 ^ 7 := Nat.pow_le_pow_right (by omega) (by omega); omega)
      obtain ⟨X, hX⟩ : ∃ X, X = beN E i := ⟨_, rfl⟩
      obtain ⟨c, hc⟩ : ∃ c : UInt8, c = E[i]'(by omega) := ⟨_, rfl⟩
      rw [← hX] at hsucc hb7 ⊢
      rw [← hc] at hsucc hcell
      have hor := or_byte64 X c hb7
      have hcl := c.toNat_lt
      have hidx : w1.heap.size < wr.heap.size := by omega
      clear hb hX hc
      have Hhsucc := Lib.hid hsucc
      clear hsucc
      go_wp2_with fail
      exact ⟨⟨i + 1, by omega, by go_num, by rw [Hhsucc.out, Int.natCast_add, Int.natCast_mul]; rfl, trivial⟩, by simp [intOf]; omega⟩
    · obtain rfl : i = 8 := by omega
      have hb := beN_lt E 8 (by omega)
      have hfin : shortS l = beN E 8 / 16 := by rw [shortS, ← HhD.out, Hhbe.out]
      generalize beN E 8 = X at *
      have hb2 : X < 18446744073709551616 := hb
      clear hb
      have Hhfin := Lib.hid hfin
      clear hfin
      go_wp2_with fail
      go_ret
      exact ⟨by rw [Hhfin.out]; rfl, HhB2b.out⟩

theorem join_none (xs : List (List UInt8)) : Lib.join xs [] = xs.flatten := by
  cases xs with
  | nil => rfl
  | cons x r => rw [Lib.join_cons]; simp [Lib.joinTail]
theorem str_row (w : World) (xs : List (List UInt8)) : ∀ j x, xs[j]? = some x → (w.alloc (.cells (xs.map strV).toArray 9)).cell? ⟨w.heap.size, j, none⟩ = some (strV x) := by
  intro j x hj
  rw [cell_of_row _ _ _ _ _ _ (heap_alloc_new w _)]
  simp [hj]
theorem hash_calls (bk : Nat) (xs : List (List UInt8)) (w : World) (hd : DigestAt w) (hcells : ∀ j x, xs[j]? = some x → w.cell? ⟨bk, j, none⟩ = some (strV x)) (hbk : bk < w.heap.size) (hx : xs.flatten.length ≤ 1000000) (hn : xs.length ≤ 100) :
    Calls Tryd.prog 42 #[.slice (some ⟨bk, 0, none⟩) xs.length xs.length] w fun e w' => e = .returned (.int .i64 (shortS xs.flatten : Nat)) ∧ Below w.heap.size w w' := by
  have e1 : (xs.map bytesOf).map (·.data.toList) = xs := by rw [List.map_map]; conv => rhs; rw [← List.map_id xs]
                                                            apply List.map_congr_left; intro a _; simp [bytesOf]
  have hj := Tryd.strings_Join bk 0 xs.length (xs.map bytesOf) ⟨#[]⟩ w (fun j x hj => by
      rw [List.getElem?_map] at hj
      cases hx : xs[j]? with
      | none => rw [hx] at hj; cases hj
      | some y =>
        rw [hx] at hj; cases hj
        rw [Nat.zero_add]; exact hcells j y hx) hbk (by rw [List.length_map]; omega) (by rw [List.length_map]; omega) (by rw [e1, join_none]; omega)
  rw [e1, join_none, List.length_map] at hj
  have h3 := hd.1
  have hsc : ∀ wx, Below w.heap.size w wx → Calls Tryd.prog 52 #[.string ⟨xs.flatten.toArray⟩] wx fun e w' => e = .returned (.int .i64 (shortS xs.flatten : Nat)) ∧ Below w.heap.size w w' := fun wx hB =>
    (short_calls _ wx (hd.below hB h3) (by omega)).mono fun e w' ⟨h1, h2⟩ => ⟨h1, hB.trans (h2.mono hB.size)⟩
  have hjoin : Calls Tryd.prog 53 #[.slice (some ⟨bk, 0, none⟩) xs.length xs.length, .string ⟨#[]⟩] w fun e w' => e = .returned (.string ⟨xs.flatten.toArray⟩) ∧ Below w.heap.size w w' := hj
  obtain ⟨L, hL⟩ : ∃ L, L = xs.flatten := ⟨_, rfl⟩
  obtain ⟨S, hS⟩ : ∃ S, S = shortS xs.flatten := ⟨_, rfl⟩
  rw [← hS, ← hL] at hsc
  rw [← hL] at hjoin
  clear hj e1
  have Hhjoin := Lib.hid hjoin
  clear hjoin
  have Hhsc := Lib.hid hsc
  clear hsc
  have HhL := Lib.hid hL
  clear hL
  have HhS := Lib.hid hS
  clear hS
  go_enter Tryd.func42, Tryd.ntmps42
  go_wp2_with fail
  refine Hhjoin.out.mono ?_
  rintro e w1 ⟨rfl, hB1⟩
  have HhB1 := Lib.hid hB1
  clear hB1
  go_wp2_with fail
  refine (Hhsc.out _ HhB1.out).mono ?_
  rintro e w2 ⟨rfl, hB2⟩
  have HhB2 := Lib.hid hB2
  clear hB2
  go_wp2_with fail
  go_ret
  exact ⟨by rw [HhS.out]; rfl, HhB2.out⟩
def secretS (xs : List (List UInt8)) : Nat := 1 + shortS xs.flatten % 1152921504606845788
theorem secretS_lt (xs : List (List UInt8)) : 1 ≤ secretS xs ∧ secretS xs < 1152921504606845789 := by
  unfold secretS; have := Nat.mod_lt (shortS xs.flatten) (show 0 < 1152921504606845788 by decide); omega
theorem secret_calls (bk : Nat) (xs : List (List UInt8)) (w : World) (hd : DigestAt w) (hcells : ∀ j x, xs[j]? = some x → w.cell? ⟨bk, j, none⟩ = some (strV x)) (hbk : bk < w.heap.size) (hx : xs.flatten.length ≤ 1000000) (hn : xs.length ≤ 100) :
    Calls Tryd.prog 26 #[.slice (some ⟨bk, 0, none⟩) xs.length xs.length] w fun e w' => e = .returned (.int .i64 (secretS xs : Nat)) ∧ Below w.heap.size w w' := by
  have hc := hash_calls bk xs w hd hcells hbk hx hn
  obtain ⟨S, hS⟩ : ∃ S, S = shortS xs.flatten := ⟨_, rfl⟩
  have hSl : S < 1152921504606846976 := by rw [hS]; exact shortS_lt _
  have hsec : secretS xs = 1 + S % 1152921504606845788 := by rw [hS]; rfl
  rw [← hS] at hc
  have ht : (S : Int).tmod 1152921504606845788 = ((S % 1152921504606845788 : Nat) : Int) := rfl
  have hml := Nat.mod_lt S (show 0 < 1152921504606845788 by decide)
  generalize S % 1152921504606845788 = z at *
  clear hS
  have Hhc := Lib.hid hc
  clear hc
  have Hhsec := Lib.hid hsec
  clear hsec
  go_enter Tryd.func26, Tryd.ntmps26
  go_wp2_with fail
  refine Hhc.out.mono ?_
  rintro e w1 ⟨rfl, hB1⟩
  have HhB1 := Lib.hid hB1
  clear hB1
  go_wp2_with fail
  go_ret
  exact ⟨by rw [Hhsec.out, Int.natCast_add]; rfl, HhB1.out⟩
end Go.Proofs.YtjbpjmdnmnbonaaDoor
