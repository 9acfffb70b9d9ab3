/- The walks of the bodies and the escapes. -/
import Derived.Test.YtibhihobpehpbaaDoorF1
import Derived.Test.YtibhihobpehpbaaDoorShelf
set_option linter.unusedSimpArgs false
set_option linter.unusedVariables false
namespace Go.Proofs.YtibhihobpehpbaaDoor
open Go.RowKit

def body (l : List UInt8) : List UInt8 := l ++ [UInt8.ofNat (crc l % 256), UInt8.ofNat (crc l / 256)]

theorem lit_two (w : World) (a b : UInt8) (o : Value) (ho : o = .slice (some ⟨w.heap.size, 0, none⟩) 2 2) : (convert 63 9 o).run Tryd.prog (w.alloc (.cells #[.int .u8 (a.toNat : Int), .int .u8 (b.toNat : Int)] 5)) = .ok (.string ⟨[a, b].toArray⟩) (w.alloc (.cells #[.int .u8 (a.toNat : Int), .int .u8 (b.toNat : Int)] 5)) := by
  subst ho
  exact own_string (n := 2) (l := [a, b]) (World.ownsRow_lit w #[.int .u8 (a.toNat : Int), .int .u8 (b.toNat : Int)] 2 (Nat.le_refl _) (by decide) rfl)

theorem replaceK_oneF (c : UInt8) (new : List UInt8) : ∀ s : List UInt8, Lib.replaceK [c] new (Lib.count s [c]) s = s.flatMap (fun b => if b = c then new else [b])
  | [] => by
    rw [Lib.count_one]; simp [Lib.replaceK]
  | b :: l => by
    have ih := replaceK_oneF c new l
    by_cases h : b = c
    · subst h
      have hix : Lib.index (b :: l) [b] = ((0 : Nat) : Int) := by rw [Lib.index]; simp [List.isPrefixOf]
      rw [Lib.count_cons_eq, Nat.add_comm, Lib.replaceK_hit _ _ _ _ 0 hix]
      simp [ih]
    · rw [Lib.count_cons_ne b c l h]
      rcases hk : Lib.count l [c] with _ | k
      · rw [hk] at ih
        simp only [Lib.replaceK] at ih ⊢
        simp [h, ← ih]
      · obtain ⟨j, hj⟩ := Lib.index_of_count (s := l) (old := [c]) (by omega)
        have hp : ([c] : List UInt8).isPrefixOf (b :: l) = false := by simp [List.isPrefixOf, Ne.symm h]
        have hix : Lib.index (b :: l) [c] = ((j + 1 : Nat) : Int) := by
          rw [Lib.index, hp, hj]
          simp
        rw [hk, Lib.replaceK_hit _ _ _ _ j hj] at ih
        rw [Lib.replaceK_hit _ _ _ _ (j + 1) hix]
        simp only [List.flatMap_cons, if_neg h, ← ih]
        simp [Nat.add_right_comm]

theorem replaceAll_one (c : UInt8) (new l : List UInt8) (hne : ([c] == new) = false) : Lib.replaceAll l [c] new = l.flatMap (fun b => if b = c then new else [b]) := by
  unfold Lib.replaceAll Lib.replace Lib.replaceNum
  rw [if_neg (by rw [hne]; simp), if_pos (.inl (by omega)), replaceK_oneF]

/-- a byte, escaped -/
def escB (c : UInt8) : List UInt8 := if c = 125 then [125, 93] else if c = 126 then [125, 94] else [c]
def escaped (l : List UInt8) : List UInt8 := l.flatMap escB
theorem escB_le (c : UInt8) : (escB c).length ≤ 2 ∧ 1 ≤ (escB c).length := by
  unfold escB; split <;> (try split) <;> simp
theorem escaped_le : ∀ l : List UInt8, (escaped l).length ≤ 2 * l.length ∧ l.length ≤ (escaped l).length
  | [] => by simp [escaped]
  | c :: l => by
    have h := escaped_le l
    have h2 := escB_le c
    have e : escaped (c :: l) = escB c ++ escaped l := by simp [escaped]
    rw [e]
    simp only [List.length_append, List.length_cons]
    omega
theorem esc1_le : ∀ l : List UInt8, (l.flatMap (fun b => if b = 125 then [125, 93] else [b])).length ≤ 2 * l.length
  | [] => by simp
  | c :: l => by
    have h := esc1_le l
    have h2 : (if c = 125 then [(125 : UInt8), 93] else [c]).length ≤ 2 := by split <;> simp
    simp only [List.flatMap_cons, List.length_append, List.length_cons]
    omega
theorem escaped_two (l : List UInt8) : (l.flatMap (fun b => if b = 125 then [125, 93] else [b])).flatMap (fun b => if b = 126 then [125, 94] else [b]) = escaped l := by
  unfold escaped
  rw [List.flatMap_assoc]
  congr 1
  funext c
  unfold escB
  by_cases h : c = 125
  · subst h; simp
  · by_cases h2 : c = 126
    · subst h2; simp
    · simp [h, h2]

theorem body_calls (l : List UInt8) (w : World) (hs : l.length ≤ 1000000) :
    Calls Tryd.prog 45 #[.string ⟨l.toArray⟩] w fun e w' => e = .returned (.string ⟨(body l).toArray⟩) ∧ Below w.heap.size w w' := by
  have hc := crc_lt l
  have hb : body l = l ++ [UInt8.ofNat (crc l % 256), UInt8.ofNat (crc l / 256)] := rfl
  go_enter Tryd.func45, Tryd.ntmps45
  go_wp2_with fail
  refine (Crc_calls l w (by omega)).mono ?_
  rintro e w1 ⟨rfl, rfl⟩
  generalize crc l = c at *
  have h0 : ((UInt8.ofNat (c % 256)).toNat : Int) = (c : Int) % 256 := by simp
  have h1 : ((UInt8.ofNat (c / 256)).toNat : Int) = (c : Int) / 256 := by simp; omega
  have hcv := lit_two w (UInt8.ofNat (c % 256)) (UInt8.ofNat (c / 256)) _ rfl
  rw [h0, h1] at hcv
  have hcat := cat_run l [UInt8.ofNat (c % 256), UInt8.ofNat (c / 256)] (by simp; omega) (w.alloc (.cells #[.int .u8 ((c : Int) % 256), .int .u8 ((c : Int) / 256)] 5))
  rw [← hb] at hcat
  clear h0 h1
  have Hhb := Lib.hid hb
  clear hb
  go_wp2_with fail
  go_ret
  exact ⟨rfl, (by ((repeat' (first | exact Below.refl _ _ | (refine Below.alloc ?_ ?_ _) | (refine Below.setCell ?_ ?_ _) | (refine Below.drew ?_) | (refine Below.trans ?_ (Below.mono (by assumption) ?_)))) <;> ((try simp only [World.size_alloc, World.size_setCell, World.size_drew] at *); omega)))⟩

/-- the variable that the library's search reads -/
def MaxAt (m : Int) (w : World) : Prop := w.cell? ⟨4, 0, none⟩ = some (.int .i64 m) ∧ 4 < w.heap.size
theorem MaxAt.below {m : Int} {w w' : World} {B : Nat} (h : MaxAt m w) (hb : Below B w w') (hB : 4 < B) : MaxAt m w' :=
  ⟨by rw [← h.1]; exact hb.cell (p := ⟨4, 0, none⟩) hB, Nat.lt_of_lt_of_le h.2 hb.size⟩

theorem replaceOne_calls (l : List UInt8) (c : UInt8) (new : List UInt8) (m : Int) (w : World) (hm : MaxAt m w) (hs : l.length ≤ 10000000) (hn : new.length ≤ 10) (hne : ([c] == new) = false) :
    Calls Tryd.prog 42 #[.string ⟨l.toArray⟩, .string ⟨#[c]⟩, .string ⟨new.toArray⟩] w fun e w' => e = .returned (.string ⟨(l.flatMap (fun b => if b = c then new else [b])).toArray⟩) ∧ Below w.heap.size w w' := by
  have hc := Lib.countB_le ⟨#[c]⟩ (by simp [ByteArray.size]) (ByteArray.mk l.toArray).size ⟨l.toArray⟩ (Nat.le_refl _)
  rw [str_size] at hc
  have hnl : (ByteArray.mk new.toArray).size = new.length := str_size new
  have := Tryd.strings_ReplaceAll ⟨l.toArray⟩ ⟨#[c]⟩ ⟨new.toArray⟩ m w (by rw [str_size]; omega) hm.1 (by simp [ByteArray.size]) (by
    rw [str_size, hnl]
    have : Lib.countB ⟨l.toArray⟩ ⟨#[c]⟩ * new.length ≤ 10000000 * 10 := Nat.mul_le_mul (by omega) hn
    omega)
  have e : Lib.replaceAll (ByteArray.mk l.toArray).data.toList (ByteArray.mk #[c]).data.toList (ByteArray.mk new.toArray).data.toList = l.flatMap (fun b => if b = c then new else [b]) := replaceAll_one c new l hne
  rw [e] at this
  exact this

theorem escaped_calls (l : List UInt8) (m : Int) (w : World) (hm : MaxAt m w) (hs : l.length ≤ 1000000) :
    Calls Tryd.prog 44 #[.string ⟨l.toArray⟩] w fun e w' => e = .returned (.string ⟨(escaped l).toArray⟩) ∧ Below w.heap.size w w' := by
  have h2 := escaped_two l
  have hle := esc1_le l
  have Hh2 := Lib.hid h2
  clear h2
  have Hhm := Lib.hid hm
  clear hm
  go_enter Tryd.func44, Tryd.ntmps44
  go_wp2_with fail
  refine (replaceOne_calls l 125 [125, 93] m w Hhm.out (by omega) (by simp) (by decide)).mono ?_
  rintro e w1 ⟨rfl, hB1⟩
  have hsz1 := hB1.size
  have hm1 := Hhm.out.below hB1 Hhm.out.2
  have Hhm1 := Lib.hid hm1
  clear hm1
  go_wp2_with fail
  refine (replaceOne_calls _ 126 [125, 94] m w1 Hhm1.out (by omega) (by simp) (by decide)).mono ?_
  rw [Hh2.out]
  rintro e w2 ⟨rfl, hB2⟩
  go_wp2_with fail
  go_ret
  exact ⟨rfl, (by ((repeat' (first | exact Below.refl _ _ | (refine Below.alloc ?_ ?_ _) | (refine Below.setCell ?_ ?_ _) | (refine Below.drew ?_) | (refine Below.trans ?_ (Below.mono (by assumption) ?_)))) <;> ((try simp only [World.size_alloc, World.size_setCell, World.size_drew] at *); omega)))⟩

theorem escaped_snoc (l : List UInt8) (k : Nat) (h : k < l.length) : escaped (l.take (k + 1)) = escaped (l.take k) ++ escB l[k] := by
  unfold escaped
  rw [List.take_succ_eq_append_getElem h, List.flatMap_append]
  simp only [List.flatMap_cons, List.flatMap_nil, List.append_nil]

/-- the frame of a payload, or nothing -/
def encode (l : List UInt8) : List UInt8 := if 2048 < (escaped (body l)).length then [] else 126 :: (escaped (body l) ++ [126])

theorem body_len (l : List UInt8) : (body l).length = l.length + 2 := by simp [body]

theorem encode_calls (l : List UInt8) (m : Int) (w : World) (hm : MaxAt m w) (hs : l.length ≤ 900000) :
    Calls Tryd.prog 23 #[.string ⟨l.toArray⟩] w fun e w' => e = .returned (.string ⟨(encode l).toArray⟩) ∧ Below w.heap.size w w' := by
  have hbl := body_len l
  have hE : encode l = if 2048 < (escaped (body l)).length then [] else 126 :: (escaped (body l) ++ [126]) := rfl
  have HhE := Lib.hid hE
  clear hE
  have Hhm := Lib.hid hm
  clear hm
  go_enter Tryd.func23, Tryd.ntmps23
  go_wp2_with fail
  refine (body_calls l w (by omega)).mono ?_
  rintro e w1 ⟨rfl, hB1⟩
  have hsz1 := hB1.size
  have hm1 := Hhm.out.below hB1 Hhm.out.2
  have Hhm1 := Lib.hid hm1
  clear hm1
  go_wp2_with fail
  refine (escaped_calls (body l) m w1 Hhm1.out (by omega)).mono ?_
  rintro e w2 ⟨rfl, hB2⟩
  generalize escaped (body l) = t at *
  have hz := str_size t
  by_cases h : t.length ≤ 2048
  · have hc1 := cat_run [126] t (by simp; omega) w2
    have hc2 := cat_run ([126] ++ t) [126] (by simp; omega) w2
    have hE2 : encode l = [126] ++ t ++ [126] := by rw [HhE.out, if_neg (by omega)]; simp
    clear hbl
    have HhE2 := Lib.hid hE2
    clear hE2
    go_wp2_with fail
    go_ret
    rw [HhE2.out]
    exact ⟨rfl, (by ((repeat' (first | exact Below.refl _ _ | (refine Below.alloc ?_ ?_ _) | (refine Below.setCell ?_ ?_ _) | (refine Below.drew ?_) | (refine Below.trans ?_ (Below.mono (by assumption) ?_)))) <;> ((try simp only [World.size_alloc, World.size_setCell, World.size_drew] at *); omega)))⟩
  · have hE2 : encode l = [] := by rw [HhE.out, if_pos (by omega)]
    clear hbl
    have HhE2 := Lib.hid hE2
    clear hE2
    go_wp2_with fail
    go_ret
    rw [HhE2.out]
    exact ⟨rfl, (by ((repeat' (first | exact Below.refl _ _ | (refine Below.alloc ?_ ?_ _) | (refine Below.setCell ?_ ?_ _) | (refine Below.drew ?_) | (refine Below.trans ?_ (Below.mono (by assumption) ?_)))) <;> ((try simp only [World.size_alloc, World.size_setCell, World.size_drew] at *); omega)))⟩
end Go.Proofs.YtibhihobpehpbaaDoor
