/- What a stretch contains: plain, and the program's walk. -/
import Derived.Test.YtibhihobpehpbaaDoorF2
import Derived.Lib.CountLaws
set_option linter.unusedSimpArgs false
set_option linter.unusedVariables false
namespace Go.Proofs.YtibhihobpehpbaaDoor
open Go.RowKit

/-- two bytes replaced everywhere -/
def rep2 (p q : UInt8) (new : List UInt8) : List UInt8 → List UInt8
  | [] => []
  | [x] => [x]
  | x :: y :: t => if x = p ∧ y = q then new ++ rep2 p q new t else x :: rep2 p q new (y :: t)
theorem isPre2 (p q x : UInt8) (l : List UInt8) : ([p, q] : List UInt8).isPrefixOf (x :: l) = true ↔ ∃ t, x = p ∧ l = q :: t := by
  cases l with
  | nil => simp [List.isPrefixOf]
  | cons y t => simp [List.isPrefixOf]; constructor <;> (rintro ⟨a, b⟩; exact ⟨a.symm, b.symm⟩)
theorem rep2_none (p q : UInt8) (new : List UInt8) : ∀ s : List UInt8, Lib.index s [p, q] = -1 → rep2 p q new s = s
  | [], _ => rfl
  | [x], _ => rfl
  | x :: y :: t, h => by
    rw [Lib.index] at h
    by_cases hp : ([p, q] : List UInt8).isPrefixOf (x :: y :: t) = true
    · rw [if_pos hp] at h; simp at h
    · rw [if_neg hp] at h
      have hn : ¬ (x = p ∧ y = q) := fun e => hp ((isPre2 p q x (y :: t)).2 ⟨t, e.1, by rw [e.2]⟩)
      have hi : Lib.index (y :: t) [p, q] = -1 := by
        by_cases h2 : (Lib.index (y :: t) [p, q] == -1) = true
        · exact beq_iff_eq.1 h2
        · rw [if_neg h2] at h
          have := Lib.index_ge (y :: t) [p, q]
          omega
      rw [rep2, if_neg hn, rep2_none p q new (y :: t) hi]
theorem rep2_hit (p q : UInt8) (new : List UInt8) : ∀ (s : List UInt8) (i : Nat), Lib.index s [p, q] = (i : Int) → rep2 p q new s = s.take i ++ new ++ rep2 p q new (s.drop (i + 2))
  | [], i, h => by simp [Lib.index] at h
  | [x], i, h => by
    simp [Lib.index, List.isPrefixOf] at h
  | x :: y :: t, i, h => by
    rw [Lib.index] at h
    by_cases hp : ([p, q] : List UInt8).isPrefixOf (x :: y :: t) = true
    · rw [if_pos hp] at h
      obtain rfl : i = 0 := by omega
      obtain ⟨t', rfl, h2⟩ := (isPre2 p q x (y :: t)).1 hp
      obtain ⟨rfl, rfl⟩ := List.cons.inj h2
      simp [rep2]
    · rw [if_neg hp] at h
      have hn : ¬ (x = p ∧ y = q) := fun e => hp ((isPre2 p q x (y :: t)).2 ⟨t, e.1, by rw [e.2]⟩)
      by_cases h2 : (Lib.index (y :: t) [p, q] == -1) = true
      · rw [if_pos h2] at h; omega
      · rw [if_neg h2] at h
        have := Lib.index_ge (y :: t) [p, q]
        have h3 : Lib.index (y :: t) [p, q] ≠ -1 := fun e => h2 (beq_iff_eq.2 e)
        obtain ⟨j, rfl⟩ : ∃ j, i = j + 1 := ⟨i - 1, by omega⟩
        rw [rep2, if_neg hn, rep2_hit p q new (y :: t) j (by omega)]
        simp [Nat.add_right_comm]
theorem replaceK_rep2 (p q : UInt8) (new : List UInt8) : ∀ (n : Nat) (s : List UInt8), s.length ≤ n → Lib.replaceK [p, q] new (Lib.count s [p, q]) s = rep2 p q new s
  | n, s, hn => by
    by_cases h : Lib.index s [p, q] = -1
    · rw [rep2_none p q new s h]
      cases Lib.count s [p, q] with
      | zero => rfl
      | succ k => rw [Lib.replaceK, if_pos (by rw [h]; rfl)]
    · have hge := Lib.index_ge s [p, q]
      obtain ⟨i, hi⟩ : ∃ i : Nat, Lib.index s [p, q] = i := ⟨(Lib.index s [p, q]).toNat, by omega⟩
      rw [Lib.count_hit (by simp) hi, Nat.add_comm, Lib.replaceK_hit _ _ _ _ i hi, rep2_hit p q new s i hi]
      have hs : s ≠ [] := by intro e; subst e; simp [Lib.index] at hi
      have hpos : 0 < s.length := List.length_pos_iff.2 hs
      cases n with
      | zero => omega
      | succ n =>
        have := replaceK_rep2 p q new n (s.drop (i + 2)) (by simp; omega)
        simp only [List.length_cons, List.length_nil] at this ⊢
        rw [this]
theorem replaceAll_two (p q : UInt8) (new l : List UInt8) (hne : ([p, q] == new) = false) : Lib.replaceAll l [p, q] new = rep2 p q new l := by
  unfold Lib.replaceAll Lib.replace Lib.replaceNum
  rw [if_neg (by rw [hne]; simp), if_pos (.inl (by omega))]
  exact replaceK_rep2 p q new l.length l (Nat.le_refl _)
theorem rep2_le (p q : UInt8) (new : List UInt8) (hn : new.length ≤ 2) : ∀ s : List UInt8, (rep2 p q new s).length ≤ s.length
  | [] => by simp [rep2]
  | [x] => by simp [rep2]
  | x :: y :: t => by
    have h1 := rep2_le p q new hn t
    have h2 := rep2_le p q new hn (y :: t)
    rw [rep2]
    split
    · simp; omega
    · simp at h2 ⊢; omega

/-- undoing the escapes, as the program does it -/
def un2 (s : List UInt8) : List UInt8 := rep2 125 93 [125] (rep2 125 94 [126] s)
def unesc : List UInt8 → Option (List UInt8)
  | [] => some []
  | [c] => if c = 125 then none else some [c]
  | c :: d :: t => if c = 125 then (if d = 93 ∨ d = 94 then (unesc t).map (fun l => (d + 32) :: l) else none) else (unesc (d :: t)).map (fun l => c :: l)

theorem unesc_escaped : ∀ b : List UInt8, unesc (escaped b) = some b
  | [] => rfl
  | c :: b => by
    have ih := unesc_escaped b
    have e : escaped (c :: b) = escB c ++ escaped b := by simp [escaped]
    rw [e]
    unfold escB
    by_cases h1 : c = 125
    · subst h1
      show unesc (125 :: 93 :: escaped b) = _
      rw [unesc, if_pos rfl, if_pos (.inl rfl), ih]; rfl
    · by_cases h2 : c = 126
      · subst h2
        show unesc (125 :: 94 :: escaped b) = _
        rw [unesc, if_pos rfl, if_pos (.inr rfl), ih]; rfl
      · rw [if_neg h1, if_neg h2]
        show unesc (c :: escaped b) = _
        cases he : escaped b with
        | nil =>
          rw [he] at ih
          simp [unesc] at ih
          subst ih
          simp [unesc, h1]
        | cons d t =>
          rw [he] at ih
          rw [unesc, if_neg h1, ih]; rfl
theorem escaped_unesc : ∀ (s b : List UInt8), (126 : UInt8) ∉ s → unesc s = some b → escaped b = s
  | [], b, _, h => by simp [unesc] at h; subst h; rfl
  | [c], b, hf, h => by
    have h126 : c ≠ 126 := fun e => hf (by simp [e])
    by_cases h1 : c = 125
    · simp [unesc, h1] at h
    · simp [unesc, h1] at h
      subst h
      simp [escaped, escB, h1, h126]
  | c :: d :: t, b, hf, h => by
    have h126 : c ≠ 126 := fun e => hf (by simp [e])
    by_cases h1 : c = 125
    · subst h1
      rw [unesc, if_pos rfl] at h
      by_cases h2 : d = 93 ∨ d = 94
      · rw [if_pos h2] at h
        cases hu : unesc t with
        | none => rw [hu] at h; simp at h
        | some l =>
          rw [hu] at h
          simp at h
          subst h
          have ih := escaped_unesc t l (fun e => hf (by simp [e])) hu
          have e : escaped ((d + 32) :: l) = escB (d + 32) ++ escaped l := by simp [escaped]
          rw [e, ih]
          rcases h2 with rfl | rfl <;> rfl
      · rw [if_neg h2] at h; simp at h
    · rw [unesc, if_neg h1] at h
      cases hu : unesc (d :: t) with
      | none => rw [hu] at h; simp at h
      | some l =>
        rw [hu] at h
        simp at h
        subst h
        have ih := escaped_unesc (d :: t) l (fun e => hf (by simp only [List.mem_cons] at e ⊢; exact .inr e)) hu
        have e : escaped (c :: l) = escB c ++ escaped l := by simp [escaped]
        rw [e, ih]
        unfold escB
        rw [if_neg h1, if_neg h126]
        rfl
theorem un2_first : ∀ b : List UInt8, rep2 125 94 [126] (escaped b) = b.flatMap (fun c => if c = 125 then [125, 93] else [c])
  | [] => rfl
  | c :: b => by
    have ih := un2_first b
    have e : escaped (c :: b) = escB c ++ escaped b := by simp [escaped]
    rw [e]
    unfold escB
    simp only [List.flatMap_cons]
    by_cases h1 : c = 125
    · subst h1
      rw [if_pos rfl, if_pos rfl]
      show rep2 125 94 [126] (125 :: 93 :: escaped b) = _
      rw [rep2, if_neg (by decide)]
      cases he : escaped b with
      | nil => rw [he] at ih; simp [rep2] at ih ⊢; exact ih
      | cons d t => rw [he] at ih; rw [rep2, if_neg (by simp), ih]; rfl
    · by_cases h2 : c = 126
      · subst h2
        rw [if_neg h1, if_pos rfl, if_neg h1]
        show rep2 125 94 [126] (125 :: 94 :: escaped b) = _
        rw [rep2, if_pos ⟨rfl, rfl⟩, ih]
      · rw [if_neg h1, if_neg h2, if_neg h1]
        show rep2 125 94 [126] (c :: escaped b) = _
        cases he : escaped b with
        | nil => rw [he] at ih; simp [rep2] at ih ⊢; exact ih
        | cons d t => rw [he] at ih; rw [rep2, if_neg (by simp [h1]), ih]; rfl
theorem un2_second : ∀ b : List UInt8, rep2 125 93 [125] (b.flatMap (fun c => if c = 125 then [125, 93] else [c])) = b
  | [] => rfl
  | c :: b => by
    have ih := un2_second b
    simp only [List.flatMap_cons]
    generalize b.flatMap (fun c => if c = 125 then [(125 : UInt8), 93] else [c]) = t at *
    by_cases h1 : c = 125
    · subst h1
      rw [if_pos rfl]
      show rep2 125 93 [125] (125 :: 93 :: t) = _
      rw [rep2, if_pos ⟨rfl, rfl⟩, ih]; rfl
    · rw [if_neg h1]
      show rep2 125 93 [125] (c :: t) = _
      cases t with
      | nil => simp [rep2] at ih ⊢; exact ih
      | cons d t => rw [rep2, if_neg (by simp [h1]), ih]
theorem un2_escaped (b : List UInt8) : un2 (escaped b) = b := by unfold un2; rw [un2_first, un2_second]
theorem un2_le (s : List UInt8) : (un2 s).length ≤ s.length := by
  have h1 := rep2_le 125 94 [126] (by simp) s
  have h2 := rep2_le 125 93 [125] (by simp) (rep2 125 94 [126] s)
  unfold un2; omega

/-- what a stretch contains -/
def pay (s : List UInt8) : Option (List UInt8) :=
  if 2048 < s.length then none else
  match unesc s with
  | none => none
  | some b => if 2 ≤ b.length ∧ body (b.take (b.length - 2)) = b then some (b.take (b.length - 2)) else none
def payV (s : List UInt8) : List UInt8 × Bool := match pay s with
  | some p => (p, true)
  | none => ([], false)
theorem payV_none {s : List UInt8} (h : pay s = none) : payV s = ([], false) := by unfold payV; rw [h]
theorem payV_some {s p : List UInt8} (h : pay s = some p) : payV s = (p, true) := by unfold payV; rw [h]
theorem pay_long {s : List UInt8} (h : 2048 < s.length) : pay s = none := by unfold pay; rw [if_pos h]
theorem pay_un2 {s : List UInt8} (hf : (126 : UInt8) ∉ s) (h : s.length ≤ 2048) :
    pay s = if escaped (un2 s) = s then (if 2 ≤ (un2 s).length ∧ body ((un2 s).take ((un2 s).length - 2)) = un2 s then some ((un2 s).take ((un2 s).length - 2)) else none) else none := by
  unfold pay
  rw [if_neg (by omega)]
  by_cases he : escaped (un2 s) = s
  · rw [if_pos he]
    have : unesc s = some (un2 s) := by rw [← he, unesc_escaped, he]
    rw [this]
  · rw [if_neg he]
    cases hu : unesc s with
    | none => rfl
    | some b =>
      have hb := escaped_unesc s b hf hu
      exfalso
      apply he
      rw [← hb, un2_escaped]

theorem replaceTwo_calls (l : List UInt8) (p q : UInt8) (new : List UInt8) (m : Int) (w : World) (hm : MaxAt m w) (hs : l.length ≤ 10000000) (hn : new.length ≤ 10) (hne : ([p, q] == new) = false) :
    Calls Tryd.prog 42 #[.string ⟨l.toArray⟩, .string ⟨#[p, q]⟩, .string ⟨new.toArray⟩] w fun e w' => e = .returned (.string ⟨(rep2 p q new l).toArray⟩) ∧ Below w.heap.size w w' := by
  have hc := Lib.countB_le ⟨#[p, q]⟩ (by simp [ByteArray.size]) (ByteArray.mk l.toArray).size ⟨l.toArray⟩ (Nat.le_refl _)
  rw [str_size] at hc
  have hnl : (ByteArray.mk new.toArray).size = new.length := str_size new
  have := Tryd.strings_ReplaceAll ⟨l.toArray⟩ ⟨#[p, q]⟩ ⟨new.toArray⟩ m w (by rw [str_size]; omega) hm.1 (by simp [ByteArray.size]) (by
    rw [str_size, hnl]
    have : Lib.countB ⟨l.toArray⟩ ⟨#[p, q]⟩ * new.length ≤ 10000000 * 10 := Nat.mul_le_mul (by omega) hn
    omega)
  have e : Lib.replaceAll (ByteArray.mk l.toArray).data.toList (ByteArray.mk #[p, q]).data.toList (ByteArray.mk new.toArray).data.toList = rep2 p q new l := replaceAll_two p q new l hne
  rw [e] at this
  exact this
end Go.Proofs.YtibhihobpehpbaaDoor
