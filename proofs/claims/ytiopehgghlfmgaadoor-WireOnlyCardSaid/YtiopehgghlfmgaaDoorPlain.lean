/- The plain law of the order of encodings. -/
import Derived.Test.YtiopehgghlfmgaaDoorW13
namespace Go.Proofs.YtiopehgghlfmgaaDoor
open Go.RowKit

/-- the first list is smaller at a place that both have -/
def Lt2 : List UInt8 → List UInt8 → Prop
  | x :: s, y :: t => x.toNat < y.toNat ∨ (x = y ∧ Lt2 s t)
  | _, _ => False

theorem Lt2.head {x y : UInt8} (s t : List UInt8) (h : x.toNat < y.toNat) : Lt2 (x :: s) (y :: t) := .inl h
theorem Lt2.tail {x : UInt8} {s t : List UInt8} (h : Lt2 s t) : Lt2 (x :: s) (x :: t) := .inr ⟨rfl, h⟩
theorem Lt2.pre {s t : List UInt8} (h : Lt2 s t) : ∀ p : List UInt8, Lt2 (p ++ s) (p ++ t)
  | [] => h
  | _ :: p => .inr ⟨rfl, Lt2.pre h p⟩
theorem Lt2.suf : ∀ {s t : List UInt8} (_ : Lt2 s t) (u v : List UInt8), Lt2 (s ++ u) (t ++ v)
  | x :: s, y :: t, h, u, v => by
    rcases h with h | ⟨rfl, h⟩
    · exact .inl h
    · exact .inr ⟨rfl, Lt2.suf h u v⟩
  | [], _, h, _, _ => by cases h
  | _ :: _, [], h, _, _ => by cases h
theorem Lt2.less : ∀ {s t : List UInt8} (_ : Lt2 s t), Op.bytesLess s t = true ∧ Op.bytesLess t s = false ∧ s ≠ t
  | x :: s, y :: t, h => by
    rcases h with h | ⟨rfl, h⟩
    · have h1 : x < y := h
      have h2 : ¬ y < x := by show ¬ y.toNat < x.toNat; omega
      have h3 : x ≠ y := by intro e; subst e; omega
      refine ⟨by simp [Op.bytesLess, h1], ?_, ?_⟩
      · simp [Op.bytesLess, h2, h3.symm]
      · intro e; exact h3 (List.cons.inj e).1
    · obtain ⟨h1, h2, h3⟩ := Lt2.less h
      have h4 : ¬ x < x := by show ¬ x.toNat < x.toNat; omega
      refine ⟨by simp [Op.bytesLess, h1], by simp [Op.bytesLess, h2, h4], ?_⟩
      intro e; exact h3 (List.cons.inj e).2
  | [], _, h => by cases h
  | _ :: _, [], h => by cases h
theorem Lt2.not_pre : ∀ {s t : List UInt8} (_ : Lt2 s t), ¬ (s <+: t) ∧ ¬ (t <+: s)
  | x :: s, y :: t, h => by
    rcases h with h | ⟨rfl, h⟩
    · have h3 : x ≠ y := by intro e; subst e; omega
      constructor
      · intro e; exact h3 (List.cons_prefix_cons.1 e).1
      · intro e; exact h3 (List.cons_prefix_cons.1 e).1.symm
    · obtain ⟨h1, h2⟩ := Lt2.not_pre h
      constructor
      · intro e; exact h1 (List.cons_prefix_cons.1 e).2
      · intro e; exact h2 (List.cons_prefix_cons.1 e).2
  | [], _, h => by cases h
  | _ :: _, [], h => by cases h

def cmpN (a b : Int) : Int := if a < b then -1 else if b < a then 1 else 0
def cmpT (a b : List UInt8) : Int := if Op.bytesLess a b = true then -1 else if a = b then 0 else 1
/-- the order of lists by their first elements that differ -/
def cmpL {α : Type} [DecidableEq α] (cmp : α → α → Int) : List α → List α → Int
  | [], [] => 0
  | [], _ :: _ => -1
  | _ :: _, [] => 1
  | x :: a, y :: b => if x = y then cmpL cmp a b else cmp x y

theorem less_total : ∀ (a b : List UInt8), Op.bytesLess a b = true ∨ a = b ∨ Op.bytesLess b a = true
  | [], [] => .inr (.inl rfl)
  | [], _ :: _ => .inl rfl
  | _ :: _, [] => .inr (.inr rfl)
  | x :: a, y :: b => by
    by_cases h : x = y
    · subst h
      rcases less_total a b with h | h | h
      · exact .inl (by simp [Op.bytesLess, h])
      · exact .inr (.inl (by rw [h]))
      · exact .inr (.inr (by simp [Op.bytesLess, h]))
    · have : x.toNat ≠ y.toNat := fun e => h (UInt8.toNat_inj.1 e)
      by_cases hl : x.toNat < y.toNat
      · exact .inl (by have : x < y := hl; simp [Op.bytesLess, this])
      · exact .inr (.inr (by have : y < x := by show y.toNat < x.toNat; omega
                             simp [Op.bytesLess, this]))

/-- what an encoding must have: equal values equal, smaller ones smaller -/
def Orders {α : Type} (enc : α → List UInt8) (cmp : α → α → Int) (ok : α → Prop) : Prop :=
  ∀ a b, ok a → ok b → (cmp a b = 0 ∧ a = b) ∨ (cmp a b = -1 ∧ a ≠ b ∧ Lt2 (enc a) (enc b)) ∨ (cmp a b = 1 ∧ a ≠ b ∧ Lt2 (enc b) (enc a))

theorem digs_lt : ∀ (k m m' : Nat), m % 256 ^ k < m' % 256 ^ k → Lt2 (digs false m k k) (digs false m' k k) ∧ Lt2 (digs true m' k k) (digs true m k k)
  | 0, m, m', h => by simp [Nat.mod_one] at h
  | k + 1, m, m', h => by
    rw [Nat.mod_pow_succ, Nat.mod_pow_succ] at h
    rw [digs_cons, digs_cons, digs_cons, digs_cons]
    have hlt1 := Nat.mod_lt m (Nat.pow_pos (n := k) (show 0 < 256 by omega))
    have hlt2 := Nat.mod_lt m' (Nat.pow_pos (n := k) (show 0 < 256 by omega))
    have hd1 : (dig false m k).toNat = m / 256 ^ k % 256 := by simp [dig]
    have hd2 : (dig false m' k).toNat = m' / 256 ^ k % 256 := by simp [dig]
    have hd3 : (dig true m k).toNat = 255 - m / 256 ^ k % 256 := by simp [dig]; omega
    have hd4 : (dig true m' k).toNat = 255 - m' / 256 ^ k % 256 := by simp [dig]; omega
    by_cases he : m / 256 ^ k % 256 = m' / 256 ^ k % 256
    · have e1 : dig false m k = dig false m' k := by simp [dig, he]
      have e2 : dig true m k = dig true m' k := by simp [dig, he]
      rw [he] at h
      obtain ⟨h1, h2⟩ := digs_lt k m m' (by omega)
      rw [e1, e2]
      exact ⟨h1.tail, h2.tail⟩
    · have hl : m / 256 ^ k % 256 < m' / 256 ^ k % 256 := by
        rcases Nat.lt_or_gt_of_ne he with h3 | h3
        · exact h3
        · exfalso
          have : 256 ^ k * (m' / 256 ^ k % 256 + 1) ≤ 256 ^ k * (m / 256 ^ k % 256) := Nat.mul_le_mul_left _ h3
          rw [Nat.mul_add, Nat.mul_one] at this
          omega
      exact ⟨Lt2.head _ _ (by omega), Lt2.head _ _ (by omega)⟩

theorem sz_mono {m m' : Nat} (h : m ≤ m') (hm : m' ≤ 18446744073709551615) : sz m ≤ sz m' := by
  rcases Nat.lt_or_ge (sz m') (sz m) with hc | hc
  · obtain ⟨h1, -⟩ := sz_bounds m' hm
    obtain ⟨-, h2⟩ := sz_bounds m (by omega)
    have := h2 (sz m') hc
    omega
  · exact hc

theorem encInt_lt {a b : Int} (ha : In64 a) (hb : In64 b) (h : a < b) : Lt2 (encInt a) (encInt b) := by
  have ma := mag_le ha
  have mb := mag_le hb
  have sa := sz_le (mag a) (by omega)
  have sb := sz_le (mag b) (by omega)
  obtain ⟨ba, -⟩ := sz_bounds (mag a) (by omega)
  obtain ⟨bb, -⟩ := sz_bounds (mag b) (by omega)
  have ea : encInt a = (if a < 0 then UInt8.ofNat (127 - sz (mag a)) else UInt8.ofNat (128 + sz (mag a))) :: digs (decide (a < 0)) (mag a) (sz (mag a)) (sz (mag a)) := rfl
  have eb : encInt b = (if b < 0 then UInt8.ofNat (127 - sz (mag b)) else UInt8.ofNat (128 + sz (mag b))) :: digs (decide (b < 0)) (mag b) (sz (mag b)) (sz (mag b)) := rfl
  rw [ea, eb]
  by_cases h1 : a < 0
  · by_cases h2 : b < 0
    · have hm : mag b < mag a := by unfold mag; rw [if_pos h1, if_pos h2]; omega
      have hs := sz_mono (Nat.le_of_lt hm) (by omega)
      rw [if_pos h1, if_pos h2]
      simp only [h1, h2, decide_true]
      by_cases he : sz (mag b) = sz (mag a)
      · rw [he] at bb ⊢
        refine Lt2.tail (digs_lt _ _ _ ?_).2
        rw [Nat.mod_eq_of_lt bb, Nat.mod_eq_of_lt ba]; exact hm
      · refine Lt2.head _ _ ?_
        simp; omega
    · rw [if_pos h1, if_neg h2]
      refine Lt2.head _ _ ?_
      simp; omega
  · have h2 : ¬ b < 0 := by omega
    have hm : mag a < mag b := by unfold mag; rw [if_neg h1, if_neg h2]; omega
    have hs := sz_mono (Nat.le_of_lt hm) (by omega)
    rw [if_neg h1, if_neg h2]
    simp only [h1, h2, decide_false]
    by_cases he : sz (mag a) = sz (mag b)
    · rw [he] at ba ⊢
      refine Lt2.tail (digs_lt _ _ _ ?_).1
      rw [Nat.mod_eq_of_lt bb, Nat.mod_eq_of_lt ba]; exact hm
    · refine Lt2.head _ _ ?_
      simp; omega

theorem orders_int : Orders encInt cmpN In64 := by
  intro a b ha hb
  unfold cmpN
  by_cases h1 : a < b
  · rw [if_pos h1]; exact .inr (.inl ⟨rfl, by omega, encInt_lt ha hb h1⟩)
  · by_cases h2 : b < a
    · rw [if_neg h1, if_pos h2]; exact .inr (.inr ⟨rfl, by omega, encInt_lt hb ha h2⟩)
    · rw [if_neg h1, if_neg h2]; exact .inl ⟨rfl, by omega⟩

theorem encText_lt : ∀ (a b : List UInt8), Op.bytesLess a b = true → Lt2 (encText a) (encText b)
  | [], [], h => by simp [Op.bytesLess] at h
  | [], y :: b, _ => by
    unfold encText
    simp only [List.flatMap_nil, List.nil_append, List.flatMap_cons, List.append_assoc]
    unfold esc
    split
    · exact .inr ⟨rfl, .inl (by decide)⟩
    · rename_i hy
      refine .inl ?_
      have : y.toNat ≠ 0 := fun e => hy (UInt8.toNat_inj.1 e)
      show 0 < y.toNat
      omega
  | _ :: _, [], h => by simp [Op.bytesLess] at h
  | x :: a, y :: b, h => by
    have ex : encText (x :: a) = esc x ++ encText a := by simp [encText]
    have ey : encText (y :: b) = esc y ++ encText b := by simp [encText]
    rw [ex, ey]
    simp only [Op.bytesLess, Bool.or_eq_true, decide_eq_true_eq, Bool.and_eq_true, beq_iff_eq] at h
    rcases h with h | ⟨rfl, h⟩
    · have hlt : x.toNat < y.toNat := h
      have hy : y ≠ 0 := by intro e; subst e; simp at hlt
      have ey2 : esc y = [y] := by unfold esc; rw [if_neg hy]
      rw [ey2]
      unfold esc
      split
      · rename_i hx; subst hx
        exact .inl hlt
      · exact .inl hlt
    · exact (encText_lt a b h).pre _

theorem orders_text : Orders encText cmpT (fun _ => True) := by
  intro a b _ _
  unfold cmpT
  by_cases h1 : Op.bytesLess a b = true
  · rw [if_pos h1]
    have := encText_lt a b h1
    exact .inr (.inl ⟨rfl, fun e => by subst e; exact this.less.2.2 rfl, this⟩)
  · by_cases h2 : a = b
    · rw [if_neg h1, if_pos h2]; exact .inl ⟨rfl, h2⟩
    · rw [if_neg h1, if_neg h2]
      rcases less_total a b with h | h | h
      · exact absurd h h1
      · exact absurd h h2
      · exact .inr (.inr ⟨rfl, h2, encText_lt b a h⟩)

theorem orders_list {α : Type} [DecidableEq α] {enc : α → List UInt8} {cmp : α → α → Int} {ok : α → Prop} (h : Orders enc cmp ok) :
    Orders (fun l => l.flatMap (fun x => 1 :: enc x) ++ [0]) (cmpL cmp) (fun l => ∀ x ∈ l, ok x) := by
  intro a
  induction a with
  | nil =>
    intro b _ _
    cases b with
    | nil => exact .inl ⟨rfl, rfl⟩
    | cons y b =>
      refine .inr (.inl ⟨rfl, by simp, ?_⟩)
      simp only [List.flatMap_nil, List.nil_append, List.flatMap_cons, List.cons_append]
      exact .inl (by decide)
  | cons x a ih =>
    intro b ha hb
    cases b with
    | nil =>
      refine .inr (.inr ⟨rfl, by simp, ?_⟩)
      simp only [List.flatMap_nil, List.nil_append, List.flatMap_cons, List.cons_append]
      exact .inl (by decide)
    | cons y b =>
      by_cases hxy : x = y
      · subst hxy
        have e1 : cmpL cmp (x :: a) (x :: b) = cmpL cmp a b := by simp [cmpL]
        rw [e1]
        rcases ih b (fun z hz => ha z (by simp [hz])) (fun z hz => hb z (by simp [hz])) with ⟨h1, h2⟩ | ⟨h1, h2, h3⟩ | ⟨h1, h2, h3⟩
        · exact .inl ⟨h1, by rw [h2]⟩
        · refine .inr (.inl ⟨h1, fun e => h2 (List.cons.inj e).2, ?_⟩)
          simp only [List.flatMap_cons, List.append_assoc]
          exact h3.pre _
        · refine .inr (.inr ⟨h1, fun e => h2 (List.cons.inj e).2, ?_⟩)
          simp only [List.flatMap_cons, List.append_assoc]
          exact h3.pre _
      · have e1 : cmpL cmp (x :: a) (y :: b) = cmp x y := by simp [cmpL, hxy]
        rw [e1]
        rcases h x y (ha x (by simp)) (hb y (by simp)) with ⟨h1, h2⟩ | ⟨h1, h2, h3⟩ | ⟨h1, h2, h3⟩
        · exact absurd h2 hxy
        · refine .inr (.inl ⟨h1, fun e => h2 (List.cons.inj e).1, ?_⟩)
          simp only [List.flatMap_cons, List.append_assoc, List.cons_append]
          exact (h3.suf _ _).tail
        · refine .inr (.inr ⟨h1, fun e => h2 (List.cons.inj e).1, ?_⟩)
          simp only [List.flatMap_cons, List.append_assoc, List.cons_append]
          exact (h3.suf _ _).tail

/-- the order of two values, by the kind of the first one -/
def cmpV (a b : Val) : Int := if kd a = 0 then cmpN a.n b.n else if kd a = 1 then cmpT a.s.data.toList b.s.data.toList else if kd a = 2 then cmpL cmpN a.l b.l else cmpL cmpT (a.t.map fun x => x.data.toList) (b.t.map fun x => x.data.toList)

theorem encNums_map (l : List Int) : encNums l = l.flatMap (fun x => 1 :: encInt x) ++ [0] := rfl
theorem encTexts_map (l : List ByteArray) : encTexts l = (l.map fun x => x.data.toList).flatMap (fun x => 1 :: encText x) ++ [0] := by
  unfold encTexts
  rw [List.flatMap_map]

theorem cmpV_law (a b : Val) (hk : kd a = kd b) (ha : In64 a.n) (hb : In64 b.n) (hla : ∀ x ∈ a.l, In64 x) (hlb : ∀ x ∈ b.l, In64 x) :
    (cmpV a b = 0 ∧ encVal a = encVal b) ∨ (cmpV a b = -1 ∧ Lt2 (encVal a) (encVal b)) ∨ (cmpV a b = 1 ∧ Lt2 (encVal b) (encVal a)) := by
  unfold cmpV encVal
  rw [← hk]
  by_cases h0 : kd a = 0
  · rw [if_pos h0, if_pos h0, if_pos h0]
    rcases orders_int a.n b.n ha hb with ⟨h1, h2⟩ | ⟨h1, -, h3⟩ | ⟨h1, -, h3⟩
    · exact .inl ⟨h1, by rw [h2]⟩
    · exact .inr (.inl ⟨h1, h3⟩)
    · exact .inr (.inr ⟨h1, h3⟩)
  · rw [if_neg h0, if_neg h0, if_neg h0]
    by_cases h1 : kd a = 1
    · rw [if_pos h1, if_pos h1, if_pos h1]
      rcases orders_text a.s.data.toList b.s.data.toList trivial trivial with ⟨h1, h2⟩ | ⟨h1, -, h3⟩ | ⟨h1, -, h3⟩
      · exact .inl ⟨h1, by rw [h2]⟩
      · exact .inr (.inl ⟨h1, h3⟩)
      · exact .inr (.inr ⟨h1, h3⟩)
    · rw [if_neg h1, if_neg h1, if_neg h1]
      by_cases h2 : kd a = 2
      · rw [if_pos h2, if_pos h2, if_pos h2, encNums_map, encNums_map]
        rcases orders_list orders_int a.l b.l hla hlb with ⟨h1, h2⟩ | ⟨h1, -, h3⟩ | ⟨h1, -, h3⟩
        · exact .inl ⟨h1, by rw [h2]⟩
        · exact .inr (.inl ⟨h1, h3⟩)
        · exact .inr (.inr ⟨h1, h3⟩)
      · rw [if_neg h2, if_neg h2, if_neg h2, encTexts_map, encTexts_map]
        rcases orders_list orders_text (a.t.map fun x => x.data.toList) (b.t.map fun x => x.data.toList) (fun _ _ => trivial) (fun _ _ => trivial) with ⟨h1, h2⟩ | ⟨h1, -, h3⟩ | ⟨h1, -, h3⟩
        · exact .inl ⟨h1, by rw [h2]⟩
        · exact .inr (.inl ⟨h1, h3⟩)
        · exact .inr (.inr ⟨h1, h3⟩)

theorem encAll_split (l : List Val) (i : Nat) (h : i < l.length) : encAll l = encAll (l.take i) ++ (encVal l[i] ++ encAll (l.drop (i + 1))) := by
  have : l = l.take i ++ l[i] :: l.drop (i + 1) := by rw [← List.drop_eq_getElem_cons h, List.take_append_drop]
  conv => lhs; rw [this]
  unfold encAll
  rw [List.flatMap_append, List.flatMap_cons]
theorem encAll_lt {a b : List Val} {i : Nat} (ha : i < a.length) (hb : i < b.length) (hp : encAll (a.take i) = encAll (b.take i)) (h : Lt2 (encVal a[i]) (encVal b[i])) : Lt2 (encAll a) (encAll b) := by
  rw [encAll_split a i ha, encAll_split b i hb, hp]
  exact (h.suf _ _).pre _
theorem encAll_prefix {a b : List Val} (hl : a.length ≤ b.length) (hp : encAll (a.take a.length) = encAll (b.take a.length)) : encAll a <+: encAll b := by
  rw [List.take_length] at hp
  have : b = b.take a.length ++ b.drop a.length := (List.take_append_drop _ _).symm
  refine ⟨encAll (b.drop a.length), ?_⟩
  conv => rhs; rw [this]
  unfold encAll at *
  rw [List.flatMap_append, hp]
end Go.Proofs.YtiopehgghlfmgaaDoor
