/- The plain functions of the layer: the water of a day. -/
import Derived.Test.YtjikehjhmjfhfaaBase
import Derived.Test.YtjikehjhmjfhfaaPlain
namespace Go.Proofs.Ytjikehjhmjfhfaa

/-- the sum, which stops at the ends of int -/
def addS (a b : Int) : Int := if a + b < -9223372036854775808 then -9223372036854775808 else if 9223372036854775807 < a + b then 9223372036854775807 else a + b
theorem addS_lo {a b : Int} (h : a + b < -9223372036854775808) : addS a b = -9223372036854775808 := by unfold addS; rw [if_pos h]
theorem addS_hi {a b : Int} (h : 9223372036854775807 < a + b) : addS a b = 9223372036854775807 := by unfold addS; rw [if_neg (by omega), if_pos h]
theorem addS_in {a b : Int} (h : ¬ a + b < -9223372036854775808) (h2 : ¬ 9223372036854775807 < a + b) : addS a b = a + b := by unfold addS; rw [if_neg h, if_neg h2]
theorem addS_64 {a b : Int} : In64 (addS a b) := by unfold addS In64; split <;> (try split) <;> omega

/-- volumes: not negative -/
def Vols (n : Nat) (l : List Int) : Prop := l.length = n ∧ ∀ k, 0 ≤ nth l k ∧ nth l k ≤ 9223372036854775807
theorem Vols.in64 {n : Nat} {l : List Int} (h : Vols n l) : ∀ x ∈ l, In64 x := by
  intro x hx
  obtain ⟨k, hk, rfl⟩ := List.getElem_of_mem hx
  have := h.2 k
  rw [nth_eq l k hk] at this
  unfold In64; omega

theorem nth_set (l : List Int) (i k : Nat) (x : Int) : nth (l.set i x) k = if i = k ∧ k < l.length then x else nth l k := by
  unfold nth
  rw [List.getElem?_set]
  by_cases h : i = k
  · subst h
    by_cases hl : i < l.length
    · simp [hl]
    · simp [hl]
  · simp [h]
theorem nth_replicate (n k : Nat) : nth (List.replicate n 0) k = 0 := by
  unfold nth
  rw [List.getElem?_replicate]
  split <;> rfl

def addAt (s : Int) (left : List Int) (q : Int) : List Int := left.set q.toNat (addS (nth left q.toNat) s)
def subAt (n : Int) (left : List Int) (q : Int) : List Int := left.set q.toNat (nth left q.toNat - n)
def addAll (s : Int) (l : List Int) (left : List Int) : List Int := l.foldl (addAt s) left
def subAll (n : Int) (l : List Int) (left : List Int) : List Int := l.foldl (subAt n) left
def supplyStep (pl : List Pl) (supply : List Int) (left : List Int) (p : Nat) : List Int :=
  if supply.length ≤ p ∨ nth supply p < 0 then left else addAll (nth supply p) (reach pl p) left
def fill (pl : List Pl) (supply : List Int) (k : Nat) : List Int := (List.range k).foldl (supplyStep pl supply) (List.replicate pl.length 0)
theorem fill_succ (pl : List Pl) (supply : List Int) (k : Nat) : fill pl supply (k + 1) = supplyStep pl supply (fill pl supply k) k := by
  simp [fill, List.range_succ]

theorem addAll_snoc (s : Int) (l : List Int) (q : Int) (left : List Int) : addAll s (l ++ [q]) left = addAt s (addAll s l left) q := by simp [addAll]
theorem subAll_snoc (s : Int) (l : List Int) (q : Int) (left : List Int) : subAll s (l ++ [q]) left = subAt s (subAll s l left) q := by simp [subAll]

theorem Vols.add {n : Nat} {left : List Int} (h : Vols n left) {s : Int} (hs : 0 ≤ s) (q : Int) : Vols n (addAt s left q) := by
  refine ⟨by simp [addAt, h.1], fun k => ?_⟩
  unfold addAt
  rw [nth_set]
  have h1 := h.2 q.toNat
  have h2 := h.2 k
  have h3 := @addS_64 (nth left q.toNat) s
  split
  · unfold In64 at h3
    refine ⟨?_, by omega⟩
    unfold addS
    (repeat' split) <;> omega
  · exact h2
theorem Vols.addAll {n : Nat} {s : Int} (hs : 0 ≤ s) : ∀ (l : List Int) {left : List Int}, Vols n left → Vols n (addAll s l left)
  | [], _, h => h
  | q :: l, _, h => Vols.addAll hs l (h.add hs q)
theorem Vols.fill (pl : List Pl) (supply : List Int) : ∀ k, Vols pl.length (fill pl supply k)
  | 0 => ⟨by simp [Ytjikehjhmjfhfaa.fill], fun k => by simp [Ytjikehjhmjfhfaa.fill, nth_replicate]⟩
  | k + 1 => by
    rw [fill_succ]
    unfold supplyStep
    split
    · exact Vols.fill pl supply k
    · exact Vols.addAll (by omega) _ (Vols.fill pl supply k)

/-- the least of a number and of what is left -/
def least (n : Int) (left : List Int) (l : List Int) : Int := l.foldl (fun n q => min n (nth left q.toNat)) n
theorem least_snoc (n : Int) (left l : List Int) (q : Int) : least n left (l ++ [q]) = min (least n left l) (nth left q.toNat) := by simp [least]
theorem least_le (left : List Int) : ∀ (l : List Int) (n : Int), least n left l ≤ n ∧ ∀ q ∈ l, least n left l ≤ nth left q.toNat
  | [], n => by simp [least]
  | q :: l, n => by
    have h := least_le left l (min n (nth left q.toNat))
    simp only [least, List.foldl_cons] at h ⊢
    refine ⟨by have := h.1; omega, fun x hx => ?_⟩
    rcases List.mem_cons.1 hx with rfl | hx
    · have := h.1; omega
    · exact h.2 x hx
theorem least_ge (left : List Int) (m : Int) : ∀ (l : List Int) (n : Int), m ≤ n → (∀ q ∈ l, m ≤ nth left q.toNat) → m ≤ least n left l
  | [], n, h, _ => by simpa [least] using h
  | q :: l, n, h, h2 => by
    have := least_ge left m l (min n (nth left q.toNat)) (by have := h2 q (by simp); omega) (fun x hx => h2 x (by simp [hx]))
    simpa [least] using this
/-- it is one of them -/
theorem least_is (left : List Int) : ∀ (l : List Int) (n : Int), least n left l = n ∨ ∃ q ∈ l, least n left l = nth left q.toNat
  | [], n => by simp [least]
  | q :: l, n => by
    have h := least_is left l (min n (nth left q.toNat))
    simp only [least, List.foldl_cons] at h ⊢
    rcases h with h | ⟨x, hx, h⟩
    · rw [h]
      by_cases hm : n ≤ nth left q.toNat
      · exact .inl (by omega)
      · exact .inr ⟨q, by simp, by omega⟩
    · exact .inr ⟨x, by simp [hx], h⟩

/-- a right -/
structure Rt where
  id : Int
  owner : Int
  date : Int
  place : Int
  rate : Int
  begins : Int
  ends : Int
  back : Int
  backTo : Int

def grant (pl : List Pl) (left : List Int) (r : Rt) : Int := if reach pl r.place = [] then 0 else max 0 (least r.rate left (reach pl r.place))
def dayStep (pl : List Pl) (st : List (Int × Int) × List Int) (r : Rt) : List (Int × Int) × List Int :=
  (st.1 ++ [(r.id, grant pl st.2 r)], subAll (grant pl st.2 r) (reach pl r.place) st.2)
def dayFrom (pl : List Pl) (roster : List Rt) (left : List Int) : List (Int × Int) × List Int := roster.foldl (dayStep pl) ([], left)
def day (pl : List Pl) (roster : List Rt) (supply : List Int) : List (Int × Int) × List Int := dayFrom pl roster (fill pl supply pl.length)

theorem subAll_length (n : Int) : ∀ (l left : List Int), (subAll n l left).length = left.length
  | [], _ => rfl
  | q :: l, left => by
    have := subAll_length n l (subAt n left q)
    simp only [subAll, List.foldl_cons] at this ⊢
    rw [this]; simp [subAt]

/-- what the subtraction leaves at a place -/
theorem subAll_nth (n : Int) : ∀ (l left : List Int), l.Nodup → (∀ x ∈ l, 0 ≤ x ∧ x < left.length) → ∀ k, nth (subAll n l left) k = nth left k - (if (k : Int) ∈ l then n else 0)
  | [], left, _, _, k => by simp [subAll]
  | q :: l, left, hn, hb, k => by
    have hq := hb q (by simp)
    have h := subAll_nth n l (subAt n left q) (List.nodup_cons.1 hn).2 (fun x hx => by have := hb x (by simp [hx]); simpa [subAt] using this) k
    simp only [subAll, List.foldl_cons] at h ⊢
    rw [h]
    unfold subAt
    rw [nth_set]
    by_cases hk : q.toNat = k
    · have e : q = (k : Int) := by omega
      subst e
      have hnm := (List.nodup_cons.1 hn).1
      simp [hnm]
      intro hh; omega
    · have hne : ¬ (k : Int) = q := by omega
      simp [hk, hne]

theorem Ways.nodup_take {n : Nat} {l : List Int} (h : Ways n l) (j : Nat) : Ways n (l.take j) :=
  ⟨h.1.sublist (List.take_sublist _ _), fun x hx => h.2 x (List.mem_of_mem_take hx)⟩

theorem Vols.sub {n : Nat} {left l : List Int} {g : Int} (h : Vols n left) (hw : Ways n l) (h0 : 0 ≤ g) (hg : ∀ q ∈ l, g ≤ nth left q.toNat) : Vols n (subAll g l left) := by
  refine ⟨by rw [subAll_length, h.1], fun k => ?_⟩
  rw [subAll_nth g l left hw.1 (by rw [h.1]; exact hw.2)]
  have h1 := h.2 k
  split
  · rename_i hm
    have := hg _ hm
    simp at this
    omega
  · omega

theorem reachGo_ways {pl : List Pl} : ∀ (f : Nat) (out : List Int) (p : Int), Ways pl.length out → Ways pl.length (reachGo pl f out p)
  | 0, _, _, h => h
  | f + 1, out, p, h => by
    unfold reachGo
    split
    · rename_i hp
      split
      · exact h
      · rename_i hn
        have h2 := h.snoc hp.1 (by omega) (by rwa [Bool.not_eq_true] at hn)
        split
        · exact h2
        · exact reachGo_ways f _ _ h2
    · exact h
theorem reach_ways (pl : List Pl) (p : Int) : Ways pl.length (reach pl p) := reachGo_ways _ _ _ (Ways.nil _)

theorem grant_ge (pl : List Pl) (left : List Int) (r : Rt) : 0 ≤ grant pl left r := by unfold grant; split <;> omega
theorem grant_le {pl : List Pl} {left : List Int} (h : Vols pl.length left) (r : Rt) : ∀ q ∈ reach pl r.place, grant pl left r ≤ nth left q.toNat := by
  intro q hq
  unfold grant
  split
  · exact (h.2 _).1
  · have := (least_le left (reach pl r.place) r.rate).2 q hq
    have := (h.2 q.toNat).1
    omega
theorem grant_64 {pl : List Pl} {left : List Int} (h : Vols pl.length left) (r : Rt) : grant pl left r ≤ 9223372036854775807 := by
  by_cases hr : reach pl r.place = []
  · simp [grant, hr]
  · obtain ⟨q, hq⟩ := List.exists_mem_of_ne_nil _ hr
    have := grant_le h r q hq
    have := (h.2 q.toNat).2
    omega

theorem Vols.dayStep {pl : List Pl} {st : List (Int × Int) × List Int} (h : Vols pl.length st.2) (r : Rt) : Vols pl.length (dayStep pl st r).2 :=
  h.sub (reach_ways pl r.place) (grant_ge pl st.2 r) (grant_le h r)
theorem dayFrom_snoc (pl : List Pl) (l : List Rt) (r : Rt) (left : List Int) : dayFrom pl (l ++ [r]) left = dayStep pl (dayFrom pl l left) r := by simp [dayFrom]
theorem Vols.dayFold {pl : List Pl} : ∀ (l : List Rt) {st : List (Int × Int) × List Int}, Vols pl.length st.2 → Vols pl.length (l.foldl (Ytjikehjhmjfhfaa.dayStep pl) st).2
  | [], _, h => h
  | r :: l, _, h => Vols.dayFold l (Vols.dayStep h r)
theorem Vols.dayFrom {pl : List Pl} {left : List Int} (h : Vols pl.length left) (l : List Rt) : Vols pl.length (dayFrom pl l left).2 := Vols.dayFold (st := ([], left)) l h
theorem dayFold_length (pl : List Pl) : ∀ (l : List Rt) (st : List (Int × Int) × List Int), (l.foldl (dayStep pl) st).1.length = st.1.length + l.length
  | [], _ => rfl
  | r :: l, st => by
    rw [List.foldl_cons, dayFold_length pl l]
    simp [dayStep]
    omega
theorem dayFrom_length (pl : List Pl) (l : List Rt) (left : List Int) : (dayFrom pl l left).1.length = l.length := by
  unfold dayFrom; rw [dayFold_length]; simp

/-- what is left at the next place of a reach is enough -/
theorem sub_at {n : Nat} {left l : List Int} {g : Int} (h : Vols n left) (hw : Ways n l) (_h0 : 0 ≤ g) (hg : ∀ q ∈ l, g ≤ nth left q.toNat) {j : Nat} (hj : j < l.length) :
    g ≤ nth (subAll g (l.take j) left) (nth l j).toNat ∧ nth (subAll g (l.take j) left) (nth l j).toNat ≤ 9223372036854775807 := by
  have hm : l[j] ∈ l := List.getElem_mem hj
  have hq := hw.2 _ hm
  rw [nth_eq l j hj, subAll_nth g _ left (hw.nodup_take j).1 (by rw [h.1]; exact (hw.nodup_take j).2)]
  have hnot : ¬ ((l[j].toNat : Nat) : Int) ∈ l.take j := by
    rw [Int.toNat_of_nonneg hq.1]
    intro hc
    obtain ⟨i, hi, e⟩ := List.getElem_of_mem hc
    rw [List.getElem_take] at e
    simp at hi
    have hp := (List.nodup_iff_pairwise_ne.1 hw.1)
    have := List.pairwise_iff_getElem.1 hp i j (by omega) hj (by omega)
    exact this e
  rw [if_neg hnot]
  have h1 := hg _ hm
  have h2 := h.2 l[j].toNat
  omega
def thereN (pl : List Pl) (supply : List Int) (q : Int) : Nat → Int
  | 0 => 0
  | k + 1 => if (reach pl k).any (fun x => x == q) = true ∧ 0 < nth supply k then addS (thereN pl supply q k) (nth supply k) else thereN pl supply q k
theorem thereN_yes {pl : List Pl} {supply : List Int} {q : Int} {k : Nat} (h : (reach pl k).any (fun x => x == q) = true) (h2 : 0 < nth supply k) : thereN pl supply q (k + 1) = addS (thereN pl supply q k) (nth supply k) := by
  rw [thereN, if_pos ⟨h, h2⟩]
theorem thereN_no {pl : List Pl} {supply : List Int} {q : Int} {k : Nat} (h : ¬ ((reach pl k).any (fun x => x == q) = true ∧ 0 < nth supply k)) : thereN pl supply q (k + 1) = thereN pl supply q k := by
  rw [thereN, if_neg h]
def there (pl : List Pl) (supply : List Int) (q : Int) : Int := thereN pl supply q (min pl.length supply.length)

theorem thereN_bd (pl : List Pl) (supply : List Int) (q : Int) : ∀ k, 0 ≤ thereN pl supply q k ∧ thereN pl supply q k ≤ 9223372036854775807
  | 0 => by simp [thereN]
  | k + 1 => by
    have ih := thereN_bd pl supply q k
    rw [thereN]
    split
    · have := @addS_64 (thereN pl supply q k) (nth supply k)
      unfold In64 at this
      refine ⟨?_, this.2⟩
      unfold addS
      (repeat' split) <;> omega
    · exact ih

theorem addAll_nth (s : Int) : ∀ (l left : List Int), l.Nodup → (∀ x ∈ l, 0 ≤ x ∧ x < left.length) → ∀ k, nth (addAll s l left) k = if (k : Int) ∈ l then addS (nth left k) s else nth left k
  | [], left, _, _, k => by simp [addAll]
  | q :: l, left, hn, hb, k => by
    have hq := hb q (by simp)
    have h := addAll_nth s l (addAt s left q) (List.nodup_cons.1 hn).2 (fun x hx => by have := hb x (by simp [hx]); simpa [addAt] using this) k
    simp only [addAll, List.foldl_cons] at h ⊢
    rw [h]
    unfold addAt
    rw [nth_set]
    by_cases hk : q.toNat = k
    · have e : q = (k : Int) := by omega
      subst e
      have hnm := (List.nodup_cons.1 hn).1
      simp [hnm]
      intro hh; omega
    · have hne : ¬ (k : Int) = q := by omega
      simp [hk, hne]

theorem nth_out {l : List Int} {k : Nat} (h : l.length ≤ k) : nth l k = 0 := by unfold nth; rw [List.getElem?_eq_none h]; rfl

theorem fill_nth (pl : List Pl) (supply : List Int) (q : Nat) : ∀ k, nth (fill pl supply k) q = thereN pl supply q k
  | 0 => by simp [fill, thereN, nth_replicate]
  | k + 1 => by
    have ih := fill_nth pl supply q k
    rw [fill_succ, supplyStep]
    have hb := thereN_bd pl supply q k
    split
    · rename_i h
      rw [ih, thereN_no]
      rintro ⟨-, h2⟩
      rcases h with h | h
      · rw [nth_out h] at h2; omega
      · omega
    · rename_i h
      have hw := reach_ways pl k
      rw [addAll_nth _ _ _ hw.1 (by rw [(Vols.fill pl supply k).1]; exact hw.2), ih]
      by_cases hm : (q : Int) ∈ reach pl k
      · rw [if_pos hm]
        have ha : (reach pl k).any (fun x => x == (q : Int)) = true := by simpa using hm
        by_cases h0 : 0 < nth supply k
        · rw [thereN_yes ha h0]
        · rw [thereN_no (fun h => h0 h.2)]
          have : nth supply k = 0 := by omega
          rw [this]
          unfold addS
          rw [if_neg (by omega), if_neg (by omega)]
          omega
      · rw [if_neg hm, thereN_no]
        rintro ⟨ha, -⟩
        exact hm (by simpa using ha)

theorem thereN_end (pl : List Pl) (supply : List Int) (q : Int) (k : Nat) (h : supply.length ≤ k) : ∀ n, thereN pl supply q (k + n) = thereN pl supply q k
  | 0 => rfl
  | n + 1 => by
    rw [← Nat.add_assoc, thereN_no, thereN_end pl supply q k h n]
    rintro ⟨-, h2⟩
    rw [nth_out (by omega)] at h2
    omega
theorem fill_there (pl : List Pl) (supply : List Int) (q : Nat) : nth (fill pl supply pl.length) q = there pl supply q := by
  rw [fill_nth, there]
  by_cases h : pl.length ≤ supply.length
  · rw [Nat.min_eq_left h]
  · rw [Nat.min_eq_right (by omega), show pl.length = supply.length + (pl.length - supply.length) by omega, thereN_end _ _ _ _ (Nat.le_refl _)]
theorem fill_eq (pl : List Pl) (supply : List Int) : fill pl supply pl.length = (List.range pl.length).map (fun q => there pl supply (q : Nat)) := by
  apply List.ext_getElem
  · simp [(Vols.fill pl supply pl.length).1]
  · intro k h1 h2
    have := fill_there pl supply k
    rw [nth_eq _ _ h1] at this
    simpa using this
end Go.Proofs.Ytjikehjhmjfhfaa
