/- The plain laws behind AllotAside and AllotBacks. -/
import Derived.Test.YtjikehjhmjfhfaaPlain3
import Derived.Test.YtjikehjhmjfhfaaW14
namespace Go.Proofs.Ytjikehjhmjfhfaa

/-! ### the rights whose reaches are marked -/
/-- a right with a marked place in its reach -/
def sel (pl : List Pl) (mk : Int → Bool) (r : Rt) : Bool := (reach pl r.place).any mk
/-- the reach of a right is marked or is not -/
def Fair (pl : List Pl) (mk : Int → Bool) (r : Rt) : Prop := sel pl mk r = true → ∀ q ∈ reach pl r.place, mk q = true

def some' (pl : List Pl) (mk : Int → Bool) (rs : List Rt) : List Rt := rs.filter (sel pl mk)
def idxs (pl : List Pl) (mk : Int → Bool) (rs : List Rt) : Nat → List Nat
  | 0 => []
  | i + 1 => match rs[i]? with
    | some r => if sel pl mk r = true then idxs pl mk rs i ++ [i] else idxs pl mk rs i
    | none => idxs pl mk rs i
theorem some_yes {pl : List Pl} {mk : Int → Bool} {rs : List Rt} {i : Nat} (h : i < rs.length) (hs : sel pl mk rs[i] = true) : some' pl mk (rs.take (i + 1)) = some' pl mk (rs.take i) ++ [rs[i]] := by
  unfold some'; rw [take_snoc' _ i h, List.filter_append]; simp [hs]
theorem some_no {pl : List Pl} {mk : Int → Bool} {rs : List Rt} {i : Nat} (h : i < rs.length) (hs : sel pl mk rs[i] = false) : some' pl mk (rs.take (i + 1)) = some' pl mk (rs.take i) := by
  unfold some'; rw [take_snoc' _ i h, List.filter_append]; simp [hs]
theorem idxs_yes {pl : List Pl} {mk : Int → Bool} {rs : List Rt} {i : Nat} (h : i < rs.length) (hs : sel pl mk rs[i] = true) : idxs pl mk rs (i + 1) = idxs pl mk rs i ++ [i] := by
  rw [idxs, List.getElem?_eq_getElem h]; simp [hs]
theorem idxs_no {pl : List Pl} {mk : Int → Bool} {rs : List Rt} {i : Nat} (h : i < rs.length) (hs : sel pl mk rs[i] = false) : idxs pl mk rs (i + 1) = idxs pl mk rs i := by
  rw [idxs, List.getElem?_eq_getElem h]; simp [hs]
theorem idxs_lt (pl : List Pl) (mk : Int → Bool) (rs : List Rt) : ∀ i, ∀ k ∈ idxs pl mk rs i, k < i
  | 0, k, h => by simp [idxs] at h
  | i + 1, k, h => by
    have ih := idxs_lt pl mk rs i
    rw [idxs] at h
    split at h
    · split at h
      · simp at h
        rcases h with h | rfl
        · have := ih k h; omega
        · omega
      · have := ih k h; omega
    · have := ih k h; omega
theorem idxs_length (pl : List Pl) (mk : Int → Bool) (rs : List Rt) : ∀ i, i ≤ rs.length → (idxs pl mk rs i).length = (some' pl mk (rs.take i)).length
  | 0, _ => by simp [idxs, some']
  | i + 1, h => by
    have ih := idxs_length pl mk rs i (by omega)
    cases hs : sel pl mk rs[i] with
    | true => rw [idxs_yes (by omega) hs, some_yes (by omega) hs]; simp [ih]
    | false => rw [idxs_no (by omega) hs, some_no (by omega) hs, ih]

theorem least_congr {l1 l2 : List Int} : ∀ (l : List Int) (n : Int), (∀ q ∈ l, nth l1 q.toNat = nth l2 q.toNat) → least n l1 l = least n l2 l
  | [], n, _ => rfl
  | q :: l, n, h => by
    have := least_congr l (min n (nth l1 q.toNat)) (fun x hx => h x (by simp [hx]))
    simp only [least, List.foldl_cons] at this ⊢
    rw [this, h q (by simp)]
theorem grant_congr {pl : List Pl} {l1 l2 : List Int} (r : Rt) (h : ∀ q ∈ reach pl r.place, nth l1 q.toNat = nth l2 q.toNat) : grant pl l1 r = grant pl l2 r := by
  unfold grant
  rw [least_congr _ _ h]

theorem aside {pl : List Pl} {mk : Int → Bool} {rs : List Rt} {supply : List Int} (hf : ∀ r ∈ rs, Fair pl mk r) : ∀ i, i ≤ rs.length →
    (∀ q : Nat, mk q = true → nth (dayFrom pl (some' pl mk (rs.take i)) (fill pl supply pl.length)).2 q = nth (leftAt pl rs supply i) q) ∧
    (dayFrom pl (some' pl mk (rs.take i)) (fill pl supply pl.length)).1 = (idxs pl mk rs i).filterMap (fun k => (day pl rs supply).1[k]?)
  | 0, _ => by simp [some', idxs, dayFrom, leftAt]
  | i + 1, h => by
    obtain ⟨ih1, ih2⟩ := aside (supply := supply) hf i (by omega)
    have hi : i < rs.length := by omega
    have hw := reach_ways pl rs[i].place
    cases hs : sel pl mk rs[i] with
    | true =>
      have hall := hf rs[i] (List.getElem_mem hi) hs
      have hgr : grant pl (dayFrom pl (some' pl mk (rs.take i)) (fill pl supply pl.length)).2 rs[i] = grant pl (leftAt pl rs supply i) rs[i] :=
        grant_congr _ (fun q hq => by
          have hb := hw.2 q hq
          refine ih1 q.toNat ?_
          rw [Int.toNat_of_nonneg hb.1]; exact hall q hq)
      rw [some_yes hi hs, idxs_yes hi hs, dayFrom_snoc]
      simp only [dayStep, hgr]
      refine ⟨fun q hq => ?_, ?_⟩
      · rw [leftAt_succ hi, subAll_nth _ _ _ hw.1 (by rw [(Vols.dayFrom (Vols.fill pl supply pl.length) _).1]; exact hw.2),
          subAll_nth _ _ _ hw.1 (by rw [(leftAt_vols pl rs supply i).1]; exact hw.2), ih1 q hq]
      · rw [List.filterMap_append, ← ih2]
        simp [day_at hi]
    | false =>
      rw [some_no hi hs, idxs_no hi hs]
      refine ⟨fun q hq => ?_, ih2⟩
      rw [ih1 q hq, leftAt_nth hi, if_neg, Int.sub_zero]
      intro ha
      unfold sel at hs
      rw [List.any_eq_false] at hs
      rw [List.any_eq_true] at ha
      obtain ⟨x, hx, he⟩ := ha
      simp only [beq_iff_eq] at he
      subst he
      exact hs _ hx hq

theorem aside_at {pl : List Pl} {mk : Int → Bool} {rs : List Rt} {supply : List Int} (hf : ∀ r ∈ rs, Fair pl mk r) {j k : Nat} (hk : (idxs pl mk rs rs.length)[j]? = some k) :
    (day pl (some' pl mk rs) supply).1[j]? = (day pl rs supply).1[k]? := by
  have h := (aside (supply := supply) hf rs.length (Nat.le_refl _)).2
  rw [List.take_length] at h
  unfold day at h ⊢
  rw [h]
  have hall : ∀ x ∈ idxs pl mk rs rs.length, ∃ y, (dayFrom pl rs (fill pl supply pl.length)).1[x]? = some y := fun x hx => by
    have := idxs_lt pl mk rs _ x hx
    exact ⟨_, List.getElem?_eq_getElem (by rw [dayFrom_length]; exact this)⟩
  generalize idxs pl mk rs rs.length = l at *
  clear h
  induction l generalizing j with
  | nil => simp at hk
  | cons x l ih =>
    obtain ⟨y, hy⟩ := hall x (by simp)
    rw [List.filterMap_cons, hy]
    cases j with
    | zero => simp at hk; subst hk; simp [hy]
    | succ j => simpa using ih (by simpa using hk) (fun z hz => hall z (by simp [hz]))

/-! ### what returns -/
def Distinct (rs : List Rt) : Prop := ∀ i j (hi : i < rs.length) (hj : j < rs.length), rs[i].id = rs[j].id → i = j
theorem find_self {rs : List Rt} (h : Distinct rs) {i : Nat} (hi : i < rs.length) : find rs rs[i].id = some i :=
  find_some hi (fun j hj e => by have := h j i (by omega) hi e; omega) rfl

/-- the most that may return at a place of the first i rights -/
def most (pl : List Pl) (rs : List Rt) (supply : List Int) (q : Int) : Nat → Int
  | 0 => 0
  | i + 1 => match rs[i]? with
    | some r => if r.backTo = q ∧ 0 < r.back then addS (most pl rs supply q i) (grant pl (leftAt pl rs supply i) r) else most pl rs supply q i
    | none => most pl rs supply q i
theorem most_yes {pl : List Pl} {rs : List Rt} {supply : List Int} {q : Int} {i : Nat} (h : i < rs.length) (hy : rs[i].backTo = q ∧ 0 < rs[i].back) :
    most pl rs supply q (i + 1) = addS (most pl rs supply q i) (grant pl (leftAt pl rs supply i) rs[i]) := by rw [most, List.getElem?_eq_getElem h]; simp [hy]
theorem most_no {pl : List Pl} {rs : List Rt} {supply : List Int} {q : Int} {i : Nat} (h : i < rs.length) (hn : ¬ (rs[i].backTo = q ∧ 0 < rs[i].back)) :
    most pl rs supply q (i + 1) = most pl rs supply q i := by rw [most, List.getElem?_eq_getElem h]; simp only; rw [if_neg hn]
theorem addS_mono {a b c d : Int} (h1 : a ≤ c) (h2 : b ≤ d) : addS a b ≤ addS c d := by unfold addS; (repeat' split) <;> omega
theorem addS_nonneg {a b : Int} (h1 : 0 ≤ a) (h2 : 0 ≤ b) : 0 ≤ addS a b := by unfold addS; (repeat' split) <;> omega
theorem most_bd (pl : List Pl) (rs : List Rt) (supply : List Int) (q : Int) : ∀ i, i ≤ rs.length → 0 ≤ most pl rs supply q i ∧ most pl rs supply q i ≤ 9223372036854775807
  | 0, _ => by simp [most]
  | i + 1, h => by
    have ih := most_bd pl rs supply q i (by omega)
    by_cases hy : rs[i].backTo = q ∧ 0 < rs[i].back
    · rw [most_yes (by omega) hy]
      refine ⟨addS_nonneg ih.1 (grant_ge _ _ _), ?_⟩
      have := @addS_64 (most pl rs supply q i) (grant pl (leftAt pl rs supply i) rs[i])
      exact this.2
    · rw [most_no (by omega) hy]; exact ih
theorem share_le {n back : Int} (h : 0 ≤ n) : share n back ≤ n ∧ (back ≤ 0 → share n back = 0) := by
  have h1 := clampS_bd n (hi := 1125899906842624) (by omega)
  have h2 := clampS_bd back (hi := 1000) (by omega)
  have h3 : clampS n 0 1125899906842624 ≤ n := by unfold clampS; (repeat' split) <;> omega
  unfold share
  constructor
  · have h4 := Int.mul_le_mul_of_nonneg_left h2.2 h1.1
    omega
  · intro hb
    have : clampS back 0 1000 = 0 := by unfold clampS; (repeat' split) <;> omega
    rw [this]; omega
theorem back_most {pl : List Pl} {rs : List Rt} {supply : List Int} (hd : Distinct rs) (q : Nat) : ∀ i, i ≤ rs.length →
    nth (backFrom pl rs ((day pl rs supply).1.take i)) q ≤ most pl rs supply q i
  | 0, _ => by simp [backFrom, most, nth_replicate]
  | i + 1, h => by
    have ih := back_most (pl := pl) (supply := supply) hd q i (by omega)
    have hi : i < rs.length := by omega
    have hil : i < (day pl rs supply).1.length := by rw [day_length]; exact hi
    have hat := day_at (pl := pl) (supply := supply) hi
    rw [List.getElem?_eq_getElem hil, Option.some.injEq] at hat
    have hg0 := grant_ge pl (leftAt pl rs supply i) rs[i]
    have hsh := share_le (n := grant pl (leftAt pl rs supply i) rs[i]) (back := rs[i].back) hg0
    have hmb := most_bd pl rs supply q i (by omega)
    rw [take_snoc' _ i hil, backFrom_snoc, hat]
    unfold backStep
    rw [find_self hd hi]
    simp only [List.getElem?_eq_getElem hi]
    by_cases hp : isPlace pl rs[i].backTo = true
    · rw [if_pos hp]
      unfold addAt
      rw [nth_set]
      have hv := Vols.backFrom pl rs ((day pl rs supply).1.take i)
      by_cases hq : rs[i].backTo = (q : Int)
      · rw [hq, Int.toNat_natCast]
        have hql : q < (backFrom pl rs ((day pl rs supply).1.take i)).length := by
          rw [hv.1]; unfold isPlace at hp; rw [hq] at hp; simp at hp; exact hp
        rw [if_pos ⟨rfl, hql⟩]
        by_cases hb : 0 < rs[i].back
        · rw [most_yes hi ⟨hq, hb⟩]
          exact addS_mono ih hsh.1
        · rw [most_no hi (fun h => hb h.2), hsh.2 (by omega)]
          have := (hv.2 q)
          rw [addS_in (by omega) (by omega)]
          omega
      · rw [if_neg, most_no hi (fun h => hq h.1)]
        · exact ih
        · rintro ⟨h1, h2⟩
          unfold isPlace at hp
          simp at hp
          omega
    · rw [if_neg hp]
      by_cases hy : rs[i].backTo = (q : Int) ∧ 0 < rs[i].back
      · rw [most_yes hi hy]
        have := addS_mono (a := most pl rs supply q i) (b := 0) (Int.le_refl _) hg0
        rw [addS_in (by omega) (by omega)] at this
        omega
      · rw [most_no hi hy]; exact ih
end Go.Proofs.Ytjikehjhmjfhfaa
