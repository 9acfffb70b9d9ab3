/- What the grants of a day are: the plain laws. -/
import Derived.Test.YtjikehjhmjfhfaaPlain2
namespace Go.Proofs.Ytjikehjhmjfhfaa

/-- what is left after the first i rights -/
def leftAt (pl : List Pl) (rs : List Rt) (supply : List Int) (i : Nat) : List Int := (dayFrom pl (rs.take i) (fill pl supply pl.length)).2
theorem leftAt_vols (pl : List Pl) (rs : List Rt) (supply : List Int) (i : Nat) : Vols pl.length (leftAt pl rs supply i) := Vols.dayFrom (Vols.fill pl supply pl.length) _
theorem leftAt_succ {pl : List Pl} {rs : List Rt} {supply : List Int} {i : Nat} (h : i < rs.length) :
    leftAt pl rs supply (i + 1) = subAll (grant pl (leftAt pl rs supply i) rs[i]) (reach pl rs[i].place) (leftAt pl rs supply i) := by
  unfold leftAt
  rw [take_snoc' _ i h, dayFrom_snoc]
  rfl
theorem leftAt_nth {pl : List Pl} {rs : List Rt} {supply : List Int} {i : Nat} (h : i < rs.length) (q : Nat) :
    nth (leftAt pl rs supply (i + 1)) q = nth (leftAt pl rs supply i) q - if (reach pl rs[i].place).any (fun x => x == (q : Int)) = true then grant pl (leftAt pl rs supply i) rs[i] else 0 := by
  have hw := reach_ways pl rs[i].place
  rw [leftAt_succ h, subAll_nth _ _ _ hw.1 (by rw [(leftAt_vols pl rs supply i).1]; exact hw.2)]
  simp only [List.any_eq_true, beq_iff_eq, exists_eq_right]
theorem leftAt_le {pl : List Pl} {rs : List Rt} {supply : List Int} {i : Nat} (h : i < rs.length) (q : Nat) : nth (leftAt pl rs supply (i + 1)) q ≤ nth (leftAt pl rs supply i) q := by
  rw [leftAt_nth h]
  have := grant_ge pl (leftAt pl rs supply i) rs[i]
  split <;> omega
theorem leftAt_mono (pl : List Pl) (rs : List Rt) (supply : List Int) (q : Nat) (i : Nat) : ∀ n, i + n ≤ rs.length → nth (leftAt pl rs supply (i + n)) q ≤ nth (leftAt pl rs supply i) q
  | 0, _ => by simp
  | n + 1, h => by
    have h1 := leftAt_mono pl rs supply q i n (by omega)
    have h2 := leftAt_le (pl := pl) (supply := supply) (show i + n < rs.length by omega) q
    rw [← Nat.add_assoc]
    omega
theorem day_left (pl : List Pl) (rs : List Rt) (supply : List Int) : (day pl rs supply).2 = leftAt pl rs supply rs.length := by
  unfold leftAt day; rw [List.take_length]
theorem leftAt_zero (pl : List Pl) (rs : List Rt) (supply : List Int) : leftAt pl rs supply 0 = fill pl supply pl.length := by simp [leftAt, dayFrom]

/-- the grants, one by one -/
theorem fold_fst (pl : List Pl) : ∀ (l : List Rt) (st : List (Int × Int) × List Int) (k : Nat), k < st.1.length → (l.foldl (dayStep pl) st).1[k]? = st.1[k]?
  | [], st, k, _ => rfl
  | r :: l, st, k, h => by
    rw [List.foldl_cons, fold_fst pl l _ k (by simp [dayStep]; omega)]
    simp only [dayStep]
    rw [List.getElem?_append_left h]
theorem day_at {pl : List Pl} {rs : List Rt} {supply : List Int} {i : Nat} (h : i < rs.length) : (day pl rs supply).1[i]? = some (rs[i].id, grant pl (leftAt pl rs supply i) rs[i]) := by
  have hsplit : rs = rs.take (i + 1) ++ rs.drop (i + 1) := (List.take_append_drop _ _).symm
  have e : day pl rs supply = (rs.drop (i + 1)).foldl (dayStep pl) (dayFrom pl (rs.take (i + 1)) (fill pl supply pl.length)) := by
    unfold day dayFrom
    conv => lhs; rw [hsplit, List.foldl_append]
  have hl := dayFrom_length pl (rs.take i) (fill pl supply pl.length)
  rw [List.length_take, Nat.min_eq_left (by omega)] at hl
  rw [e, fold_fst]
  · rw [take_snoc' _ i h, dayFrom_snoc]
    show ((dayFrom pl (rs.take i) (fill pl supply pl.length)).1 ++ [_])[i]? = _
    rw [List.getElem?_append_right (by omega), hl]
    simp [leftAt]
  · rw [dayFrom_length, List.length_take]; omega
theorem day_length (pl : List Pl) (rs : List Rt) (supply : List Int) : (day pl rs supply).1.length = rs.length := dayFrom_length _ _ _

theorem grant_le_rate (pl : List Pl) (left : List Int) (r : Rt) : grant pl left r ≤ max 0 r.rate := by
  unfold grant
  split
  · omega
  · have := (least_le left (reach pl r.place) r.rate).1
    omega
theorem reach_not {pl : List Pl} {p : Int} (h : ¬ (0 ≤ p ∧ p < pl.length)) : reach pl p = [] := by
  unfold reach reachGo
  rw [dif_neg (by omega)]
theorem reach_yes {pl : List Pl} {p : Int} (h : 0 ≤ p ∧ p < pl.length) : reach pl p ≠ [] := by
  unfold reach
  unfold reachGo
  rw [dif_pos ⟨h.1, by omega⟩]
  simp only [List.any_nil, Bool.false_eq_true, if_false]
  split
  · simp
  · have key : ∀ (f : Nat) (out : List Int) (q : Int), out ≠ [] → reachGo pl f out q ≠ [] := by
      intro f
      induction f with
      | zero => intro out q h; exact h
      | succ f ih =>
        intro out q h
        unfold reachGo
        split
        · split
          · exact h
          · split
            · simp
            · exact ih _ _ (by simp)
        · exact h
    exact key _ _ _ (by simp)

/-- a right that gets less than its rate has a place at which nothing is left -/
theorem stops {pl : List Pl} {rs : List Rt} {supply : List Int} {i : Nat} (h : i < rs.length) (hp : 0 ≤ rs[i].place ∧ rs[i].place < pl.length) (hlt : grant pl (leftAt pl rs supply i) rs[i] < rs[i].rate) :
    (reach pl rs[i].place).any (fun q => nth (day pl rs supply).2 q.toNat == 0) = true := by
  have hne := reach_yes hp
  have hw := reach_ways pl rs[i].place
  have hv := leftAt_vols pl rs supply i
  have hgr : grant pl (leftAt pl rs supply i) rs[i] = max 0 (least rs[i].rate (leftAt pl rs supply i) (reach pl rs[i].place)) := by unfold grant; rw [if_neg hne]
  have hl0 := least_ge (leftAt pl rs supply i) 0 (reach pl rs[i].place) rs[i].rate (by omega) (fun q _ => (hv.2 _).1)
  rcases least_is (leftAt pl rs supply i) (reach pl rs[i].place) rs[i].rate with e | ⟨q, hq, e⟩
  · omega
  · rw [List.any_eq_true]
    refine ⟨q, hq, ?_⟩
    have hqb := hw.2 q hq
    have h1 := leftAt_nth (pl := pl) (supply := supply) h q.toNat
    rw [if_pos (by rw [List.any_eq_true]; exact ⟨q, hq, by simp; omega⟩)] at h1
    have h2 := leftAt_mono pl rs supply q.toNat (i + 1) (rs.length - (i + 1)) (by omega)
    rw [show i + 1 + (rs.length - (i + 1)) = rs.length by omega, ← day_left] at h2
    have h3 := ((leftAt_vols pl rs supply rs.length).2 q.toNat).1
    rw [← day_left] at h3
    simp only [beq_iff_eq]
    omega
end Go.Proofs.Ytjikehjhmjfhfaa
