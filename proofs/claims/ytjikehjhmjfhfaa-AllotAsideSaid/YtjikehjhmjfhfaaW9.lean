/- The walks of small functions on rights. -/
import Derived.Test.YtjikehjhmjfhfaaW7
namespace Go.Proofs.Ytjikehjhmjfhfaa
open Go.RowKit

/-- a slice value reads as the grants -/
def GrantsAt (w : World) (v : Value) (l : List (Int × Int)) : Prop :=
  ∃ oa cap, v = .slice oa l.length cap ∧ l.length ≤ 9223372036854775807 ∧ (∀ x ∈ l, In64 x.1 ∧ In64 x.2) ∧
    (0 < l.length → ∃ b off, oa = some ⟨b, off, none⟩ ∧ b < w.heap.size ∧ ∀ k (h : k < l.length), w.cell? ⟨b, off + k * 2, none⟩ = some (.int .i64 l[k].1) ∧ w.cell? ⟨b, off + k * 2 + 1, none⟩ = some (.int .i64 l[k].2))

theorem GrantsAt.below {w w' : World} {v : Value} {l : List (Int × Int)} {B : Nat} (h : GrantsAt w v l) (hb : Below B w w') (hB : w.heap.size ≤ B) : GrantsAt w' v l := by
  obtain ⟨oa, cap, rfl, hm, hr, hc⟩ := h
  refine ⟨oa, cap, rfl, hm, hr, fun h0 => ?_⟩
  obtain ⟨b, off, rfl, hb1, hc1⟩ := hc h0
  refine ⟨b, off, rfl, Nat.lt_of_lt_of_le hb1 hb.size, fun k hk => ⟨?_, ?_⟩⟩
  · rw [← (hc1 k hk).1]; exact hb.cell (p := ⟨b, _, none⟩) (Nat.lt_of_lt_of_le hb1 hB)
  · rw [← (hc1 k hk).2]; exact hb.cell (p := ⟨b, _, none⟩) (Nat.lt_of_lt_of_le hb1 hB)

theorem gcells_at : ∀ (l : List (Int × Int)) (k : Nat) (h : k < l.length), (gcells l)[k * 2]? = some (.int .i64 l[k].1) ∧ (gcells l)[k * 2 + 1]? = some (.int .i64 l[k].2)
  | [], k, h => by simp at h
  | x :: l, 0, h => by simp [gcells]
  | x :: l, k + 1, h => by
    have := gcells_at l k (by simpa using h)
    simpa [gcells, Nat.add_mul, Nat.add_assoc] using this

theorem GrantsAt.of_owned {w : World} {base : Nat} {v : Value} {l : List (Int × Int)} (h : w.ownsRow base 47 2 v l.length (gcells l)) (hr : ∀ x ∈ l, In64 x.1 ∧ In64 x.2) (hm : l.length ≤ 9223372036854775807) : GrantsAt w v l := by
  rcases h.2 with ⟨rfl, hn⟩ | ⟨g, cap, cur, rfl, hb, hg, hnc, hcm, hcs, htake⟩
  · obtain rfl := List.eq_nil_of_length_eq_zero hn
    exact ⟨none, 0, rfl, by simp, by simp, by simp⟩
  · refine ⟨_, cap, rfl, hm, hr, fun h0 => ⟨g, 0, rfl, (Array.getElem?_eq_some_iff.1 hg).1, fun k hk => ?_⟩⟩
    have h1 := h.cellAt (g := g) (cap := cap) (k * 2) (by omega)
    have h2 := h.cellAt (g := g) (cap := cap) (k * 2 + 1) (by omega)
    rw [Nat.zero_add, h1, h2]
    exact gcells_at l k hk

theorem guard47 : Try.prog.eqGuardType Try.prog.depth 47 = false := by kernel_rfl
theorem und47 : Try.prog.underlying 47 = some (.struct (Try.prog.fieldsOf 47)) := by kernel_rfl
theorem stood47 : Try.prog.stoodInHeld 47 = false := by kernel_rfl
theorem fields47 : (Try.prog.fieldsOf 47).toList = [{ name := "Right", type := 3, offset := 0, embedded := false, tag := "", pkgPath := "", byteOffset := 0 }, { name := "Litres", type := 3, offset := 1, embedded := false, tag := "", pkgPath := "", byteOffset := 8 }] := by kernel_rfl

@[go_sem] theorem guard47_run (op : BinOp) (x y : Operand) (xs ys : Array Value) (w : World) : (eqGuard op 47 x y (.agg xs) (.agg ys)).run Try.prog w = .ok () w := run_eqGuard_agg w op 47 x y xs ys guard47

@[go_sem] theorem equal47 (x1 x2 y1 y2 : Int) (w : World) : (Op.equalIn 10000 47 (.agg #[.int .i64 x1, .int .i64 x2]) (.agg #[.int .i64 y1, .int .i64 y2])).run Try.prog w = .ok (x1 == y1 && x2 == y2) w := by
  rw [run_equalIn_agg w _ 47 _ _ und47 stood47, fields47]
  by_cases h1 : x1 = y1
  · by_cases h2 : x2 = y2 <;> simp [Op.eqFields, go_sem, h1, h2]
  · simp [Op.eqFields, go_sem, h1]

set_option maxHeartbeats 400000 in
theorem Same_calls (va vb : Value) (la lb : List (Int × Int)) (w : World) (ha : GrantsAt w va la) (hb : GrantsAt w vb lb) :
    Calls Try.prog 17 #[va, vb] w fun e w' => e = .returned (.bool (decide (la = lb))) ∧ Below w.heap.size w w' := by
  have ha0 := ha
  have hb0 := hb
  obtain ⟨oa, cap, rfl, hm, hr, hc⟩ := ha
  obtain ⟨ob, capb, rfl, hmb, hrb, hcb⟩ := hb
  clear hr hrb hc hcb
  have Hha0 := Lib.hid ha0
  clear ha0
  have Hhb0 := Lib.hid hb0
  clear hb0
  by_cases hlen : la.length = lb.length
  · have hlen' : ((la.length : Int) != (lb.length : Int)) = false := by simp [hlen]
    have HLen := Lib.hid hlen
    clear hlen
    go_enter Try.func17, Try.ntmps17
    go_wp2_with fail
    go_loopw [5] (fun s5 wr => ∃ k : Nat, k ≤ la.length ∧ s5 = .int .i64 k ∧ la.take k = lb.take k ∧ Below w.heap.size w wr) (fun s5 _ => la.length - (intOf s5).toNat)
    case atStart => exact ⟨0, by omega, rfl, by simp, Below.refl _ _⟩
    case round =>
      clear hlen'
      obtain ⟨k, hk, rfl, ht, hB⟩ := hrel
      have Hht := Lib.hid ht
      clear ht
      by_cases hlt : k < la.length
      · obtain ⟨oa', capa', hv, _, _, hc⟩ := Hha0.out.below hB (Nat.le_refl _)
        obtain ⟨rfl, _, rfl⟩ := Value.slice.inj hv
        obtain ⟨b1, off1, rfl, _, hc1⟩ := hc (by omega)
        replace hc1 := hc1 k hlt
        clear hv
        have hlb : k < lb.length := by have := HLen.out; omega
        obtain ⟨ob', capb', hv, _, _, hc⟩ := Hhb0.out.below hB (Nat.le_refl _)
        obtain ⟨rfl, _, rfl⟩ := Value.slice.inj hv
        obtain ⟨b2, off2, rfl, _, hc2⟩ := hc (by omega)
        replace hc2 := hc2 k hlb
        clear hv
        have hstep : la[k] = lb[k] → la.take (k + 1) = lb.take (k + 1) := take_eq_succ hlt hlb Hht.out
        have hstop : la[k] ≠ lb[k] → la ≠ lb := ne_of_at hlt hlb
        generalize la[k] = x at *
        generalize lb[k] = y at *
        obtain ⟨x1, x2⟩ := x
        obtain ⟨y1, y2⟩ := y
        obtain ⟨c1, c2⟩ := hc1
        obtain ⟨d1, d2⟩ := hc2
        simp only at c1 c2 d1 d2
        have Hhstep := Lib.hid hstep
        clear hstep
        have Hhstop := Lib.hid hstop
        clear hstop
        by_cases h1 : x1 = y1
        · subst h1
          by_cases h2 : x2 = y2
          · subst h2
            go_wp2_with fail
            go_quiet (fail)
            go_wp2_with fail
            exact ⟨⟨k + 1, by omega, by go_num, Hhstep.out trivial, below_drewN hB _⟩, by simp [intOf]; omega⟩
          · go_wp2_with fail
            go_quiet (fail)
            go_wp2_with fail
            go_ret
            refine ⟨ret_bool ?_, below_drewN hB _⟩
            simp [Hhstop.out (fun h => h2 (congrArg Prod.snd h))]
        · go_wp2_with fail
          go_quiet (fail)
          go_wp2_with fail
          go_ret
          refine ⟨ret_bool ?_, below_drewN hB _⟩
          simp [Hhstop.out (fun h => h1 (congrArg Prod.fst h))]
      · go_wp2_with fail
        go_ret
        refine ⟨ret_bool ?_, hB⟩
        have h := Hht.out
        have := HLen.out
        rw [List.take_of_length_le (by omega), List.take_of_length_le (by omega)] at h
        simp [h]
  · have hlen' : ((la.length : Int) != (lb.length : Int)) = true := by simp; omega
    have HLen := Lib.hid hlen
    clear hlen
    go_enter Try.func17, Try.ntmps17
    go_wp2_with fail
    go_ret
    refine ⟨ret_bool ?_, Below.refl _ _⟩
    have : la ≠ lb := fun h => HLen.out (by rw [h])
    simp [this]

theorem few_calls (v vr vg : Value) (pl : List Pl) (rs : List Rt) (oa : Option Addr) (n cap : Nat) (w : World) (h : BasinAt w v pl) (hr : RightsAt w vr rs) (hg : vg = .slice oa n cap) :
    Calls Try.prog 9 #[v, vr, vg] w fun e w' => e = .returned (.bool (decide (pl.length ≤ 64 ∧ rs.length ≤ 40 ∧ n ≤ 80))) ∧ Below w.heap.size w w' := by
  obtain ⟨hm, x0, x1, x2, oa, cap, x4, x5, x6, x7, x8, x9, x10, rfl, hp⟩ := h
  obtain ⟨oar, capr, rfl, hrm, -, -⟩ := hr
  subst hg
  clear hp
  by_cases h1 : pl.length ≤ 64
  · by_cases h2 : rs.length ≤ 40
    · go_enter Try.func9, Try.ntmps9
      go_wp2
      go_ret
      refine ⟨ret_bool (by rw [Bool.eq_iff_iff]; simp [h1, h2]; omega), (Below.refl _ _).alloc (Nat.le_refl _) _⟩
    · go_enter Try.func9, Try.ntmps9
      go_wp2
      go_ret
      refine ⟨ret_bool (by simp [h1, h2]), (Below.refl _ _).alloc (Nat.le_refl _) _⟩
  · go_enter Try.func9, Try.ntmps9
    go_wp2
    go_ret
    refine ⟨ret_bool (by simp [h1]), (Below.refl _ _).alloc (Nat.le_refl _) _⟩

/-- a right's value -/
def Rt.value (r : Rt) : Value := .agg #[.int .i64 r.id, .int .i64 r.owner, .int .i64 r.date, .int .i64 r.place, .int .i64 r.rate, .int .i64 r.begins, .int .i64 r.ends, .int .i64 r.back, .int .i64 r.backTo]

theorem place_calls (v : Value) (pl : List Pl) (r : Rt) (w : World) (h : BasinAt w v pl) :
    Calls Try.prog 18 #[v, r.value] w fun e w' => e = .returned (.bool (isPlace pl r.place)) ∧ Below w.heap.size w w' := by
  obtain ⟨hm, x0, x1, x2, oa, cap, x4, x5, x6, x7, x8, x9, x10, rfl, hp⟩ := h
  clear hp
  unfold Rt.value
  have hx : isPlace pl r.place = (decide (0 ≤ r.place) && decide (r.place < pl.length)) := rfl
  generalize r.place = p at *
  by_cases hp0 : 0 ≤ p
  all_goals
    have Hhx := Lib.hid hx
    clear hx
    go_enter Try.func18, Try.ntmps18
    go_wp2
    go_ret
    refine ⟨ret_bool (by rw [Hhx.out]; simp; omega), ((Below.refl _ _).alloc (Nat.le_refl _) _).alloc (by simp) _⟩

def find (rs : List Rt) (id : Int) : Option Nat := rs.findIdx? (fun r => r.id == id)
theorem find_none {rs : List Rt} {id : Int} (h : ∀ k (hk : k < rs.length), rs[k].id ≠ id) : find rs id = none := by
  unfold find
  rw [List.findIdx?_eq_none_iff]
  intro x hx
  obtain ⟨k, hk, rfl⟩ := List.getElem_of_mem hx
  simpa using h k hk
theorem find_some {rs : List Rt} {id : Int} {k : Nat} (hk : k < rs.length) (h : ∀ j (hj : j < k), rs[j].id ≠ id) (e : rs[k].id = id) : find rs id = some k := by
  unfold find
  rw [List.findIdx?_eq_some_iff_getElem]
  exact ⟨hk, by simpa using e, fun j hj => by simpa using h j hj⟩
def idx : Option Nat → Int
  | some k => k
  | none => -1

set_option maxHeartbeats 400000 in
theorem Find_calls (vr : Value) (rs : List Rt) (id : Int) (w : World) (hr : RightsAt w vr rs) :
    Calls Try.prog 29 #[vr, .int .i64 id] w fun e w' => e = .returned (.int .i64 (idx (find rs id))) ∧ w = w' := by
  obtain ⟨oa, cap, rfl, hm, hr64, hc⟩ := hr
  clear hr64
  have Hhc := Lib.hid hc
  clear hc
  go_enter Try.func29, Try.ntmps29
  go_wp2_with fail
  go_loop [5] (fun s5 => ∃ k : Nat, k ≤ rs.length ∧ s5 = .int .i64 k ∧ ∀ j (hj : j < k) (hj2 : j < rs.length), rs[j].id ≠ id) (fun s5 => rs.length - (intOf s5).toNat)
  case atStart => exact ⟨0, by omega, rfl, by omega⟩
  case round =>
    obtain ⟨k, hk, rfl, hn⟩ := hrel
    have Hhn := Lib.hid hn
    clear hn
    by_cases hlt : k < rs.length
    · obtain ⟨b, off, rfl, _, hrc⟩ := Hhc.out (by omega)
      obtain ⟨c0, -⟩ := right_cells (hrc k hlt)
      clear hrc
      by_cases he : rs[k].id = id
      · have hf := find_some hlt (fun j hj => Hhn.out j hj (by omega)) he
        have he' : (rs[k].id == id) = true := by simp [he]
        have Hhf := Lib.hid hf
        clear hf
        have Hhe := Lib.hid he
        clear he
        go_wp2_with fail
        go_ret
        exact ⟨ret_int (by rw [Hhf.out]; rfl), rfl⟩
      · have hf : ∀ j (hj : j < k + 1) (hj2 : j < rs.length), rs[j].id ≠ id := by
          intro j hj hj2
          by_cases hjk : j < k
          · exact Hhn.out j hjk hj2
          · obtain rfl : j = k := by omega
            exact he
        have he' : (rs[k].id == id) = false := by simp [he]
        have Hhf := Lib.hid hf
        clear hf
        have Hhe := Lib.hid he
        clear he
        go_wp2_with fail
        exact ⟨⟨k + 1, by omega, by go_num, Hhf.out⟩, by simp [intOf]; omega⟩
    · have hf := find_none (rs := rs) (id := id) (fun j hj => Hhn.out j (by omega) hj)
      have Hhf := Lib.hid hf
      clear hf
      go_wp2_with fail
      go_ret
      exact ⟨ret_int (by rw [Hhf.out]; rfl), rfl⟩
end Go.Proofs.Ytjikehjhmjfhfaa
