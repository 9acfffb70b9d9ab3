/- The walks of the readers' Nums and Texts. -/
import Derived.Test.YtiopehgghlfmgaaDoorW10
set_option linter.unusedSimpArgs false
set_option linter.unusedVariables false
namespace Go.Proofs.YtiopehgghlfmgaaDoor
open Go.RowKit

theorem info3 : (Tryd.prog.info? 3).map (fun i => (i.zero, i.size, i.bytes)) = some (some (.int .i64 0), 1, 8) := by kernel_rfl
theorem info9 : (Tryd.prog.info? 9).map (fun i => (i.zero, i.size, i.bytes)) = some (some (.string ⟨#[]⟩), 1, 16) := by kernel_rfl

/-- append of one int to an owned row of ints -/
theorem append_int {ops : Array Oper} {rest : List Oper} {o : Oper} {a : Act} {Q : Exit → Act → World → Prop} {w : World} (hgd : o.guard = none) (s x : Operand)
    (ho : o.op = .call { callee := .builtin .append, args := #[s, x], argTypes := #[25, 25] }) (base : Nat) (v : Value) (n : Nat) (xs : List Value) (hs : a.eval s = v) (hown : w.ownsRow base 3 1 v n xs)
    (b : Nat) (y : Int) (hx : a.eval x = .slice (some ⟨b, 0, none⟩) 1 1) (hc : w.cell? ⟨b, 0, none⟩ = some (.int .i64 y)) (hn : n + 1 ≤ 1000000000) (hbase : base ≤ w.heap.size)
    (h : ∀ v' w', w'.ownsRow base 3 1 v' (n + 1) (xs ++ [.int .i64 y]) → w.grownBy w' v.ownBlock → Below base w w' → wpList Tryd.prog ops Q rest (a.put o.dst v') w') : wpList Tryd.prog ops Q (o :: rest) a w := by
  obtain ⟨i0, hi, hz0, hz1, hz2⟩ := info_parts info3
  refine wpList_append_own w hgd s x 25 ho base 3 i0 (.int .i64 0) 1 8 Tryd.underlying25 hi hz0 hz1 hz2 rfl (by decide) v n xs hs hown ⟨b, 0, none⟩ 1 1 [.int .i64 y] hx rfl ?_ ?_ ?_ ?_ hbase ?_
  · intro j u hu
    cases j with
    | zero => simp at hu; subst hu; simpa [Addr.add] using hc
    | succ j => simp at hu
  · intro u hu; simp at hu; subst hu; rfl
  · unfold maxLen; omega
  · omega
  · intro v' w' h1 h2 _
    refine h v' w' h1 h2 ⟨h2.os, h2.tape, h2.output, h2.size, fun k hk => h2.block k (by omega) (fun e => ?_)⟩
    have := (hown.lt k e.symm).1
    omega
/-- append of one string to an owned row of strings -/
theorem append_str {ops : Array Oper} {rest : List Oper} {o : Oper} {a : Act} {Q : Exit → Act → World → Prop} {w : World} (hgd : o.guard = none) (s x : Operand)
    (ho : o.op = .call { callee := .builtin .append, args := #[s, x], argTypes := #[26, 26] }) (base : Nat) (v : Value) (n : Nat) (xs : List Value) (hs : a.eval s = v) (hown : w.ownsRow base 9 1 v n xs)
    (b : Nat) (y : ByteArray) (hx : a.eval x = .slice (some ⟨b, 0, none⟩) 1 1) (hc : w.cell? ⟨b, 0, none⟩ = some (.string y)) (hn : n + 1 ≤ 1000000000) (hbase : base ≤ w.heap.size)
    (h : ∀ v' w', w'.ownsRow base 9 1 v' (n + 1) (xs ++ [.string y]) → w.grownBy w' v.ownBlock → Below base w w' → wpList Tryd.prog ops Q rest (a.put o.dst v') w') : wpList Tryd.prog ops Q (o :: rest) a w := by
  obtain ⟨i0, hi, hz0, hz1, hz2⟩ := info_parts info9
  refine wpList_append_own w hgd s x 26 ho base 9 i0 (.string ⟨#[]⟩) 1 16 Tryd.underlying26 hi hz0 hz1 hz2 rfl (by decide) v n xs hs hown ⟨b, 0, none⟩ 1 1 [.string y] hx rfl ?_ ?_ ?_ ?_ hbase ?_
  · intro j u hu
    cases j with
    | zero => simp at hu; subst hu; simpa [Addr.add] using hc
    | succ j => simp at hu
  · intro u hu; simp at hu; subst hu; rfl
  · unfold maxLen; omega
  · omega
  · intro v' w' h1 h2 _
    refine h v' w' h1 h2 ⟨h2.os, h2.tape, h2.output, h2.size, fun k hk => h2.block k (by omega) (fun e => ?_)⟩
    have := (hown.lt k e.symm).1
    omega

/-- reading a list: what is read with one, with fuel -/
def rList {α : Type} (one : List UInt8 → α × List UInt8 × Bool) : Nat → List UInt8 → List α → List α × List UInt8 × Bool
  | 0, _, _ => ([], [], true)
  | _ + 1, [], _ => ([], [], true)
  | f + 1, x :: t, acc => if x = 0 then (acc, t, false) else if x = 1 then (if (one t).2.2 = true then ([], [], true) else rList one f (one t).2.1 (acc ++ [(one t).1])) else ([], [], true)
theorem rList_nil {α : Type} (one : List UInt8 → α × List UInt8 × Bool) (f : Nat) (acc : List α) : rList one (f + 1) [] acc = ([], [], true) := rfl
theorem rList_last {α : Type} (one : List UInt8 → α × List UInt8 × Bool) (f : Nat) (t : List UInt8) (acc : List α) : rList one (f + 1) (0 :: t) acc = (acc, t, false) := rfl
theorem rList_more {α : Type} (one : List UInt8 → α × List UInt8 × Bool) (f : Nat) (t : List UInt8) (acc : List α) (h : (one t).2.2 = false) : rList one (f + 1) (1 :: t) acc = rList one f (one t).2.1 (acc ++ [(one t).1]) := by
  simp [rList, h]
theorem rList_stop {α : Type} (one : List UInt8 → α × List UInt8 × Bool) (f : Nat) (t : List UInt8) (acc : List α) (h : (one t).2.2 = true) : rList one (f + 1) (1 :: t) acc = ([], [], true) := by
  simp [rList, h]
theorem rList_fail {α : Type} (one : List UInt8 → α × List UInt8 × Bool) (f : Nat) (x : UInt8) (t : List UInt8) (acc : List α) (h0 : x ≠ 0) (h1 : x ≠ 1) : rList one (f + 1) (x :: t) acc = ([], [], true) := by
  simp [rList, h0, h1]
def rLists {α : Type} (one : List UInt8 → α × List UInt8 × Bool) (s : List UInt8) (bad : Bool) : List α × List UInt8 × Bool := if bad = true then ([], [], true) else rList one (s.length + 1) s []

theorem rInt_le (s : List UInt8) (bad : Bool) : (rInt s bad).2.1.length ≤ s.length := by
  unfold rInt
  rcases s with _ | ⟨c, t⟩
  · simp
  · simp only
    split
    · simp
    · split
      · simp
      · simp; omega
theorem rInt_bad (s : List UInt8) (h : (rInt s false).2.2 = true) : rInt s false = (0, [], true) := by
  unfold rInt at *
  rcases s with _ | ⟨c, t⟩
  · rfl
  · simp only at *
    split
    · rfl
    · rename_i h1
      rw [if_neg h1] at h
      split
      · rfl
      · rename_i h2
        rw [if_neg h2] at h
        simp at h
theorem rInt_in64 (s : List UInt8) (bad : Bool) : In64 (rInt s bad).1 := by
  unfold rInt
  rcases s with _ | ⟨c, t⟩
  · simp [In64]
  · simp only
    split
    · simp [In64]
    · split
      · simp [In64]
      · rename_i h1 h2
        simp only
        by_cases hc : c.toNat < 128
        · simp only [hc, decide_true] at h2
          rw [if_pos hc]; unfold In64; omega
        · simp only [hc, decide_false] at h2
          rw [if_neg hc]; unfold In64; omega
theorem rTextGo_le (bad : Bool) : ∀ (n : Nat) (s acc : List UInt8), s.length ≤ n → (rTextGo bad s acc).2.1.length ≤ s.length ∧ (rTextGo bad s acc).1.length ≤ acc.length + s.length ∧ ((rTextGo bad s acc).2.2 = true → bad = false → rTextGo bad s acc = ([], [], true))
  | 0, s, acc, h => by
    obtain rfl := List.eq_nil_of_length_eq_zero (Nat.le_zero.1 h)
    simp [rTextGo]
  | n + 1, s, acc, h => by
    rcases s with _ | ⟨x, _ | ⟨y, t⟩⟩
    · simp [rTextGo]
    · simp [rTextGo]
    · simp only [List.length_cons] at h
      by_cases hx : x = 0
      · subst hx
        by_cases hy : y = 255
        · subst hy
          rw [rTextGo_esc]
          obtain ⟨h1, h2, h3⟩ := rTextGo_le bad n t (acc ++ [0]) (by omega)
          simp only [List.length_append, List.length_cons, List.length_nil] at h2 ⊢
          exact ⟨by omega, by omega, h3⟩
        · by_cases hy1 : y = 1
          · subst hy1
            rw [rTextGo_stop]
            refine ⟨by simp; omega, by simp, fun h4 h5 => by simp at h4; rw [h4] at h5; simp at h5⟩
          · rw [rTextGo_fail bad y t acc hy hy1]
            simp
      · rw [rTextGo_other bad x _ acc hx]
        obtain ⟨h1, h2, h3⟩ := rTextGo_le bad n (y :: t) (acc ++ [x]) (by simp; omega)
        simp only [List.length_append, List.length_cons, List.length_nil] at h1 h2 ⊢
        exact ⟨by omega, by omega, h3⟩
theorem rText_le (s : List UInt8) (bad : Bool) : (rText s bad).2.1.length ≤ s.length := (rTextGo_le bad s.length s [] (Nat.le_refl _)).1
theorem rText_short (s : List UInt8) (bad : Bool) : (rText s bad).1.length ≤ s.length := by
  have := (rTextGo_le bad s.length s [] (Nat.le_refl _)).2.1
  simp at this
  exact this
theorem rText_bad (s : List UInt8) (h : (rText s false).2.2 = true) : rText s false = ([], [], true) := (rTextGo_le false s.length s [] (Nat.le_refl _)).2.2 h rfl

def strV (l : List UInt8) : Value := .string ⟨l.toArray⟩
/-- what is read as a list of integers, of strings -/
def rNums (s : List UInt8) (bad : Bool) : List Int × List UInt8 × Bool := rLists (fun t => rInt t false) s bad
def rTexts (s : List UInt8) (bad : Bool) : List (List UInt8) × List UInt8 × Bool := rLists (fun t => rText t false) s bad
theorem QAt.left {w : World} {b : Nat} {s : List UInt8} {bad : Bool} (h : QAt w b s bad) : leftOf w b = s.length := by
  unfold leftOf
  rw [h.cells.1]
  simp [ByteArray.size]

set_option maxHeartbeats 1000000 in
theorem elements_rInt (b : Nat) (s : List UInt8) (bad : Bool) (w : World) (h : ReaderAt w b s bad) (hbs : bad = true → s = []) (hs : s.length ≤ 100000000) :
    Calls Tryd.prog 54 #[.pointer (some ⟨b, 0, none⟩), .func (.func 28) #[.pointer (some ⟨b, 0, none⟩)] #[]] w fun e w' => ∃ v, e = .returned v ∧ w'.ownsRow w.heap.size 3 1 v (rNums s bad).1.length ((rNums s bad).1.map (Value.int .i64)) ∧ ReaderAt w' b (rNums s bad).2.1 (rNums s bad).2.2 ∧ w.grownBy w' (some b) := by
  have hlt := h.cells.2.2.2.2
  cases bad
  · have hR : rList (fun t => rInt t false) (s.length + 1) s [] = rNums s false := rfl
    clear hbs
    generalize rNums s false = R at *
    have Hh := Lib.hid h
    clear h
    have HhR := Lib.hid hR
    clear hR
    go_enter Tryd.func54, Tryd.ntmps54
    go_wp2_with fail
    go_loopw [5, 6, 7] (fun s5 _ _ wr => ∃ f s' acc, s'.length < f ∧ rList (fun t => rInt t false) f s' acc = R ∧ s'.length + acc.length ≤ s.length ∧ ReaderAt wr b s' false ∧ wr.ownsRow w.heap.size 3 1 s5 acc.length (acc.map (Value.int .i64)) ∧ w.grownBy wr (some b)) (fun _ _ _ wr => leftOf wr b)
    case atStart => exact ⟨s.length + 1, s, [], by omega, HhR.out, by simp, Hh.out, World.ownsRow_nil _ _ _ _, grownBy_refl _ _⟩
    case round =>
      obtain ⟨f, s', acc, hf, hgo, hlen, hr, hown, hg⟩ := hrel
      have hsz := hg.size
      have hleft := hr.left
      obtain ⟨f, rfl⟩ : ∃ f', f = f' + 1 := ⟨f - 1, by omega⟩
      have Hhgo := Lib.hid hgo
      clear hgo
      have Hhr := Lib.hid hr
      clear hr
      have Hhown := Lib.hid hown
      clear hown
      have Hhg := Lib.hid hg
      clear hg
      have Hhleft := Lib.hid hleft
      clear hleft
      go_wp2_with fail
      refine (byte_calls b s' false wr Hhr.out).mono ?_
      rintro e w1 ⟨hn, hc, hg1⟩
      have hsz1 := hg1.size
      rcases s' with _ | ⟨x, t⟩
      · obtain ⟨rfl, hr1⟩ := hn rfl
        clear hn hc
        go_wp2_with fail
        go_ret
        have := Hhgo.out
        rw [rList_nil] at this
        rw [← this]
        exact ⟨_, rfl, World.ownsRow_nil _ _ _ _, hr1, grownBy_trans Hhg.out hg1⟩
      · obtain ⟨rfl, hr1⟩ := hc x t rfl
        clear hn hc
        have hown1 := ownsRow_grown Hhown.out hg1 hlt
        simp only [List.length_cons] at hlen hf
        have Hhr1 := Lib.hid hr1
        clear hr1
        have Hhown1 := Lib.hid hown1
        clear hown1
        by_cases hx : x = 0
        · subst hx
          go_wp2_with fail
          go_ret
          have := Hhgo.out
          rw [rList_last] at this
          rw [← this]
          exact ⟨_, rfl, Hhown1.out, Hhr1.out, grownBy_trans Hhg.out hg1⟩
        · by_cases hx1 : x = 1
          · subst hx1
            clear hx
            go_wp2_with fail
            refine (rInt_calls b t false w1 Hhr1.out (by omega)).mono ?_
            rintro e w2 ⟨rfl, hr2, hg2⟩
            have hsz2 := hg2.size
            have hown2 := ownsRow_grown Hhown1.out hg2 hlt
            have hmore := rList_more (fun t => rInt t false) f t acc
            have hstop := rList_stop (fun t => rInt t false) f t acc
            have hle := rInt_le t false
            have hbd := rInt_bad t
            try simp only at hmore hstop
            have Hhmore := Lib.hid hmore
            clear hmore
            have Hhstop := Lib.hid hstop
            clear hstop
            have Hhown2 := Lib.hid hown2
            clear hown2
            have Hhbd := Lib.hid hbd
            clear hbd
            generalize rInt t false = r at *
            obtain ⟨z, s2, b2⟩ := r
            simp only at hr2 hle ⊢
            obtain ⟨c0, c1, f0, f1, hlt2⟩ := hr2.cells
            have Hhr2 := Lib.hid hr2
            clear hr2
            go_wp2_with (at_builtin; refine append_int rfl _ _ rfl w.heap.size u5 acc.length _ rfl (Hhown2.out.alloc _) w2.heap.size (z) rfl (by simp) (by omega) (by simp; omega) ?_)
            intro v5 w5 hown5 hg5 hB5
            have hr5 : ReaderAt w5 b s2 b2 := Hhr2.out.below (B := w.heap.size) (by ((repeat' (first | exact Below.refl _ _ | (refine Below.alloc ?_ ?_ _) | (refine Below.setCell ?_ ?_ _) | (refine Below.drew ?_) | (refine Below.trans ?_ (Below.mono (by assumption) ?_)))) <;> ((try simp only [World.size_alloc, World.size_setCell, World.size_drew] at *); omega))) hlt
            have hg6 : w.grownBy w5 (some b) := grownBy_below_trans (B := w.heap.size) (grownBy_trans Hhg.out (grownBy_trans hg1 hg2)) (by ((repeat' (first | exact Below.refl _ _ | (refine Below.alloc ?_ ?_ _) | (refine Below.setCell ?_ ?_ _) | (refine Below.drew ?_) | (refine Below.trans ?_ (Below.mono (by assumption) ?_)))) <;> ((try simp only [World.size_alloc, World.size_setCell, World.size_drew] at *); omega))) (Nat.le_refl _)
            obtain ⟨c0, c1, f0, f1, hlt5⟩ := hr5.cells
            have Hhown5 := Lib.hid hown5
            clear hown5
            have Hhr5 := Lib.hid hr5
            clear hr5
            have Hhg6 := Lib.hid hg6
            clear hg6
            cases b2
            · go_wp2_with fail
              refine ⟨⟨f, s2, acc ++ [z], by omega, by rw [← Hhmore.out (by simp)]; exact Hhgo.out, by simp; omega, Hhr5.out, ?_, Hhg6.out⟩, ?_⟩
              · simpa [strV] using Hhown5.out
              · rw [Hhr5.out.left, Hhleft.out]; simp; omega
            · go_wp2_with fail
              go_ret
              have h1 := Hhgo.out
              have h2 := Hhbd.out (by simp)
              rw [Hhstop.out (by simp)] at h1
              rw [← h1]
              obtain ⟨-, rfl⟩ : _ ∧ s2 = [] := by simpa using h2
              exact ⟨_, rfl, World.ownsRow_nil _ _ _ _, Hhr5.out, Hhg6.out⟩
          · have hfl := rList_fail (fun t => rInt t false) f x t acc hx hx1
            obtain ⟨n1, n2⟩ := u8_ne hx
            obtain ⟨n3, n4⟩ := u8_ne hx1
            have e0 : ((0 : UInt8).toNat : Int) = 0 := rfl
            have e1 : ((1 : UInt8).toNat : Int) = 1 := rfl
            rw [e0] at n1 n2
            rw [e1] at n3 n4
            clear e0 e1
            have Hhfl := Lib.hid hfl
            clear hfl
            go_wp2_with fail
            refine (fail_calls b _ _ w1 Hhr1.out).mono ?_
            rintro e w3 ⟨rfl, hr3, hg3⟩
            go_wp2_with fail
            go_ret
            have := Hhgo.out
            rw [Hhfl.out] at this
            rw [← this]
            exact ⟨_, rfl, World.ownsRow_nil _ _ _ _, hr3, grownBy_trans Hhg.out (grownBy_trans hg1 hg3)⟩
  · obtain rfl := hbs rfl
    clear hbs
    have hR : rNums [] true = ([], [], true) := rfl
    have Hh := Lib.hid h
    clear h
    have HhR := Lib.hid hR
    clear hR
    go_enter Tryd.func54, Tryd.ntmps54
    go_wp2_with fail
    refine wp_loop_rounds 1 ?_
    rw [rounds_succ]
    go_wp2_with fail
    refine (byte_calls b [] true w Hh.out).mono ?_
    rintro e w1 ⟨hn, hc, hg1⟩
    obtain ⟨rfl, hr1⟩ := hn rfl
    clear hn hc
    go_wp2_with fail
    go_ret
    rw [HhR.out]
    exact ⟨_, rfl, World.ownsRow_nil _ _ _ _, hr1, hg1⟩

theorem Nums_reads (b : Nat) (s : List UInt8) (bad : Bool) (w : World) (h : ReaderAt w b s bad) (hbs : bad = true → s = []) (hs : s.length ≤ 100000000) :
    Calls Tryd.prog 33 #[.pointer (some ⟨b, 0, none⟩)] w fun e w' => ∃ v, e = .returned v ∧ w'.ownsRow w.heap.size 3 1 v (rNums s bad).1.length ((rNums s bad).1.map (Value.int .i64)) ∧ ReaderAt w' b (rNums s bad).2.1 (rNums s bad).2.2 ∧ w.grownBy w' (some b) := by
  have Hh := Lib.hid h
  clear h
  go_enter Tryd.func33, Tryd.ntmps33
  go_wp2_with fail
  refine (elements_rInt b s bad w Hh.out hbs hs).mono ?_
  rintro e w1 ⟨v, rfl, hown, hr1, hg1⟩
  have Hhown := Lib.hid hown
  clear hown
  go_wp2_with fail
  go_ret
  exact ⟨_, rfl, Hhown.out, hr1, hg1⟩

set_option maxHeartbeats 1000000 in
theorem Nums_readsR (b : Nat) (s : List UInt8) (bad : Bool) (w : World) (h : QAt w b s bad) (hbs : bad = true → s = []) (hs : s.length ≤ 100000000) :
    Calls Tryd.prog 34 #[.pointer (some ⟨b, 0, none⟩)] w fun e w' => ∃ v, e = .returned v ∧ w'.ownsRow w.heap.size 3 1 v (rNums s bad).1.length ((rNums s bad).1.map (Value.int .i64)) ∧ QAt w' b (rNums s bad).2.1 (rNums s bad).2.2 ∧ w.grownBy w' (some b) := by
  have hlt := h.cells.2.2.2.2
  have hst : ∃ f, s.length < f ∧ ((bad = false ∧ rList (fun t => rInt t false) f s [] = rNums s bad) ∨ (bad = true ∧ s = [] ∧ rNums s bad = ([], [], true))) := by
    refine ⟨s.length + 1, by omega, ?_⟩
    cases bad
    · exact .inl ⟨rfl, rfl⟩
    · exact .inr ⟨rfl, hbs rfl, rfl⟩
  clear hbs
  generalize rNums s bad = R at *
  have Hh := Lib.hid h
  clear h
  have Hhst := Lib.hid hst
  clear hst
  go_enter Tryd.func34, Tryd.ntmps34
  go_wp2_with fail
  go_loopw [3] (fun s3 wr => ∃ f s' acc bd, s'.length < f ∧ ((bd = false ∧ rList (fun t => rInt t false) f s' acc = R) ∨ (bd = true ∧ s' = [] ∧ R = ([], [], true))) ∧ (bd = false → s'.length + acc.length ≤ s.length) ∧ QAt wr b s' bd ∧ wr.ownsRow w.heap.size 3 1 s3 acc.length (acc.map (Value.int .i64)) ∧ w.grownBy wr (some b)) (fun _ wr => leftOf wr b)
  case atStart =>
    obtain ⟨f, hf, hst⟩ := Hhst.out
    exact ⟨f, s, [], bad, hf, hst, by simp, Hh.out, World.ownsRow_nil _ _ _ _, grownBy_refl _ _⟩
  case round =>
    obtain ⟨f, s', acc, bd, hf, hgo, hlen, hr, hown, hg⟩ := hrel
    have hsz := hg.size
    have hleft := hr.left
    obtain ⟨f, rfl⟩ : ∃ f', f = f' + 1 := ⟨f - 1, by omega⟩
    have Hhgo := Lib.hid hgo
    clear hgo
    have Hhr := Lib.hid hr
    clear hr
    have Hhown := Lib.hid hown
    clear hown
    have Hhg := Lib.hid hg
    clear hg
    have Hhleft := Lib.hid hleft
    clear hleft
    have Hhlen := Lib.hid hlen
    clear hlen
    go_wp2_with fail
    refine (MoreR_calls b s' bd wr Hhr.out).mono ?_
    rintro e w1 ⟨hfl, hla, hmo, hg1⟩
    have hsz1 := hg1.size
    have hown1 := ownsRow_grown Hhown.out hg1 hlt
    have Hhown1 := Lib.hid hown1
    clear hown1
    have hcase : (∃ t, s' = 0 :: t) ∨ (∃ t, s' = 1 :: t) ∨ ((s' = [] ∨ ∃ x t, s' = x :: t ∧ 1 < x.toNat) ∧ R = ([], [], true)) := by
      have hgo := Hhgo.out
      rcases hgo with ⟨rfl, hgo⟩ | ⟨rfl, rfl, hR⟩
      · rcases s' with _ | ⟨x, t⟩
        · exact .inr (.inr ⟨.inl rfl, by rw [← hgo]; rfl⟩)
        · by_cases hx : x = 0
          · exact .inl ⟨t, by rw [hx]⟩
          · by_cases hx1 : x = 1
            · exact .inr (.inl ⟨t, by rw [hx1]⟩)
            · refine .inr (.inr ⟨.inr ⟨x, t, rfl, ?_⟩, by rw [← hgo, rList_fail _ _ _ _ _ hx hx1]⟩)
              have h0 : x.toNat ≠ 0 := fun e => hx (UInt8.toNat_inj.1 e)
              have h1 : x.toNat ≠ 1 := fun e => hx1 (UInt8.toNat_inj.1 e)
              omega
      · exact .inr (.inr ⟨.inl rfl, hR⟩)
    rcases hcase with ⟨t, rfl⟩ | ⟨t, rfl⟩ | ⟨hcs, hR⟩
    · obtain ⟨rfl, hr1⟩ := hla t rfl
      clear hfl hla hmo
      obtain ⟨rfl, hgo2⟩ : bd = false ∧ R = (acc, t, false) := by
        rcases Hhgo.out with ⟨e, hgo⟩ | ⟨e, e2, hR⟩
        · exact ⟨e, by rw [← hgo, rList_last]⟩
        · simp at e2
      obtain ⟨c0, c1, f0, f1, hlt1⟩ := hr1.cells
      have Hhr1 := Lib.hid hr1
      clear hr1
      have Hhgo2 := Lib.hid hgo2
      clear hgo2
      go_wp2_with fail
      go_ret
      rw [Hhgo2.out]
      exact ⟨_, rfl, Hhown1.out, Hhr1.out, grownBy_trans Hhg.out hg1⟩
    · obtain ⟨rfl, hr1⟩ := hmo t rfl
      clear hfl hla hmo
      obtain ⟨rfl, hgo2⟩ : bd = false ∧ rList (fun t => rInt t false) (f + 1) (1 :: t) acc = R := by
        rcases Hhgo.out with ⟨e, hgo⟩ | ⟨e, e2, hR⟩
        · exact ⟨e, hgo⟩
        · simp at e2
      have hlen := Hhlen.out rfl
      simp only [List.length_cons] at hlen hf
      have Hhr1 := Lib.hid hr1
      clear hr1
      have Hhgo2 := Lib.hid hgo2
      clear hgo2
      go_wp2_with fail
      refine (rIntR_calls b t false w1 Hhr1.out (by omega)).mono ?_
      rintro e w2 ⟨rfl, hr2, hg2⟩
      have hsz2 := hg2.size
      have hown2 := ownsRow_grown Hhown1.out hg2 hlt
      have hmore := rList_more (fun t => rInt t false) f t acc
      have hstop := rList_stop (fun t => rInt t false) f t acc
      have hle := rInt_le t false
      have hbd := rInt_bad t
      try simp only at hmore hstop
      have Hhmore := Lib.hid hmore
      clear hmore
      have Hhstop := Lib.hid hstop
      clear hstop
      have Hhown2 := Lib.hid hown2
      clear hown2
      have Hhbd := Lib.hid hbd
      clear hbd
      generalize rInt t false = r at *
      obtain ⟨z, s2, b2⟩ := r
      simp only at hr2 hle ⊢
      have Hhr2 := Lib.hid hr2
      clear hr2
      go_wp2_with (at_builtin; refine append_int rfl _ _ rfl w.heap.size u3 acc.length _ rfl (Hhown2.out.alloc _) w2.heap.size (z) rfl (by simp) (by omega) (by simp; omega) ?_)
      intro v5 w5 hown5 hg5 hB5
      have hr5 : QAt w5 b s2 b2 := Hhr2.out.below (B := w.heap.size) (by ((repeat' (first | exact Below.refl _ _ | (refine Below.alloc ?_ ?_ _) | (refine Below.setCell ?_ ?_ _) | (refine Below.drew ?_) | (refine Below.trans ?_ (Below.mono (by assumption) ?_)))) <;> ((try simp only [World.size_alloc, World.size_setCell, World.size_drew] at *); omega))) hlt
      have hg6 : w.grownBy w5 (some b) := grownBy_below_trans (B := w.heap.size) (grownBy_trans Hhg.out (grownBy_trans hg1 hg2)) (by ((repeat' (first | exact Below.refl _ _ | (refine Below.alloc ?_ ?_ _) | (refine Below.setCell ?_ ?_ _) | (refine Below.drew ?_) | (refine Below.trans ?_ (Below.mono (by assumption) ?_)))) <;> ((try simp only [World.size_alloc, World.size_setCell, World.size_drew] at *); omega))) (Nat.le_refl _)
      have Hhown5 := Lib.hid hown5
      clear hown5
      have Hhr5 := Lib.hid hr5
      clear hr5
      have Hhg6 := Lib.hid hg6
      clear hg6
      go_wp2_with fail
      refine ⟨⟨f, s2, acc ++ [z], b2, by omega, ?_, fun _ => by simp; omega, Hhr5.out, ?_, Hhg6.out⟩, ?_⟩
      · cases b2
        · exact .inl ⟨rfl, by rw [← Hhmore.out (by simp)]; exact Hhgo2.out⟩
        · have h1 := Hhgo2.out
          have h2 := Hhbd.out (by simp)
          rw [Hhstop.out (by simp)] at h1
          obtain ⟨-, rfl⟩ : _ ∧ s2 = [] := by simpa using h2
          exact .inr ⟨rfl, rfl, h1.symm⟩
      · simpa [strV] using Hhown5.out
      · rw [Hhr5.out.left, Hhleft.out]; simp; omega
    · obtain ⟨rfl, hr1⟩ := hfl hcs
      clear hfl hla hmo hcs
      obtain ⟨c0, c1, f0, f1, hlt1⟩ := hr1.cells
      have Hhr1 := Lib.hid hr1
      clear hr1
      have HhR := Lib.hid hR
      clear hR
      go_wp2_with fail
      go_ret
      rw [HhR.out]
      exact ⟨_, rfl, World.ownsRow_nil _ _ _ _, Hhr1.out, grownBy_trans Hhg.out hg1⟩

set_option maxHeartbeats 1000000 in
theorem elements_rText (b : Nat) (s : List UInt8) (bad : Bool) (w : World) (h : ReaderAt w b s bad) (hbs : bad = true → s = []) (hs : s.length ≤ 100000000) :
    Calls Tryd.prog 56 #[.pointer (some ⟨b, 0, none⟩), .func (.func 30) #[.pointer (some ⟨b, 0, none⟩)] #[]] w fun e w' => ∃ v, e = .returned v ∧ w'.ownsRow w.heap.size 9 1 v (rTexts s bad).1.length ((rTexts s bad).1.map strV) ∧ ReaderAt w' b (rTexts s bad).2.1 (rTexts s bad).2.2 ∧ w.grownBy w' (some b) := by
  have hlt := h.cells.2.2.2.2
  cases bad
  · have hR : rList (fun t => rText t false) (s.length + 1) s [] = rTexts s false := rfl
    clear hbs
    generalize rTexts s false = R at *
    have Hh := Lib.hid h
    clear h
    have HhR := Lib.hid hR
    clear hR
    go_enter Tryd.func56, Tryd.ntmps56
    go_wp2_with fail
    go_loopw [5, 6, 7] (fun s5 _ _ wr => ∃ f s' acc, s'.length < f ∧ rList (fun t => rText t false) f s' acc = R ∧ s'.length + acc.length ≤ s.length ∧ ReaderAt wr b s' false ∧ wr.ownsRow w.heap.size 9 1 s5 acc.length (acc.map strV) ∧ w.grownBy wr (some b)) (fun _ _ _ wr => leftOf wr b)
    case atStart => exact ⟨s.length + 1, s, [], by omega, HhR.out, by simp, Hh.out, World.ownsRow_nil _ _ _ _, grownBy_refl _ _⟩
    case round =>
      obtain ⟨f, s', acc, hf, hgo, hlen, hr, hown, hg⟩ := hrel
      have hsz := hg.size
      have hleft := hr.left
      obtain ⟨f, rfl⟩ : ∃ f', f = f' + 1 := ⟨f - 1, by omega⟩
      have Hhgo := Lib.hid hgo
      clear hgo
      have Hhr := Lib.hid hr
      clear hr
      have Hhown := Lib.hid hown
      clear hown
      have Hhg := Lib.hid hg
      clear hg
      have Hhleft := Lib.hid hleft
      clear hleft
      go_wp2_with fail
      refine (byte_calls b s' false wr Hhr.out).mono ?_
      rintro e w1 ⟨hn, hc, hg1⟩
      have hsz1 := hg1.size
      rcases s' with _ | ⟨x, t⟩
      · obtain ⟨rfl, hr1⟩ := hn rfl
        clear hn hc
        go_wp2_with fail
        go_ret
        have := Hhgo.out
        rw [rList_nil] at this
        rw [← this]
        exact ⟨_, rfl, World.ownsRow_nil _ _ _ _, hr1, grownBy_trans Hhg.out hg1⟩
      · obtain ⟨rfl, hr1⟩ := hc x t rfl
        clear hn hc
        have hown1 := ownsRow_grown Hhown.out hg1 hlt
        simp only [List.length_cons] at hlen hf
        have Hhr1 := Lib.hid hr1
        clear hr1
        have Hhown1 := Lib.hid hown1
        clear hown1
        by_cases hx : x = 0
        · subst hx
          go_wp2_with fail
          go_ret
          have := Hhgo.out
          rw [rList_last] at this
          rw [← this]
          exact ⟨_, rfl, Hhown1.out, Hhr1.out, grownBy_trans Hhg.out hg1⟩
        · by_cases hx1 : x = 1
          · subst hx1
            clear hx
            go_wp2_with fail
            refine (Text_reads b t false w1 Hhr1.out (by omega)).mono ?_
            rintro e w2 ⟨rfl, hr2, hg2⟩
            have hsz2 := hg2.size
            have hown2 := ownsRow_grown Hhown1.out hg2 hlt
            have hmore := rList_more (fun t => rText t false) f t acc
            have hstop := rList_stop (fun t => rText t false) f t acc
            have hle := rText_le t false
            have hbd := rText_bad t
            try simp only at hmore hstop
            have Hhmore := Lib.hid hmore
            clear hmore
            have Hhstop := Lib.hid hstop
            clear hstop
            have Hhown2 := Lib.hid hown2
            clear hown2
            have Hhbd := Lib.hid hbd
            clear hbd
            generalize rText t false = r at *
            obtain ⟨z, s2, b2⟩ := r
            simp only at hr2 hle ⊢
            obtain ⟨c0, c1, f0, f1, hlt2⟩ := hr2.cells
            have Hhr2 := Lib.hid hr2
            clear hr2
            go_wp2_with (at_builtin; refine append_str rfl _ _ rfl w.heap.size u5 acc.length _ rfl (Hhown2.out.alloc _) w2.heap.size (⟨z.toArray⟩) rfl (by simp) (by omega) (by simp; omega) ?_)
            intro v5 w5 hown5 hg5 hB5
            have hr5 : ReaderAt w5 b s2 b2 := Hhr2.out.below (B := w.heap.size) (by ((repeat' (first | exact Below.refl _ _ | (refine Below.alloc ?_ ?_ _) | (refine Below.setCell ?_ ?_ _) | (refine Below.drew ?_) | (refine Below.trans ?_ (Below.mono (by assumption) ?_)))) <;> ((try simp only [World.size_alloc, World.size_setCell, World.size_drew] at *); omega))) hlt
            have hg6 : w.grownBy w5 (some b) := grownBy_below_trans (B := w.heap.size) (grownBy_trans Hhg.out (grownBy_trans hg1 hg2)) (by ((repeat' (first | exact Below.refl _ _ | (refine Below.alloc ?_ ?_ _) | (refine Below.setCell ?_ ?_ _) | (refine Below.drew ?_) | (refine Below.trans ?_ (Below.mono (by assumption) ?_)))) <;> ((try simp only [World.size_alloc, World.size_setCell, World.size_drew] at *); omega))) (Nat.le_refl _)
            obtain ⟨c0, c1, f0, f1, hlt5⟩ := hr5.cells
            have Hhown5 := Lib.hid hown5
            clear hown5
            have Hhr5 := Lib.hid hr5
            clear hr5
            have Hhg6 := Lib.hid hg6
            clear hg6
            cases b2
            · go_wp2_with fail
              refine ⟨⟨f, s2, acc ++ [z], by omega, by rw [← Hhmore.out (by simp)]; exact Hhgo.out, by simp; omega, Hhr5.out, ?_, Hhg6.out⟩, ?_⟩
              · simpa [strV] using Hhown5.out
              · rw [Hhr5.out.left, Hhleft.out]; simp; omega
            · go_wp2_with fail
              go_ret
              have h1 := Hhgo.out
              have h2 := Hhbd.out (by simp)
              rw [Hhstop.out (by simp)] at h1
              rw [← h1]
              obtain ⟨-, rfl⟩ : _ ∧ s2 = [] := by simpa using h2
              exact ⟨_, rfl, World.ownsRow_nil _ _ _ _, Hhr5.out, Hhg6.out⟩
          · have hfl := rList_fail (fun t => rText t false) f x t acc hx hx1
            obtain ⟨n1, n2⟩ := u8_ne hx
            obtain ⟨n3, n4⟩ := u8_ne hx1
            have e0 : ((0 : UInt8).toNat : Int) = 0 := rfl
            have e1 : ((1 : UInt8).toNat : Int) = 1 := rfl
            rw [e0] at n1 n2
            rw [e1] at n3 n4
            clear e0 e1
            have Hhfl := Lib.hid hfl
            clear hfl
            go_wp2_with fail
            refine (fail_calls b _ _ w1 Hhr1.out).mono ?_
            rintro e w3 ⟨rfl, hr3, hg3⟩
            go_wp2_with fail
            go_ret
            have := Hhgo.out
            rw [Hhfl.out] at this
            rw [← this]
            exact ⟨_, rfl, World.ownsRow_nil _ _ _ _, hr3, grownBy_trans Hhg.out (grownBy_trans hg1 hg3)⟩
  · obtain rfl := hbs rfl
    clear hbs
    have hR : rTexts [] true = ([], [], true) := rfl
    have Hh := Lib.hid h
    clear h
    have HhR := Lib.hid hR
    clear hR
    go_enter Tryd.func56, Tryd.ntmps56
    go_wp2_with fail
    refine wp_loop_rounds 1 ?_
    rw [rounds_succ]
    go_wp2_with fail
    refine (byte_calls b [] true w Hh.out).mono ?_
    rintro e w1 ⟨hn, hc, hg1⟩
    obtain ⟨rfl, hr1⟩ := hn rfl
    clear hn hc
    go_wp2_with fail
    go_ret
    rw [HhR.out]
    exact ⟨_, rfl, World.ownsRow_nil _ _ _ _, hr1, hg1⟩

theorem Texts_reads (b : Nat) (s : List UInt8) (bad : Bool) (w : World) (h : ReaderAt w b s bad) (hbs : bad = true → s = []) (hs : s.length ≤ 100000000) :
    Calls Tryd.prog 36 #[.pointer (some ⟨b, 0, none⟩)] w fun e w' => ∃ v, e = .returned v ∧ w'.ownsRow w.heap.size 9 1 v (rTexts s bad).1.length ((rTexts s bad).1.map strV) ∧ ReaderAt w' b (rTexts s bad).2.1 (rTexts s bad).2.2 ∧ w.grownBy w' (some b) := by
  have Hh := Lib.hid h
  clear h
  go_enter Tryd.func36, Tryd.ntmps36
  go_wp2_with fail
  refine (elements_rText b s bad w Hh.out hbs hs).mono ?_
  rintro e w1 ⟨v, rfl, hown, hr1, hg1⟩
  have Hhown := Lib.hid hown
  clear hown
  go_wp2_with fail
  go_ret
  exact ⟨_, rfl, Hhown.out, hr1, hg1⟩

set_option maxHeartbeats 1000000 in
theorem Texts_readsR (b : Nat) (s : List UInt8) (bad : Bool) (w : World) (h : QAt w b s bad) (hbs : bad = true → s = []) (hs : s.length ≤ 100000000) :
    Calls Tryd.prog 37 #[.pointer (some ⟨b, 0, none⟩)] w fun e w' => ∃ v, e = .returned v ∧ w'.ownsRow w.heap.size 9 1 v (rTexts s bad).1.length ((rTexts s bad).1.map strV) ∧ QAt w' b (rTexts s bad).2.1 (rTexts s bad).2.2 ∧ w.grownBy w' (some b) := by
  have hlt := h.cells.2.2.2.2
  have hst : ∃ f, s.length < f ∧ ((bad = false ∧ rList (fun t => rText t false) f s [] = rTexts s bad) ∨ (bad = true ∧ s = [] ∧ rTexts s bad = ([], [], true))) := by
    refine ⟨s.length + 1, by omega, ?_⟩
    cases bad
    · exact .inl ⟨rfl, rfl⟩
    · exact .inr ⟨rfl, hbs rfl, rfl⟩
  clear hbs
  generalize rTexts s bad = R at *
  have Hh := Lib.hid h
  clear h
  have Hhst := Lib.hid hst
  clear hst
  go_enter Tryd.func37, Tryd.ntmps37
  go_wp2_with fail
  go_loopw [3] (fun s3 wr => ∃ f s' acc bd, s'.length < f ∧ ((bd = false ∧ rList (fun t => rText t false) f s' acc = R) ∨ (bd = true ∧ s' = [] ∧ R = ([], [], true))) ∧ (bd = false → s'.length + acc.length ≤ s.length) ∧ QAt wr b s' bd ∧ wr.ownsRow w.heap.size 9 1 s3 acc.length (acc.map strV) ∧ w.grownBy wr (some b)) (fun _ wr => leftOf wr b)
  case atStart =>
    obtain ⟨f, hf, hst⟩ := Hhst.out
    exact ⟨f, s, [], bad, hf, hst, by simp, Hh.out, World.ownsRow_nil _ _ _ _, grownBy_refl _ _⟩
  case round =>
    obtain ⟨f, s', acc, bd, hf, hgo, hlen, hr, hown, hg⟩ := hrel
    have hsz := hg.size
    have hleft := hr.left
    obtain ⟨f, rfl⟩ : ∃ f', f = f' + 1 := ⟨f - 1, by omega⟩
    have Hhgo := Lib.hid hgo
    clear hgo
    have Hhr := Lib.hid hr
    clear hr
    have Hhown := Lib.hid hown
    clear hown
    have Hhg := Lib.hid hg
    clear hg
    have Hhleft := Lib.hid hleft
    clear hleft
    have Hhlen := Lib.hid hlen
    clear hlen
    go_wp2_with fail
    refine (MoreR_calls b s' bd wr Hhr.out).mono ?_
    rintro e w1 ⟨hfl, hla, hmo, hg1⟩
    have hsz1 := hg1.size
    have hown1 := ownsRow_grown Hhown.out hg1 hlt
    have Hhown1 := Lib.hid hown1
    clear hown1
    have hcase : (∃ t, s' = 0 :: t) ∨ (∃ t, s' = 1 :: t) ∨ ((s' = [] ∨ ∃ x t, s' = x :: t ∧ 1 < x.toNat) ∧ R = ([], [], true)) := by
      have hgo := Hhgo.out
      rcases hgo with ⟨rfl, hgo⟩ | ⟨rfl, rfl, hR⟩
      · rcases s' with _ | ⟨x, t⟩
        · exact .inr (.inr ⟨.inl rfl, by rw [← hgo]; rfl⟩)
        · by_cases hx : x = 0
          · exact .inl ⟨t, by rw [hx]⟩
          · by_cases hx1 : x = 1
            · exact .inr (.inl ⟨t, by rw [hx1]⟩)
            · refine .inr (.inr ⟨.inr ⟨x, t, rfl, ?_⟩, by rw [← hgo, rList_fail _ _ _ _ _ hx hx1]⟩)
              have h0 : x.toNat ≠ 0 := fun e => hx (UInt8.toNat_inj.1 e)
              have h1 : x.toNat ≠ 1 := fun e => hx1 (UInt8.toNat_inj.1 e)
              omega
      · exact .inr (.inr ⟨.inl rfl, hR⟩)
    rcases hcase with ⟨t, rfl⟩ | ⟨t, rfl⟩ | ⟨hcs, hR⟩
    · obtain ⟨rfl, hr1⟩ := hla t rfl
      clear hfl hla hmo
      obtain ⟨rfl, hgo2⟩ : bd = false ∧ R = (acc, t, false) := by
        rcases Hhgo.out with ⟨e, hgo⟩ | ⟨e, e2, hR⟩
        · exact ⟨e, by rw [← hgo, rList_last]⟩
        · simp at e2
      obtain ⟨c0, c1, f0, f1, hlt1⟩ := hr1.cells
      have Hhr1 := Lib.hid hr1
      clear hr1
      have Hhgo2 := Lib.hid hgo2
      clear hgo2
      go_wp2_with fail
      go_ret
      rw [Hhgo2.out]
      exact ⟨_, rfl, Hhown1.out, Hhr1.out, grownBy_trans Hhg.out hg1⟩
    · obtain ⟨rfl, hr1⟩ := hmo t rfl
      clear hfl hla hmo
      obtain ⟨rfl, hgo2⟩ : bd = false ∧ rList (fun t => rText t false) (f + 1) (1 :: t) acc = R := by
        rcases Hhgo.out with ⟨e, hgo⟩ | ⟨e, e2, hR⟩
        · exact ⟨e, hgo⟩
        · simp at e2
      have hlen := Hhlen.out rfl
      simp only [List.length_cons] at hlen hf
      have Hhr1 := Lib.hid hr1
      clear hr1
      have Hhgo2 := Lib.hid hgo2
      clear hgo2
      go_wp2_with fail
      refine (Text_readsR b t false w1 Hhr1.out (by omega)).mono ?_
      rintro e w2 ⟨rfl, hr2, hg2⟩
      have hsz2 := hg2.size
      have hown2 := ownsRow_grown Hhown1.out hg2 hlt
      have hmore := rList_more (fun t => rText t false) f t acc
      have hstop := rList_stop (fun t => rText t false) f t acc
      have hle := rText_le t false
      have hbd := rText_bad t
      try simp only at hmore hstop
      have Hhmore := Lib.hid hmore
      clear hmore
      have Hhstop := Lib.hid hstop
      clear hstop
      have Hhown2 := Lib.hid hown2
      clear hown2
      have Hhbd := Lib.hid hbd
      clear hbd
      generalize rText t false = r at *
      obtain ⟨z, s2, b2⟩ := r
      simp only at hr2 hle ⊢
      have Hhr2 := Lib.hid hr2
      clear hr2
      go_wp2_with (at_builtin; refine append_str rfl _ _ rfl w.heap.size u3 acc.length _ rfl (Hhown2.out.alloc _) w2.heap.size (⟨z.toArray⟩) rfl (by simp) (by omega) (by simp; omega) ?_)
      intro v5 w5 hown5 hg5 hB5
      have hr5 : QAt w5 b s2 b2 := Hhr2.out.below (B := w.heap.size) (by ((repeat' (first | exact Below.refl _ _ | (refine Below.alloc ?_ ?_ _) | (refine Below.setCell ?_ ?_ _) | (refine Below.drew ?_) | (refine Below.trans ?_ (Below.mono (by assumption) ?_)))) <;> ((try simp only [World.size_alloc, World.size_setCell, World.size_drew] at *); omega))) hlt
      have hg6 : w.grownBy w5 (some b) := grownBy_below_trans (B := w.heap.size) (grownBy_trans Hhg.out (grownBy_trans hg1 hg2)) (by ((repeat' (first | exact Below.refl _ _ | (refine Below.alloc ?_ ?_ _) | (refine Below.setCell ?_ ?_ _) | (refine Below.drew ?_) | (refine Below.trans ?_ (Below.mono (by assumption) ?_)))) <;> ((try simp only [World.size_alloc, World.size_setCell, World.size_drew] at *); omega))) (Nat.le_refl _)
      have Hhown5 := Lib.hid hown5
      clear hown5
      have Hhr5 := Lib.hid hr5
      clear hr5
      have Hhg6 := Lib.hid hg6
      clear hg6
      go_wp2_with fail
      refine ⟨⟨f, s2, acc ++ [z], b2, by omega, ?_, fun _ => by simp; omega, Hhr5.out, ?_, Hhg6.out⟩, ?_⟩
      · cases b2
        · exact .inl ⟨rfl, by rw [← Hhmore.out (by simp)]; exact Hhgo2.out⟩
        · have h1 := Hhgo2.out
          have h2 := Hhbd.out (by simp)
          rw [Hhstop.out (by simp)] at h1
          obtain ⟨-, rfl⟩ : _ ∧ s2 = [] := by simpa using h2
          exact .inr ⟨rfl, rfl, h1.symm⟩
      · simpa [strV] using Hhown5.out
      · rw [Hhr5.out.left, Hhleft.out]; simp; omega
    · obtain ⟨rfl, hr1⟩ := hfl hcs
      clear hfl hla hmo hcs
      obtain ⟨c0, c1, f0, f1, hlt1⟩ := hr1.cells
      have Hhr1 := Lib.hid hr1
      clear hr1
      have HhR := Lib.hid hR
      clear hR
      go_wp2_with fail
      go_ret
      rw [HhR.out]
      exact ⟨_, rfl, World.ownsRow_nil _ _ _ _, Hhr1.out, grownBy_trans Hhg.out hg1⟩
end Go.Proofs.YtiopehgghlfmgaaDoor
