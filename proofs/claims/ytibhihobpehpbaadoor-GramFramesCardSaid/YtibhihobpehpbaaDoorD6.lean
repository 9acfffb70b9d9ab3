/- The walks of gram: core, Seal, Genuine, Right, Bytes. -/
import Derived.Test.YtibhihobpehpbaaDoorD5
set_option linter.unusedSimpArgs false
set_option linter.unusedVariables false
namespace Go.Proofs.YtibhihobpehpbaaDoor
open Go.RowKit

theorem isBuilder_below1 {w w' : World} {B : Nat} {b : Nat} {bs : List Value} {K : Nat} (h : Lib.IsBuilder 65 5 B b bs w) (hb : Below K w w') (hK : w.heap.size ≤ K) : Lib.IsBuilder 65 5 B b bs w' := by
  rcases h with h | h
  · exact .inl (builder_below ‹_› hb hK)
  · exact .inr (builder_below ‹_› hb hK)
def Gr.wf (x : Gr) : Prop := In64 x.g ∧ In64 x.q ∧ In64 x.c ∧ In64 x.v
def coreS (x : Gr) : List UInt8 := encInt x.g ++ (encInt x.q ++ (encInt x.c ++ encInt x.v))
def coreK (x : Gr) (i : Nat) : List UInt8 := (([x.g, x.q, x.c, x.v] : List Int).take i).flatMap encInt
theorem coreK_four (x : Gr) : coreK x 4 = coreS x := by simp [coreK, coreS]
theorem coreS_len (x : Gr) (h : x.wf) : (coreS x).length ≤ 36 := by
  have h1 := encInt_len _ h.1
  have h2 := encInt_len _ h.2.1
  have h3 := encInt_len _ h.2.2.1
  have h4 := encInt_len _ h.2.2.2
  simp only [coreS, List.length_append]; omega
theorem index84_0 (a b c d : Int) (w : World) : (Instr.index 84 (.agg #[.int .i64 a, .int .i64 b, .int .i64 c, .int .i64 d]) (.int .i64 0)).run Tryd.prog w = .ok (.int .i64 a) w := by
  have hp := part3 #[Value.int .i64 a, .int .i64 b, .int .i64 c, .int .i64 d] 0 a w rfl
  simp [Instr.index, run_underlying und84, asIntOf, size3, hp]
theorem coreK_1 (x : Gr) : coreK x 1 = coreK x 0 ++ encInt x.g := by simp [coreK]
theorem index84_1 (a b c d : Int) (w : World) : (Instr.index 84 (.agg #[.int .i64 a, .int .i64 b, .int .i64 c, .int .i64 d]) (.int .i64 1)).run Tryd.prog w = .ok (.int .i64 b) w := by
  have hp := part3 #[Value.int .i64 a, .int .i64 b, .int .i64 c, .int .i64 d] 1 b w rfl
  simp [Instr.index, run_underlying und84, asIntOf, size3, hp]
theorem coreK_2 (x : Gr) : coreK x 2 = coreK x 1 ++ encInt x.q := by simp [coreK]
theorem index84_2 (a b c d : Int) (w : World) : (Instr.index 84 (.agg #[.int .i64 a, .int .i64 b, .int .i64 c, .int .i64 d]) (.int .i64 2)).run Tryd.prog w = .ok (.int .i64 c) w := by
  have hp := part3 #[Value.int .i64 a, .int .i64 b, .int .i64 c, .int .i64 d] 2 c w rfl
  simp [Instr.index, run_underlying und84, asIntOf, size3, hp]
theorem coreK_3 (x : Gr) : coreK x 3 = coreK x 2 ++ encInt x.c := by simp [coreK]
theorem index84_3 (a b c d : Int) (w : World) : (Instr.index 84 (.agg #[.int .i64 a, .int .i64 b, .int .i64 c, .int .i64 d]) (.int .i64 3)).run Tryd.prog w = .ok (.int .i64 d) w := by
  have hp := part3 #[Value.int .i64 a, .int .i64 b, .int .i64 c, .int .i64 d] 3 d w rfl
  simp [Instr.index, run_underlying und84, asIntOf, size3, hp]
theorem coreK_4 (x : Gr) : coreK x 4 = coreK x 3 ++ encInt x.v := by simp [coreK]
set_option maxRecDepth 100000 in
set_option maxHeartbeats 1000000 in
theorem core_calls (x : Gr) (w : World) (h : x.wf) : Calls Tryd.prog 35 #[x.val] w fun e w' => e = .returned (.string ⟨(coreS x).toArray⟩) ∧ Below w.heap.size w w' := by
  have hval : Gr.val x = .agg #[.int .i64 x.g, .int .i64 x.q, .int .i64 x.c, .int .i64 x.v, .string ⟨x.tag.toArray⟩] := rfl
  have hof := of_calls x
  rw [hval] at *
  have Hhof := Lib.hid hof
  clear hof
  have Hhval := Lib.hid hval
  clear hval
  have Hh := Lib.hid h
  clear h
  go_enter Tryd.func35, Tryd.ntmps35
  go_wp2_with fail
  generalize hW0 : World.alloc _ _ = w0
  have hbd0 : Lib.IsBuilder 65 5 (w.heap.size + 1) (w.heap.size + 1) (Lib.byteCells []) w0 := by
    rw [← hW0]
    have := builder_new (w.alloc (Obj.cells #[Value.int .i64 x.g, .int .i64 x.q, .int .i64 x.c, .int .i64 x.v, .string ⟨x.tag.toArray⟩] 23))
    rw [World.size_alloc] at this
    exact this
  have hs0 : w0.heap.size = w.heap.size + 2 := by rw [← hW0, World.size_alloc, World.size_alloc]
  have hB0 : Below w.heap.size w w0 := by rw [← hW0]; exact (by ((repeat' (first | exact Below.refl _ _ | (refine Below.alloc ?_ ?_ _) | (refine Below.setCell ?_ ?_ _) | (refine Below.drew ?_) | (refine Below.trans ?_ (Below.mono (by assumption) ?_)))) <;> ((try simp only [World.size_alloc, World.size_setCell, World.size_drew] at *); omega)))
  clear hW0
  have Hhs0 := Lib.hid hs0
  clear hs0
  have HhB0 := Lib.hid hB0
  clear hB0
  have Hhbd0 := Lib.hid hbd0
  clear hbd0
  refine (Hhof.out w0).mono ?_
  rintro e w1 ⟨rfl, hB1⟩
  have hbd1 := isBuilder_below1 Hhbd0.out hB1 (Nat.le_refl _)
  have hB2 : Below w.heap.size w w1 := HhB0.out.trans (hB1.mono (by have := Hhs0.out; omega))
  have hs1 : w.heap.size + 2 ≤ w1.heap.size := by have := hB1.size; have := Hhs0.out; omega
  clear hB1
  have Hhbd1 := Lib.hid hbd1
  clear hbd1
  have HhB2 := Lib.hid hB2
  clear hB2
  go_wp2_with fail
  go_loopw [8] (fun s8 wr => ∃ i : Nat, i ≤ 4 ∧ s8 = .int .i64 i ∧ Lib.IsBuilder 65 5 (w.heap.size + 1) (w.heap.size + 1) (Lib.byteCells (coreK x i)) wr ∧ Below w.heap.size w wr ∧ w.heap.size + 2 ≤ wr.heap.size) (fun s8 _ => 4 - (intOf s8).toNat)
  case atStart => exact ⟨0, by omega, rfl, Hhbd1.out, HhB2.out, hs1⟩
  case round =>
    obtain ⟨i, hi, rfl, hbd, hB, hsz⟩ := hrel
    have hcases : i = 0 ∨ i = 1 ∨ i = 2 ∨ i = 3 ∨ i = 4 := by omega
    rcases hcases with rfl | rfl | rfl | rfl | rfl
    · rw [show ((0 : Nat) : Int) = 0 from rfl]
      have hix := index84_0 x.g x.q x.c x.v wr
      have hsucc := coreK_1 x
      have hin : In64 x.g := Hh.out.1
      have hel := encInt_len _ hin
      have hlt : (coreK x 0).length ≤ 0 := by
        have h1 := encInt_len _ Hh.out.1
        have h2 := encInt_len _ Hh.out.2.1
        have h3 := encInt_len _ Hh.out.2.2.1
        simp [coreK] <;> omega
      have hbl : (Lib.byteCells (coreK x 0)).length = (coreK x 0).length := Lib.byteCells_length _
      have hbs := str_size (encInt x.g)
      generalize x.g = n at hix hin hel hsucc hbs ⊢
      generalize coreK x 0 = t at *
      have Hhbd := Lib.hid hbd
      clear hbd
      have HhB := Lib.hid hB
      clear hB
      have Hhin := Lib.hid hin
      clear hin
      have Hhsucc := Lib.hid hsucc
      clear hsucc
      have Hhbs := Lib.hid hbs
      clear hbs
      go_wp2_with fail
      refine (Int_calls n wr Hhin.out).mono ?_
      rintro e w2 ⟨rfl, hB3⟩
      have hbd2 := isBuilder_below1 Hhbd.out hB3 (Nat.le_refl _)
      have hs2 := hB3.size
      have hB4 := HhB.out.trans (hB3.mono (by omega))
      clear hB3
      have Hhbd2 := Lib.hid hbd2
      clear hbd2
      have HhB4 := Lib.hid hB4
      clear hB4
      go_wp2_with fail
      refine (Tryd.Builder_WriteString (w.heap.size + 1) (w.heap.size + 1) (Lib.byteCells t) ⟨(encInt n).toArray⟩ w2 Hhbd2.out (by rw [Hhbs.out]; omega) (by omega)).mono ?_
      rintro e w4 ⟨rfl, hbd5, hB5⟩
      have hbd6 := builder_str hbd5
      have hs4 := hB5.size
      have hB6 := HhB4.out.trans (hB5.mono (by omega))
      rw [← Hhsucc.out] at hbd6
      clear hB5
      have Hhbd5 := Lib.hid hbd5
      clear hbd5
      have Hhbd6 := Lib.hid hbd6
      clear hbd6
      have HhB6 := Lib.hid hB6
      clear hB6
      go_wp2_with fail
      exact ⟨⟨1, by omega, rfl, .inr Hhbd6.out, HhB6.out, by omega⟩, by simp [intOf]⟩
    · rw [show ((1 : Nat) : Int) = 1 from rfl]
      have hix := index84_1 x.g x.q x.c x.v wr
      have hsucc := coreK_2 x
      have hin : In64 x.q := Hh.out.2.1
      have hel := encInt_len _ hin
      have hlt : (coreK x 1).length ≤ 9 := by
        have h1 := encInt_len _ Hh.out.1
        have h2 := encInt_len _ Hh.out.2.1
        have h3 := encInt_len _ Hh.out.2.2.1
        simp [coreK] <;> omega
      have hbl : (Lib.byteCells (coreK x 1)).length = (coreK x 1).length := Lib.byteCells_length _
      have hbs := str_size (encInt x.q)
      generalize x.q = n at hix hin hel hsucc hbs ⊢
      generalize coreK x 1 = t at *
      have Hhbd := Lib.hid hbd
      clear hbd
      have HhB := Lib.hid hB
      clear hB
      have Hhin := Lib.hid hin
      clear hin
      have Hhsucc := Lib.hid hsucc
      clear hsucc
      have Hhbs := Lib.hid hbs
      clear hbs
      go_wp2_with fail
      refine (Int_calls n wr Hhin.out).mono ?_
      rintro e w2 ⟨rfl, hB3⟩
      have hbd2 := isBuilder_below1 Hhbd.out hB3 (Nat.le_refl _)
      have hs2 := hB3.size
      have hB4 := HhB.out.trans (hB3.mono (by omega))
      clear hB3
      have Hhbd2 := Lib.hid hbd2
      clear hbd2
      have HhB4 := Lib.hid hB4
      clear hB4
      go_wp2_with fail
      refine (Tryd.Builder_WriteString (w.heap.size + 1) (w.heap.size + 1) (Lib.byteCells t) ⟨(encInt n).toArray⟩ w2 Hhbd2.out (by rw [Hhbs.out]; omega) (by omega)).mono ?_
      rintro e w4 ⟨rfl, hbd5, hB5⟩
      have hbd6 := builder_str hbd5
      have hs4 := hB5.size
      have hB6 := HhB4.out.trans (hB5.mono (by omega))
      rw [← Hhsucc.out] at hbd6
      clear hB5
      have Hhbd5 := Lib.hid hbd5
      clear hbd5
      have Hhbd6 := Lib.hid hbd6
      clear hbd6
      have HhB6 := Lib.hid hB6
      clear hB6
      go_wp2_with fail
      exact ⟨⟨2, by omega, rfl, .inr Hhbd6.out, HhB6.out, by omega⟩, by simp [intOf]⟩
    · rw [show ((2 : Nat) : Int) = 2 from rfl]
      have hix := index84_2 x.g x.q x.c x.v wr
      have hsucc := coreK_3 x
      have hin : In64 x.c := Hh.out.2.2.1
      have hel := encInt_len _ hin
      have hlt : (coreK x 2).length ≤ 18 := by
        have h1 := encInt_len _ Hh.out.1
        have h2 := encInt_len _ Hh.out.2.1
        have h3 := encInt_len _ Hh.out.2.2.1
        simp [coreK] <;> omega
      have hbl : (Lib.byteCells (coreK x 2)).length = (coreK x 2).length := Lib.byteCells_length _
      have hbs := str_size (encInt x.c)
      generalize x.c = n at hix hin hel hsucc hbs ⊢
      generalize coreK x 2 = t at *
      have Hhbd := Lib.hid hbd
      clear hbd
      have HhB := Lib.hid hB
      clear hB
      have Hhin := Lib.hid hin
      clear hin
      have Hhsucc := Lib.hid hsucc
      clear hsucc
      have Hhbs := Lib.hid hbs
      clear hbs
      go_wp2_with fail
      refine (Int_calls n wr Hhin.out).mono ?_
      rintro e w2 ⟨rfl, hB3⟩
      have hbd2 := isBuilder_below1 Hhbd.out hB3 (Nat.le_refl _)
      have hs2 := hB3.size
      have hB4 := HhB.out.trans (hB3.mono (by omega))
      clear hB3
      have Hhbd2 := Lib.hid hbd2
      clear hbd2
      have HhB4 := Lib.hid hB4
      clear hB4
      go_wp2_with fail
      refine (Tryd.Builder_WriteString (w.heap.size + 1) (w.heap.size + 1) (Lib.byteCells t) ⟨(encInt n).toArray⟩ w2 Hhbd2.out (by rw [Hhbs.out]; omega) (by omega)).mono ?_
      rintro e w4 ⟨rfl, hbd5, hB5⟩
      have hbd6 := builder_str hbd5
      have hs4 := hB5.size
      have hB6 := HhB4.out.trans (hB5.mono (by omega))
      rw [← Hhsucc.out] at hbd6
      clear hB5
      have Hhbd5 := Lib.hid hbd5
      clear hbd5
      have Hhbd6 := Lib.hid hbd6
      clear hbd6
      have HhB6 := Lib.hid hB6
      clear hB6
      go_wp2_with fail
      exact ⟨⟨3, by omega, rfl, .inr Hhbd6.out, HhB6.out, by omega⟩, by simp [intOf]⟩
    · rw [show ((3 : Nat) : Int) = 3 from rfl]
      have hix := index84_3 x.g x.q x.c x.v wr
      have hsucc := coreK_4 x
      have hin : In64 x.v := Hh.out.2.2.2
      have hel := encInt_len _ hin
      have hlt : (coreK x 3).length ≤ 27 := by
        have h1 := encInt_len _ Hh.out.1
        have h2 := encInt_len _ Hh.out.2.1
        have h3 := encInt_len _ Hh.out.2.2.1
        simp [coreK] <;> omega
      have hbl : (Lib.byteCells (coreK x 3)).length = (coreK x 3).length := Lib.byteCells_length _
      have hbs := str_size (encInt x.v)
      generalize x.v = n at hix hin hel hsucc hbs ⊢
      generalize coreK x 3 = t at *
      have Hhbd := Lib.hid hbd
      clear hbd
      have HhB := Lib.hid hB
      clear hB
      have Hhin := Lib.hid hin
      clear hin
      have Hhsucc := Lib.hid hsucc
      clear hsucc
      have Hhbs := Lib.hid hbs
      clear hbs
      go_wp2_with fail
      refine (Int_calls n wr Hhin.out).mono ?_
      rintro e w2 ⟨rfl, hB3⟩
      have hbd2 := isBuilder_below1 Hhbd.out hB3 (Nat.le_refl _)
      have hs2 := hB3.size
      have hB4 := HhB.out.trans (hB3.mono (by omega))
      clear hB3
      have Hhbd2 := Lib.hid hbd2
      clear hbd2
      have HhB4 := Lib.hid hB4
      clear hB4
      go_wp2_with fail
      refine (Tryd.Builder_WriteString (w.heap.size + 1) (w.heap.size + 1) (Lib.byteCells t) ⟨(encInt n).toArray⟩ w2 Hhbd2.out (by rw [Hhbs.out]; omega) (by omega)).mono ?_
      rintro e w4 ⟨rfl, hbd5, hB5⟩
      have hbd6 := builder_str hbd5
      have hs4 := hB5.size
      have hB6 := HhB4.out.trans (hB5.mono (by omega))
      rw [← Hhsucc.out] at hbd6
      clear hB5
      have Hhbd5 := Lib.hid hbd5
      clear hbd5
      have Hhbd6 := Lib.hid hbd6
      clear hbd6
      have HhB6 := Lib.hid hB6
      clear hB6
      go_wp2_with fail
      exact ⟨⟨4, by omega, rfl, .inr Hhbd6.out, HhB6.out, by omega⟩, by simp [intOf]⟩
    · rw [coreK_four] at hbd
      rw [show ((4 : Nat) : Int) = 4 from rfl]
      have Hhbd := Lib.hid hbd
      clear hbd
      have HhB := Lib.hid hB
      clear hB
      go_wp2_with fail
      refine (Tryd.Builder_String_any (w.heap.size + 1) (w.heap.size + 1) _ wr Hhbd.out (by omega)).mono ?_
      rintro e w6 ⟨rfl, hB6⟩
      have hB7 := HhB.out.trans (hB6.mono (by omega))
      go_wp2_with fail
      go_ret
      exact ⟨rfl, hB7⟩
def gramL : List UInt8 := [103, 114, 97, 109]
def tagS (secret : List UInt8) (x : Gr) : List UInt8 := (digestS (encText gramL ++ encText secret ++ coreS x)).take 8
def sealS (secret : List UInt8) (x : Gr) : Gr := { x with tag := tagS secret x }
theorem digestS_len (l : List UInt8) : (digestS l).length = 32 := by
  have h : ∀ v : List Nat, (v.flatMap leS).length = 4 * v.length := by
    intro v
    induction v with
    | nil => rfl
    | cons a v ih => rw [List.flatMap_cons, List.length_append, ih]; simp [leS]; omega
  rw [digestS, h, absorb_len _ _ _ _ (by decide)]
theorem tagS_len (secret : List UInt8) (x : Gr) : (tagS secret x).length = 8 := by
  rw [tagS, List.length_take, digestS_len]; rfl
theorem encText_le2 (l : List UInt8) : (encText l).length ≤ 2 * l.length + 2 := by
  have := encText_le l
  unfold encText
  rw [List.length_append]
  simp only [List.length_cons, List.length_nil]; omega
/-- what gram's functions read of the package-level variables -/
def AllAt (m : Int) (w : World) : Prop := DigestAt w ∧ GramAt w ∧ 4 < w.heap.size ∧ w.cell? ⟨4, 0, none⟩ = some (.int .i64 m)
theorem AllAt.below {m : Int} {w w' : World} {B : Nat} (h : AllAt m w) (hb : Below B w w') (hB : 4 < B) : AllAt m w' :=
  ⟨h.1.below hb (by omega), h.2.1.below hb (by omega), Nat.lt_of_lt_of_le h.2.2.1 hb.size, by rw [← h.2.2.2]; exact hb.cell (p := ⟨4, 0, none⟩) hB⟩
theorem und23 : Tryd.prog.underlying 23 = some (.struct (Tryd.prog.fieldsOf 23)) := by kernel_rfl
theorem sz23 (x : Gr) : (Tryd.prog.info? 23).map (·.size) = some x.cells.size := by
  have : (Tryd.prog.info? 23).map (·.size) = some 5 := by kernel_rfl
  rw [this]; rfl
theorem gr_one (x : Gr) : x.cells.all (·.oneCell') = true := by simp [Gr.cells, Value.oneCell']
theorem GrAt.setTag {w : World} {g : Nat} {x : Gr} (h : GrAt w g x) (T : List UInt8) : GrAt (w.setCell ⟨g, 4, none⟩ (.string ⟨T.toArray⟩)) g { x with tag := T } := heap_setCell_same w g 4 _ 23 _ h
def zeroGr : Gr := ⟨0, 0, 0, 0, []⟩

set_option maxRecDepth 100000 in
set_option maxHeartbeats 4000000 in
theorem Seal_calls (secret : List UInt8) (x : Gr) (m : Int) (w : World) (h : AllAt m w) (hx : x.wf) (hs : secret.length ≤ 300) :
    Calls Tryd.prog 12 #[.string ⟨secret.toArray⟩, x.val] w fun e w' => e = .returned (sealS secret x).val ∧ Below w.heap.size w w' := by
  have hval : Gr.val x = .agg #[.int .i64 x.g, .int .i64 x.q, .int .i64 x.c, .int .i64 x.v, .string ⟨x.tag.toArray⟩] := rfl
  have h4 := h.2.2.1
  obtain ⟨wb, hwb⟩ : ∃ wb, wb = (w.alloc (.cells x.cells 23)).alloc (.cells zeroGr.cells 23) := ⟨_, rfl⟩
  have hbox : GrAt wb w.heap.size x := by
    rw [hwb]; unfold GrAt
    rw [Below.heap_alloc _ _ _ (by rw [World.size_alloc]; omega)]
    exact heap_alloc_new w _
  have hres : GrAt wb (w.heap.size + 1) zeroGr := by
    rw [hwb]
    have := heap_alloc_new (w.alloc (.cells x.cells 23)) (.cells zeroGr.cells 23)
    rw [World.size_alloc] at this
    exact this
  have hBb : Below w.heap.size w wb := by rw [hwb]; exact (by ((repeat' (first | exact Below.refl _ _ | (refine Below.alloc ?_ ?_ _) | (refine Below.setCell ?_ ?_ _) | (refine Below.drew ?_) | (refine Below.trans ?_ (Below.mono (by assumption) ?_)))) <;> ((try simp only [World.size_alloc, World.size_setCell, World.size_drew] at *); omega)))
  have hszb : wb.heap.size = w.heap.size + 2 := by rw [hwb, World.size_alloc, World.size_alloc]
  have hall : ∀ wx, Below wb.heap.size wb wx → AllAt m wx := fun wx hx => (h.below hBb h4).below hx (by omega)
  have hk : ∀ wx, Below wb.heap.size wb wx → GrC wx w.heap.size x := fun wx hx => (hbox.below hx (by omega)).c
  obtain ⟨A, hA⟩ : ∃ A, A = encText gramL := ⟨_, rfl⟩
  obtain ⟨S, hS⟩ : ∃ S, S = encText secret := ⟨_, rfl⟩
  obtain ⟨C, hC⟩ : ∃ C, C = coreS x := ⟨_, rfl⟩
  obtain ⟨AS, hAS⟩ : ∃ L, L = A ++ S := ⟨_, rfl⟩
  obtain ⟨ASC, hASC⟩ : ∃ L, L = AS ++ C := ⟨_, rfl⟩
  obtain ⟨D, hD⟩ : ∃ L, L = digestS ASC := ⟨_, rfl⟩
  obtain ⟨T, hT⟩ : ∃ L, L = D.take 8 := ⟨_, rfl⟩
  have lA : A.length ≤ 10 := by rw [hA]; exact encText_le2 gramL
  have lS : S.length ≤ 602 := by rw [hS]; have := encText_le2 secret; omega
  have lC : C.length ≤ 36 := by rw [hC]; exact coreS_len x hx
  have lAS : AS.length ≤ 612 := by rw [hAS, List.length_append]; omega
  have lASC : ASC.length ≤ 4611686018427387904 := by rw [hASC, List.length_append]; omega
  have hDl : D.length = 32 := by rw [hD]; exact digestS_len _
  have hDs := str_size D
  have h8 : (8 : Int) ≤ (D.length : Int) := by omega
  have hext : (ByteArray.mk D.toArray).extract 0 8 = ⟨T.toArray⟩ := by rw [hT]; apply ByteArray.ext; simp [ByteArray.data_extract]
  have cat1 : ∀ w, (Op.stringOp .add ⟨A.toArray⟩ ⟨S.toArray⟩).run Tryd.prog w = .ok (.string ⟨AS.toArray⟩) w := fun w => by rw [hAS]; exact cat_run A S (by omega) w
  have cat2 : ∀ w, (Op.stringOp .add ⟨AS.toArray⟩ ⟨C.toArray⟩).run Tryd.prog w = .ok (.string ⟨ASC.toArray⟩) w := fun w => by rw [hASC]; exact cat_run AS C (by omega) w
  have hc21a : ∀ wx, Below wb.heap.size wb wx → Calls Tryd.prog 21 #[.string ⟨#[103, 114, 97, 109]⟩] wx fun e w' => e = .returned (.string ⟨A.toArray⟩) ∧ Below wb.heap.size wb w' := fun wx hx =>
    (Text_calls ⟨#[103, 114, 97, 109]⟩ m wx (by decide) (hall wx hx).2.2.2).mono fun e w' ⟨h1, h2⟩ => ⟨by rw [h1, hA]; rfl, hx.trans (h2.mono hx.size)⟩
  have hc21b : ∀ wx, Below wb.heap.size wb wx → Calls Tryd.prog 21 #[.string ⟨secret.toArray⟩] wx fun e w' => e = .returned (.string ⟨S.toArray⟩) ∧ Below wb.heap.size wb w' := fun wx hx =>
    (Text_calls ⟨secret.toArray⟩ m wx (by rw [str_size]; omega) (hall wx hx).2.2.2).mono fun e w' ⟨h1, h2⟩ => ⟨by rw [h1, hS], hx.trans (h2.mono hx.size)⟩
  have hc35 : ∀ wx, Below wb.heap.size wb wx → Calls Tryd.prog 35 #[.agg #[.int .i64 x.g, .int .i64 x.q, .int .i64 x.c, .int .i64 x.v, .string ⟨x.tag.toArray⟩]] wx fun e w' => e = .returned (.string ⟨C.toArray⟩) ∧ Below wb.heap.size wb w' := fun wx hy =>
    (core_calls x wx hx).mono fun e w' ⟨h1, h2⟩ => ⟨by rw [h1, hC], hy.trans (h2.mono hy.size)⟩
  have hc20 : ∀ wx, Below wb.heap.size wb wx → Calls Tryd.prog 20 #[.string ⟨ASC.toArray⟩] wx fun e w' => e = .returned (.string ⟨D.toArray⟩) ∧ Below wb.heap.size wb w' := fun wx hx =>
    (Sum_calls ASC wx (hall wx hx).1 lASC).mono fun e w' ⟨h1, h2⟩ => ⟨by rw [h1, hD], hx.trans (h2.mono hx.size)⟩
  have hres2 : sealS secret x = { x with tag := T } := by rw [sealS, tagS, hT, hD, hASC, hAS, hA, hS, hC]
  rw [hres2, hval]
  have Hhbox := Lib.hid hbox
  clear hbox
  have Hhres := Lib.hid hres
  clear hres
  have Hhszb := Lib.hid hszb
  clear hszb
  have Hhall := Lib.hid hall
  clear hall
  have Hhk := Lib.hid hk
  clear hk
  have HhA := Lib.hid hA
  clear hA
  have HhS := Lib.hid hS
  clear hS
  have HhC := Lib.hid hC
  clear hC
  have HhAS := Lib.hid hAS
  clear hAS
  have HhASC := Lib.hid hASC
  clear hASC
  have HhD := Lib.hid hD
  clear hD
  have HhT := Lib.hid hT
  clear hT
  have HhDl := Lib.hid hDl
  clear hDl
  have Hhc21a := Lib.hid hc21a
  clear hc21a
  have Hhc21b := Lib.hid hc21b
  clear hc21b
  have Hhc35 := Lib.hid hc35
  clear hc35
  have Hhc20 := Lib.hid hc20
  clear hc20
  have Hhres2 := Lib.hid hres2
  clear hres2
  have Hhval := Lib.hid hval
  clear hval
  have Hhx := Lib.hid hx
  clear hx
  have Hh := Lib.hid h
  clear h
  go_enter Tryd.func12, Tryd.ntmps12
  go_wp2_with fail
  rw [show ((w.alloc (.cells #[.int .i64 x.g, .int .i64 x.q, .int .i64 x.c, .int .i64 x.v, .string ⟨x.tag.toArray⟩] 23)).alloc (.cells #[.int .i64 0, .int .i64 0, .int .i64 0, .int .i64 0, .string ⟨#[]⟩] 23)) = wb from hwb.symm]
  clear hwb
  obtain ⟨z0, z1, z2, z3, z4⟩ := (Hhk.out wb.drew (Below.refl _ _).drew)
  go_region_with (first | (go_at_call_of 21 secret.toArray; refine (Hhc21b.out _ (by first | assumption | exact Below.refl _ _ | exact (Below.refl _ _).drew | exact Below.drew (by assumption))).mono ?_; rintro e wa ⟨rfl, hba⟩; obtain ⟨z0, z1, z2, z3, z4⟩ := Hhk.out _ hba) | (go_at_call 21; refine (Hhc21a.out _ (by first | assumption | exact Below.refl _ _ | exact (Below.refl _ _).drew | exact Below.drew (by assumption))).mono ?_; rintro e wa ⟨rfl, hba⟩; obtain ⟨z0, z1, z2, z3, z4⟩ := Hhk.out _ hba) | (go_at_call 35; refine (Hhc35.out _ (by first | assumption | exact Below.refl _ _ | exact (Below.refl _ _).drew | exact Below.drew (by assumption))).mono ?_; rintro e wa ⟨rfl, hba⟩; obtain ⟨z0, z1, z2, z3, z4⟩ := Hhk.out _ hba) | (go_at_call 20; refine (Hhc20.out _ (by first | assumption | exact Below.refl _ _ | exact (Below.refl _ _).drew | exact Below.drew (by assumption))).mono ?_; rintro e wa ⟨rfl, hba⟩; obtain ⟨z0, z1, z2, z3, z4⟩ := Hhk.out _ hba; have f4 : wa.frozen? ⟨w.heap.size, 4, none⟩ = false := cell_frozen (Hhbox.out.below hba (by have := Hhszb.out; omega))))
  all_goals
    have hB1 := hBb.trans (hba.mono (by have := Hhszb.out; omega))
    have hx5 := (Hhbox.out.below hba (by have := Hhszb.out; omega)).setTag T
    have hr5 : GrAt (wa.setCell ⟨w.heap.size, 4, none⟩ (.string ⟨T.toArray⟩)) (w.heap.size + 1) zeroGr := (Below.heap_setCell _ _ _ _ (by simp)).trans (Hhres.out.below hba (by have := Hhszb.out; omega))
    have hB5 : Below w.heap.size w (wa.setCell ⟨w.heap.size, 4, none⟩ (.string ⟨T.toArray⟩)) := Below.setCell hB1 (Nat.le_refl _) _
    clear z0 z1 z2 z3 z4 f4 hba hB1
    generalize wa.setCell ⟨w.heap.size, 4, none⟩ (.string ⟨T.toArray⟩) = w5 at *
    obtain ⟨y, hy⟩ : ∃ y : Gr, y = { x with tag := T } := ⟨_, rfl⟩
    rw [← hy] at hx5
    have hyv : Value.agg #[.int .i64 x.g, .int .i64 x.q, .int .i64 x.c, .int .i64 x.v, .string ⟨T.toArray⟩] = .agg y.cells := by rw [hy]; rfl
    have Hhx5 := Lib.hid hx5
    clear hx5
    have Hhr5 := Lib.hid hr5
    clear hr5
    have HhB5 := Lib.hid hB5
    clear hB5
    have Hhy := Lib.hid hy
    clear hy
    have Hhyv := Lib.hid hyv
    clear hyv
    go_wp2_with (first | (refine wpList_load_row rfl 23 _ rfl w.heap.size rfl 23 y.cells (0, 0) _ Hhx5.out und23 rfl (sz23 y) ?_) | (refine wpList_store_row rfl 23 _ _ rfl (w.heap.size + 1) y.cells rfl rfl 23 zeroGr.cells Hhr5.out (sz23 y) rfl (gr_one y) ?_))
    exact bodyPost_ret (results_cell_row (fn := Tryd.f12) rfl _ _ (w.heap.size + 1) 23 y.cells (0, 0) _ rfl (setRow_heap _ _ _ _ _ _ Hhr5.out) und23 rfl (sz23 y)) rfl ⟨by rw [← Hhyv.out]; rfl, below_setRow HhB5.out (by omega) _⟩
end Go.Proofs.YtibhihobpehpbaaDoor
