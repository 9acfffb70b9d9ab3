/- The stretches of a stream; the reference's walk of Decode; Same; short. -/
import Derived.Test.YtibhihobpehpbaaDoorF5
set_option linter.unusedSimpArgs false
set_option linter.unusedVariables false
namespace Go.Proofs.YtibhihobpehpbaaDoor
open Go.RowKit

/-- the state between two bytes: what stands behind the last flag, and the stretches before it -/
abbrev St := Option (List UInt8) × List (List UInt8)
def step (x : St) (c : UInt8) : St := if c = 126 then (some [], x.2 ++ x.1.toList) else (x.1.map (fun l => l ++ [c]), x.2)
def scan (l : List UInt8) : St := l.foldl step (none, [])
def cur (l : List UInt8) : Option (List UInt8) := (scan l).1
def strs (l : List UInt8) : List (List UInt8) := (scan l).2
theorem scan_snoc (l : List UInt8) (c : UInt8) : scan (l ++ [c]) = step (scan l) c := by unfold scan; rw [List.foldl_append]; rfl
theorem scan_succ (l : List UInt8) (k : Nat) (h : k < l.length) : scan (l.take (k + 1)) = step (scan (l.take k)) l[k] := by
  rw [List.take_succ_eq_append_getElem h, scan_snoc]

/-- the payloads of a stream -/
def pays (l : List UInt8) : List (List UInt8) := (strs l).filterMap pay
def restV (o : Option (List UInt8)) : List UInt8 := match o with
  | none => []
  | some c => if 2048 < c.length then [] else 126 :: c

theorem ex_mid (l : List UInt8) (a b : Nat) : (ByteArray.mk l.toArray).extract a b = ⟨((l.take b).drop a).toArray⟩ := by
  apply ByteArray.ext
  simp [ByteArray.data_extract, List.drop_take]
theorem filterMap_snoc {α β : Type} (f : α → Option β) (l : List α) (x : α) : (l ++ [x]).filterMap f = l.filterMap f ++ (f x).toList := by
  rw [List.filterMap_append]
  congr 1
theorem pays_len : ∀ (l : List UInt8), (pays l).length ≤ l.length := by
  intro l
  have h1 : (pays l).length ≤ (strs l).length := List.length_filterMap_le _ _
  have h2 : ∀ (l : List UInt8) (x : St), (l.foldl step x).2.length ≤ x.2.length + l.length := by
    intro l
    induction l with
    | nil => intro x; simp
    | cons c l ih =>
      intro x
      have := ih (step x c)
      have h3 : (step x c).2.length ≤ x.2.length + 1 := by
        unfold step
        split
        · simp only [List.length_append]
          have : x.1.toList.length ≤ 1 := by cases x.1 <;> simp
          omega
        · show x.2.length ≤ x.2.length + 1
          omega
      simp only [List.foldl_cons, List.length_cons]
      omega
  have := h2 l (none, [])
  unfold strs scan at h1
  simp at this
  omega

end Go.Proofs.YtibhihobpehpbaaDoor
