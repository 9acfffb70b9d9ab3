/- The reference's walk of Payload. -/
import Derived.Test.YtibhihobpehpbaaDoorF4
set_option linter.unusedSimpArgs false
set_option linter.unusedVariables false
namespace Go.Proofs.YtibhihobpehpbaaDoor
open Go.RowKit

theorem own_prefix {w : World} {base g : Nat} {n cap : Nat} {l : List UInt8} (h : w.ownsRow base 5 1 (.slice (some ⟨g, 0, none⟩) n cap) n (Lib.byteCells l)) (k : Nat) (hk : k ≤ l.length) :
    (convert 63 9 (.slice (some ⟨g, 0, none⟩) k cap)).run Tryd.prog w = .ok (.string ⟨(l.take k).toArray⟩) w := by
  have hl := h.1
  rw [Lib.byteCells_length, Nat.mul_one] at hl
  have hlen : (l.take k).length = k := by rw [List.length_take]; omega
  have := run_convert_bytes_back (P := Tryd.prog) w 63 9 5 ⟨g, 0, none⟩ cap (l.take k) Tryd.underlying63 Tryd.underlying5 Tryd.underlying9 (by
    intro j hj
    rw [hlen] at hj
    rw [show (⟨g, 0, none⟩ : Addr).add j = ⟨g, j, none⟩ by simp [Addr.add]; intro e; exact e.symm, h.cellAt j (by omega)]
    simp [Lib.byteCells, List.getElem?_eq_getElem (show j < l.length by omega)])
  rw [hlen] at this
  exact this

def onto (acc : List UInt8) (o : Option (List UInt8)) : Option (List UInt8) := o.map (fun l => acc ++ l)
theorem onto_one {c : UInt8} {t : List UInt8} (acc : List UInt8) (h : c ≠ 125) : onto acc (unesc (c :: t)) = onto (acc ++ [c]) (unesc t) := by
  cases t with
  | nil => simp [unesc, h, onto]
  | cons d t =>
    rw [unesc, if_neg h]
    unfold onto
    rw [Option.map_map]
    congr 1
    funext l
    simp
theorem onto_two {d : UInt8} {t : List UInt8} (acc : List UInt8) (h : d = 93 ∨ d = 94) : onto acc (unesc (125 :: d :: t)) = onto (acc ++ [d + 32]) (unesc t) := by
  rw [unesc, if_pos rfl, if_pos h]
  unfold onto
  rw [Option.map_map]
  congr 1
  funext l
  simp
theorem onto_bad {d : UInt8} {t : List UInt8} (acc : List UInt8) (h : ¬ (d = 93 ∨ d = 94)) : onto acc (unesc (125 :: d :: t)) = none := by
  rw [unesc, if_pos rfl, if_neg h]; rfl
theorem onto_end (acc : List UInt8) : onto acc (unesc [125]) = none := rfl
theorem pay_none_un {s : List UInt8} (h : unesc s = none) : pay s = none := by
  unfold pay; rw [h]; split <;> rfl
theorem pay_some_un {s b : List UInt8} (h : unesc s = some b) (hl : s.length ≤ 2048) : pay s = if 2 ≤ b.length ∧ body (b.take (b.length - 2)) = b then some (b.take (b.length - 2)) else none := by
  unfold pay; rw [if_neg (by omega), h]

end Go.Proofs.YtibhihobpehpbaaDoor
