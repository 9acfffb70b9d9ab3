/-
  DERIVED. GIVEN WITH THE SEED: THE CARDS: each row of YtfpobogmlhdigaaDoorRows.lean that lists a variable, with what it lists TIED to the program's text (the seventh form; the later family's looks); each row that meets fmt, with fmt's text TOLD by the authors' own Lean function (tested against real Go, not proved from fmt's source: count such statements apart). THE CARD IS WHAT COUNTS. Prove the row's statement (the work); the ties are given (YtfpobogmlhdigaaDoorTie.lean); close each card by the builder's one call (the guide's Derived/Test/ToyasCard.lean, 'card_holds'). Laid BY PROGRAM, IN A SANDBOX (cutbox-door.mjs). By AI agents, Wed Nov 11 2026. No macro, syntax, notation, axiom, sorry.
-/
import Derived.Test.YtfpobogmlhdigaaDoorRows
import GoSem.ClaimSeven
namespace Go.Proofs.YtfpobogmlhdigaaDoor
namespace Rows

/-- THE TIED CARD OF 'bournelaw23.FrameTells'. -/
def frameTellsCard : Claim7 := { stood := { row := frameTellsRow, standIns := [], harness := (true, "13c59cce64ab89f01e6913600ea75c809c2104afdb63ba8791f8e30ac58ae889"), looks := false }, kinds := [], alts := [], laidByText := true, laidKinds := [.data, .pinned], laidTests := true, laidLooks := .later }
def FrameTellsCardSaid : Prop := Claim7.holds Tryd.pinned (.plain (OpenSpec.ofChange frameTellsSpec)) frameTellsCard

/-- THE TIED CARD OF 'bournelaw23.FrameBack'. -/
def frameBackCard : Claim7 := { stood := { row := frameBackRow, standIns := [], harness := (true, "13c59cce64ab89f01e6913600ea75c809c2104afdb63ba8791f8e30ac58ae889"), looks := false }, kinds := [], alts := [], laidByText := true, laidKinds := [.data, .pinned], laidTests := true, laidLooks := .later }
def FrameBackCardSaid : Prop := Claim7.holds Tryd.pinned (.plain (OpenSpec.ofChange frameBackSpec)) frameBackCard

/-- THE TIED CARD OF 'bournelaw23.FrameCuts'. -/
def frameCutsCard : Claim7 := { stood := { row := frameCutsRow, standIns := [], harness := (true, "13c59cce64ab89f01e6913600ea75c809c2104afdb63ba8791f8e30ac58ae889"), looks := false }, kinds := [], alts := [], laidByText := true, laidKinds := [.data, .pinned], laidTests := true, laidLooks := .later }
def FrameCutsCardSaid : Prop := Claim7.holds Tryd.pinned (.plain (OpenSpec.ofChange frameCutsSpec)) frameCutsCard

/-- THE TIED CARD OF 'bournelaw23.FrameOnly'. -/
def frameOnlyCard : Claim7 := { stood := { row := frameOnlyRow, standIns := [], harness := (true, "13c59cce64ab89f01e6913600ea75c809c2104afdb63ba8791f8e30ac58ae889"), looks := false }, kinds := [], alts := [], laidByText := true, laidKinds := [.data, .pinned], laidTests := true, laidLooks := .later }
def FrameOnlyCardSaid : Prop := Claim7.holds Tryd.pinned (.plain (OpenSpec.ofChange frameOnlySpec)) frameOnlyCard

/-- THE TIED CARD OF 'bournelaw23.FrameBursts'. -/
def frameBurstsCard : Claim7 := { stood := { row := frameBurstsRow, standIns := [], harness := (true, "13c59cce64ab89f01e6913600ea75c809c2104afdb63ba8791f8e30ac58ae889"), looks := false }, kinds := [], alts := [], laidByText := true, laidKinds := [.data, .pinned], laidTests := true, laidLooks := .later }
def FrameBurstsCardSaid : Prop := Claim7.holds Tryd.pinned (.plain (OpenSpec.ofChange frameBurstsSpec)) frameBurstsCard

/-- THE TIED CARD OF 'bournelaw23.FrameFlags'. -/
def frameFlagsCard : Claim7 := { stood := { row := frameFlagsRow, standIns := [], harness := (true, "13c59cce64ab89f01e6913600ea75c809c2104afdb63ba8791f8e30ac58ae889"), looks := false }, kinds := [], alts := [], laidByText := true, laidKinds := [.data, .pinned], laidTests := true, laidLooks := .later }
def FrameFlagsCardSaid : Prop := Claim7.holds Tryd.pinned (.plain (OpenSpec.ofChange frameFlagsSpec)) frameFlagsCard

/-- THE SECOND FORM's CARD OF 'bournelaw23.FrameTells'. -/
def frameTellsUptoCard : Claim7 := { stood := { row := frameTellsUptoRow, standIns := [], harness := (true, "13c59cce64ab89f01e6913600ea75c809c2104afdb63ba8791f8e30ac58ae889"), looks := false }, kinds := [], alts := [], laidByText := true, laidKinds := [.data, .pinned], laidTests := true, laidLooks := .later }
def FrameTellsUptoCardSaid : Prop := Claim7.holds Tryd.pinned (.plain (OpenSpec.upto frameTellsSpec)) frameTellsUptoCard

/-- THE SECOND FORM's CARD OF 'bournelaw23.FrameBack'. -/
def frameBackUptoCard : Claim7 := { stood := { row := frameBackUptoRow, standIns := [], harness := (true, "13c59cce64ab89f01e6913600ea75c809c2104afdb63ba8791f8e30ac58ae889"), looks := false }, kinds := [], alts := [], laidByText := true, laidKinds := [.data, .pinned], laidTests := true, laidLooks := .later }
def FrameBackUptoCardSaid : Prop := Claim7.holds Tryd.pinned (.plain (OpenSpec.upto frameBackSpec)) frameBackUptoCard

/-- THE SECOND FORM's CARD OF 'bournelaw23.FrameCuts'. -/
def frameCutsUptoCard : Claim7 := { stood := { row := frameCutsUptoRow, standIns := [], harness := (true, "13c59cce64ab89f01e6913600ea75c809c2104afdb63ba8791f8e30ac58ae889"), looks := false }, kinds := [], alts := [], laidByText := true, laidKinds := [.data, .pinned], laidTests := true, laidLooks := .later }
def FrameCutsUptoCardSaid : Prop := Claim7.holds Tryd.pinned (.plain (OpenSpec.upto frameCutsSpec)) frameCutsUptoCard

/-- THE SECOND FORM's CARD OF 'bournelaw23.FrameOnly'. -/
def frameOnlyUptoCard : Claim7 := { stood := { row := frameOnlyUptoRow, standIns := [], harness := (true, "13c59cce64ab89f01e6913600ea75c809c2104afdb63ba8791f8e30ac58ae889"), looks := false }, kinds := [], alts := [], laidByText := true, laidKinds := [.data, .pinned], laidTests := true, laidLooks := .later }
def FrameOnlyUptoCardSaid : Prop := Claim7.holds Tryd.pinned (.plain (OpenSpec.upto frameOnlySpec)) frameOnlyUptoCard

/-- THE SECOND FORM's CARD OF 'bournelaw23.FrameBursts'. -/
def frameBurstsUptoCard : Claim7 := { stood := { row := frameBurstsUptoRow, standIns := [], harness := (true, "13c59cce64ab89f01e6913600ea75c809c2104afdb63ba8791f8e30ac58ae889"), looks := false }, kinds := [], alts := [], laidByText := true, laidKinds := [.data, .pinned], laidTests := true, laidLooks := .later }
def FrameBurstsUptoCardSaid : Prop := Claim7.holds Tryd.pinned (.plain (OpenSpec.upto frameBurstsSpec)) frameBurstsUptoCard

/-- THE SECOND FORM's CARD OF 'bournelaw23.FrameFlags'. -/
def frameFlagsUptoCard : Claim7 := { stood := { row := frameFlagsUptoRow, standIns := [], harness := (true, "13c59cce64ab89f01e6913600ea75c809c2104afdb63ba8791f8e30ac58ae889"), looks := false }, kinds := [], alts := [], laidByText := true, laidKinds := [.data, .pinned], laidTests := true, laidLooks := .later }
def FrameFlagsUptoCardSaid : Prop := Claim7.holds Tryd.pinned (.plain (OpenSpec.upto frameFlagsSpec)) frameFlagsUptoCard
end Rows
end Go.Proofs.YtfpobogmlhdigaaDoor
