/-
  DERIVED. GIVEN WITH THE SEED: THE CARDS: each row of YtfclhhhnngkdlaaDoorRows.lean that lists a variable, with what it lists TIED to the program's text (the seventh form; the later family's looks); each row that meets fmt, with fmt's text TOLD by the authors' own Lean function (tested against real Go, not proved from fmt's source: count such statements apart). THE CARD IS WHAT COUNTS. Prove the row's statement (the work); the ties are given (YtfclhhhnngkdlaaDoorTie.lean); close each card by the builder's one call (the guide's Derived/Test/ToyasCard.lean, 'card_holds'). Laid BY PROGRAM, IN A SANDBOX (cutbox-door.mjs). By AI agents, Wed Nov 11 2026. No macro, syntax, notation, axiom, sorry.
-/
import Derived.Test.YtfclhhhnngkdlaaDoorRows
import GoSem.ClaimSeven
namespace Go.Proofs.YtfclhhhnngkdlaaDoor
namespace Rows

/-- THE TIED CARD OF 'provostlaw25.LineScript'. -/
def lineScriptCard : Claim7 := { stood := { row := lineScriptRow, standIns := [], harness := (true, "770f6f546fddc807f0f7dda3748fc5bfd97bea0070fef3d8dc4bb175e5b57ff4"), looks := false }, kinds := [], alts := [], laidByText := true, laidKinds := [.data, .data, .data], laidTests := true, laidLooks := .later }
def LineScriptCardSaid : Prop := Claim7.holds Tryd.pinned (.plain (OpenSpec.ofChange lineScriptSpec)) lineScriptCard

/-- THE TIED CARD OF 'provostlaw25.LineJoins'. -/
def lineJoinsCard : Claim7 := { stood := { row := lineJoinsRow, standIns := [], harness := (true, "770f6f546fddc807f0f7dda3748fc5bfd97bea0070fef3d8dc4bb175e5b57ff4"), looks := false }, kinds := [], alts := [], laidByText := true, laidKinds := [.data, .data, .data], laidTests := true, laidLooks := .later }
def LineJoinsCardSaid : Prop := Claim7.holds Tryd.pinned (.plain (OpenSpec.ofChange lineJoinsSpec)) lineJoinsCard

/-- THE TIED CARD OF 'provostlaw25.LineAnswer'. -/
def lineAnswerCard : Claim7 := { stood := { row := lineAnswerRow, standIns := [], harness := (true, "770f6f546fddc807f0f7dda3748fc5bfd97bea0070fef3d8dc4bb175e5b57ff4"), looks := false }, kinds := [], alts := [], laidByText := true, laidKinds := [.data, .data, .data], laidTests := true, laidLooks := .later }
def LineAnswerCardSaid : Prop := Claim7.holds Tryd.pinned (.plain (OpenSpec.ofChange lineAnswerSpec)) lineAnswerCard

/-- THE TIED CARD OF 'provostlaw25.LinePlace'. -/
def linePlaceCard : Claim7 := { stood := { row := linePlaceRow, standIns := [], harness := (true, "770f6f546fddc807f0f7dda3748fc5bfd97bea0070fef3d8dc4bb175e5b57ff4"), looks := false }, kinds := [], alts := [], laidByText := true, laidKinds := [.data, .data, .data], laidTests := true, laidLooks := .later }
def LinePlaceCardSaid : Prop := Claim7.holds Tryd.pinned (.plain (OpenSpec.ofChange linePlaceSpec)) linePlaceCard

/-- THE TIED CARD OF 'provostlaw25.LineShow'. -/
def lineShowCard : Claim7 := { stood := { row := lineShowRow, standIns := [], harness := (true, "770f6f546fddc807f0f7dda3748fc5bfd97bea0070fef3d8dc4bb175e5b57ff4"), looks := false }, kinds := [], alts := [], laidByText := true, laidKinds := [.data, .data, .data], laidTests := true, laidLooks := .later }
def LineShowCardSaid : Prop := Claim7.holds Tryd.pinned (.plain (OpenSpec.ofChange lineShowSpec)) lineShowCard

/-- THE TIED CARD OF 'provostlaw25.LineBack'. -/
def lineBackCard : Claim7 := { stood := { row := lineBackRow, standIns := [], harness := (true, "770f6f546fddc807f0f7dda3748fc5bfd97bea0070fef3d8dc4bb175e5b57ff4"), looks := false }, kinds := [], alts := [], laidByText := true, laidKinds := [.data, .data, .data], laidTests := true, laidLooks := .later }
def LineBackCardSaid : Prop := Claim7.holds Tryd.pinned (.plain (OpenSpec.ofChange lineBackSpec)) lineBackCard

/-- THE SECOND FORM's CARD OF 'provostlaw25.LineScript'. -/
def lineScriptUptoCard : Claim7 := { stood := { row := lineScriptUptoRow, standIns := [], harness := (true, "770f6f546fddc807f0f7dda3748fc5bfd97bea0070fef3d8dc4bb175e5b57ff4"), looks := false }, kinds := [], alts := [], laidByText := true, laidKinds := [.data, .data, .data], laidTests := true, laidLooks := .later }
def LineScriptUptoCardSaid : Prop := Claim7.holds Tryd.pinned (.plain (OpenSpec.upto lineScriptSpec)) lineScriptUptoCard

/-- THE SECOND FORM's CARD OF 'provostlaw25.LineJoins'. -/
def lineJoinsUptoCard : Claim7 := { stood := { row := lineJoinsUptoRow, standIns := [], harness := (true, "770f6f546fddc807f0f7dda3748fc5bfd97bea0070fef3d8dc4bb175e5b57ff4"), looks := false }, kinds := [], alts := [], laidByText := true, laidKinds := [.data, .data, .data], laidTests := true, laidLooks := .later }
def LineJoinsUptoCardSaid : Prop := Claim7.holds Tryd.pinned (.plain (OpenSpec.upto lineJoinsSpec)) lineJoinsUptoCard

/-- THE SECOND FORM's CARD OF 'provostlaw25.LineAnswer'. -/
def lineAnswerUptoCard : Claim7 := { stood := { row := lineAnswerUptoRow, standIns := [], harness := (true, "770f6f546fddc807f0f7dda3748fc5bfd97bea0070fef3d8dc4bb175e5b57ff4"), looks := false }, kinds := [], alts := [], laidByText := true, laidKinds := [.data, .data, .data], laidTests := true, laidLooks := .later }
def LineAnswerUptoCardSaid : Prop := Claim7.holds Tryd.pinned (.plain (OpenSpec.upto lineAnswerSpec)) lineAnswerUptoCard

/-- THE SECOND FORM's CARD OF 'provostlaw25.LinePlace'. -/
def linePlaceUptoCard : Claim7 := { stood := { row := linePlaceUptoRow, standIns := [], harness := (true, "770f6f546fddc807f0f7dda3748fc5bfd97bea0070fef3d8dc4bb175e5b57ff4"), looks := false }, kinds := [], alts := [], laidByText := true, laidKinds := [.data, .data, .data], laidTests := true, laidLooks := .later }
def LinePlaceUptoCardSaid : Prop := Claim7.holds Tryd.pinned (.plain (OpenSpec.upto linePlaceSpec)) linePlaceUptoCard

/-- THE SECOND FORM's CARD OF 'provostlaw25.LineShow'. -/
def lineShowUptoCard : Claim7 := { stood := { row := lineShowUptoRow, standIns := [], harness := (true, "770f6f546fddc807f0f7dda3748fc5bfd97bea0070fef3d8dc4bb175e5b57ff4"), looks := false }, kinds := [], alts := [], laidByText := true, laidKinds := [.data, .data, .data], laidTests := true, laidLooks := .later }
def LineShowUptoCardSaid : Prop := Claim7.holds Tryd.pinned (.plain (OpenSpec.upto lineShowSpec)) lineShowUptoCard

/-- THE SECOND FORM's CARD OF 'provostlaw25.LineBack'. -/
def lineBackUptoCard : Claim7 := { stood := { row := lineBackUptoRow, standIns := [], harness := (true, "770f6f546fddc807f0f7dda3748fc5bfd97bea0070fef3d8dc4bb175e5b57ff4"), looks := false }, kinds := [], alts := [], laidByText := true, laidKinds := [.data, .data, .data], laidTests := true, laidLooks := .later }
def LineBackUptoCardSaid : Prop := Claim7.holds Tryd.pinned (.plain (OpenSpec.upto lineBackSpec)) lineBackUptoCard
end Rows
end Go.Proofs.YtfclhhhnngkdlaaDoor
