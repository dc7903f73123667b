/-
  DERIVED. GIVEN WITH THE SEED: THE CARDS: each row of YtcafflmhjgnehaaGreatDoorRows.lean that lists a variable, with what it lists TIED to the program's text (the seventh form; the later family's looks); each row that meets fmt, with fmt's text TOLD by the authors' own Lean function (tested against real Go, not proved from fmt's source: count such statements apart). THE CARD IS WHAT COUNTS. Prove the row's statement (the work); the ties are given (YtcafflmhjgnehaaGreatDoorTie.lean); close each card by the builder's one call (the guide's Derived/Test/ToyasCard.lean, 'card_holds'). Laid BY PROGRAM, IN A SANDBOX (cutbox-door.mjs). By AI agents, Wed Nov 11 2026. No macro, syntax, notation, axiom, sorry.
-/
import Derived.Test.YtcafflmhjgnehaaGreatDoorRows
import GoSem.ClaimSeven
namespace Go.Proofs.YtcafflmhjgnehaaGreatDoor
namespace Rows

/-- THE TIED CARD OF 'watershedlaw16.HoldsOne'. -/
def holdsOneCard : Claim7 := { stood := { row := holdsOneRow, standIns := [], harness := (true, "88496b8fca19cd93dd7b797507beea7ef6d8dad5271beb446c7c02a51ffc4a49"), looks := false }, kinds := [], alts := [], laidByText := true, laidKinds := [.data, .pinned], laidTests := true, laidLooks := .later }
def HoldsOneCardSaid : Prop := Claim7.holds Tryz.pinned (.plain (OpenSpec.ofChange holdsOneSpec)) holdsOneCard

/-- THE TIED CARD OF 'watershedlaw16.HoldsBytes'. -/
def holdsBytesCard : Claim7 := { stood := { row := holdsBytesRow, standIns := [], harness := (true, "88496b8fca19cd93dd7b797507beea7ef6d8dad5271beb446c7c02a51ffc4a49"), looks := false }, kinds := [], alts := [], laidByText := true, laidKinds := [.data, .pinned], laidTests := true, laidLooks := .later }
def HoldsBytesCardSaid : Prop := Claim7.holds Tryz.pinned (.plain (OpenSpec.ofChange holdsBytesSpec)) holdsBytesCard

/-- THE TIED CARD OF 'watershedlaw16.HoldsSpans'. -/
def holdsSpansCard : Claim7 := { stood := { row := holdsSpansRow, standIns := [], harness := (true, "88496b8fca19cd93dd7b797507beea7ef6d8dad5271beb446c7c02a51ffc4a49"), looks := false }, kinds := [], alts := [], laidByText := true, laidKinds := [.data, .pinned], laidTests := true, laidLooks := .later }
def HoldsSpansCardSaid : Prop := Claim7.holds Tryz.pinned (.plain (OpenSpec.ofChange holdsSpansSpec)) holdsSpansCard

/-- THE TIED CARD OF 'watershedlaw16.HoldsRuns'. -/
def holdsRunsCard : Claim7 := { stood := { row := holdsRunsRow, standIns := [], harness := (true, "88496b8fca19cd93dd7b797507beea7ef6d8dad5271beb446c7c02a51ffc4a49"), looks := false }, kinds := [], alts := [], laidByText := true, laidKinds := [.data, .pinned], laidTests := true, laidLooks := .later }
def HoldsRunsCardSaid : Prop := Claim7.holds Tryz.pinned (.plain (OpenSpec.ofChange holdsRunsSpec)) holdsRunsCard

/-- THE TIED CARD OF 'watershedlaw16.HoldsNil'. -/
def holdsNilCard : Claim7 := { stood := { row := holdsNilRow, standIns := [], harness := (true, "88496b8fca19cd93dd7b797507beea7ef6d8dad5271beb446c7c02a51ffc4a49"), looks := false }, kinds := [], alts := [], laidByText := true, laidKinds := [.data, .pinned], laidTests := true, laidLooks := .later }
def HoldsNilCardSaid : Prop := Claim7.holds Tryz.pinned (.plain (OpenSpec.ofChange holdsNilSpec)) holdsNilCard

/-- THE TIED CARD OF 'watershedlaw16.HoldsEnds'. -/
def holdsEndsCard : Claim7 := { stood := { row := holdsEndsRow, standIns := [], harness := (true, "88496b8fca19cd93dd7b797507beea7ef6d8dad5271beb446c7c02a51ffc4a49"), looks := false }, kinds := [], alts := [], laidByText := true, laidKinds := [.data, .pinned], laidTests := true, laidLooks := .later }
def HoldsEndsCardSaid : Prop := Claim7.holds Tryz.pinned (.plain (OpenSpec.ofChange holdsEndsSpec)) holdsEndsCard

/-- THE SECOND FORM's CARD OF 'watershedlaw16.HoldsOne'. -/
def holdsOneUptoCard : Claim7 := { stood := { row := holdsOneUptoRow, standIns := [], harness := (true, "88496b8fca19cd93dd7b797507beea7ef6d8dad5271beb446c7c02a51ffc4a49"), looks := false }, kinds := [], alts := [], laidByText := true, laidKinds := [.data, .pinned], laidTests := true, laidLooks := .later }
def HoldsOneUptoCardSaid : Prop := Claim7.holds Tryz.pinned (.plain (OpenSpec.upto holdsOneSpec)) holdsOneUptoCard

/-- THE SECOND FORM's CARD OF 'watershedlaw16.HoldsBytes'. -/
def holdsBytesUptoCard : Claim7 := { stood := { row := holdsBytesUptoRow, standIns := [], harness := (true, "88496b8fca19cd93dd7b797507beea7ef6d8dad5271beb446c7c02a51ffc4a49"), looks := false }, kinds := [], alts := [], laidByText := true, laidKinds := [.data, .pinned], laidTests := true, laidLooks := .later }
def HoldsBytesUptoCardSaid : Prop := Claim7.holds Tryz.pinned (.plain (OpenSpec.upto holdsBytesSpec)) holdsBytesUptoCard

/-- THE SECOND FORM's CARD OF 'watershedlaw16.HoldsSpans'. -/
def holdsSpansUptoCard : Claim7 := { stood := { row := holdsSpansUptoRow, standIns := [], harness := (true, "88496b8fca19cd93dd7b797507beea7ef6d8dad5271beb446c7c02a51ffc4a49"), looks := false }, kinds := [], alts := [], laidByText := true, laidKinds := [.data, .pinned], laidTests := true, laidLooks := .later }
def HoldsSpansUptoCardSaid : Prop := Claim7.holds Tryz.pinned (.plain (OpenSpec.upto holdsSpansSpec)) holdsSpansUptoCard

/-- THE SECOND FORM's CARD OF 'watershedlaw16.HoldsRuns'. -/
def holdsRunsUptoCard : Claim7 := { stood := { row := holdsRunsUptoRow, standIns := [], harness := (true, "88496b8fca19cd93dd7b797507beea7ef6d8dad5271beb446c7c02a51ffc4a49"), looks := false }, kinds := [], alts := [], laidByText := true, laidKinds := [.data, .pinned], laidTests := true, laidLooks := .later }
def HoldsRunsUptoCardSaid : Prop := Claim7.holds Tryz.pinned (.plain (OpenSpec.upto holdsRunsSpec)) holdsRunsUptoCard

/-- THE SECOND FORM's CARD OF 'watershedlaw16.HoldsNil'. -/
def holdsNilUptoCard : Claim7 := { stood := { row := holdsNilUptoRow, standIns := [], harness := (true, "88496b8fca19cd93dd7b797507beea7ef6d8dad5271beb446c7c02a51ffc4a49"), looks := false }, kinds := [], alts := [], laidByText := true, laidKinds := [.data, .pinned], laidTests := true, laidLooks := .later }
def HoldsNilUptoCardSaid : Prop := Claim7.holds Tryz.pinned (.plain (OpenSpec.upto holdsNilSpec)) holdsNilUptoCard

/-- THE SECOND FORM's CARD OF 'watershedlaw16.HoldsEnds'. -/
def holdsEndsUptoCard : Claim7 := { stood := { row := holdsEndsUptoRow, standIns := [], harness := (true, "88496b8fca19cd93dd7b797507beea7ef6d8dad5271beb446c7c02a51ffc4a49"), looks := false }, kinds := [], alts := [], laidByText := true, laidKinds := [.data, .pinned], laidTests := true, laidLooks := .later }
def HoldsEndsUptoCardSaid : Prop := Claim7.holds Tryz.pinned (.plain (OpenSpec.upto holdsEndsSpec)) holdsEndsUptoCard
end Rows
end Go.Proofs.YtcafflmhjgnehaaGreatDoor
