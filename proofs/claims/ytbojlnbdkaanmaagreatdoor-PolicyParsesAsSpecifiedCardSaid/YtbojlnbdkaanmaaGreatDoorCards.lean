/-
  DERIVED. GIVEN WITH THE SEED: THE CARDS: each row of YtbojlnbdkaanmaaGreatDoorRows.lean that lists a variable, with what it lists TIED to the program's text (the seventh form; the later family's looks); each row that meets fmt, with fmt's text TOLD by the authors' own Lean function (tested against real Go, not proved from fmt's source: count such statements apart). THE CARD IS WHAT COUNTS. Prove the row's statement (the work); the ties are given (YtbojlnbdkaanmaaGreatDoorTie.lean); close each card by the builder's one call (the guide's Derived/Test/ToyasCard.lean, 'card_holds'). Laid BY PROGRAM, IN A SANDBOX (cutbox-door.mjs). By AI agents, Wed Nov 11 2026. No macro, syntax, notation, axiom, sorry.
-/
import Derived.Test.YtbojlnbdkaanmaaGreatDoorRows
import GoSem.ClaimSeven
namespace Go.Proofs.YtbojlnbdkaanmaaGreatDoor
namespace Rows

/-- THE TIED CARD OF 'bootchainlaw29.PolicyParsesAsSpecified'. -/
def policyParsesAsSpecifiedCard : Claim7 := { stood := { row := policyParsesAsSpecifiedRow, standIns := [], harness := (true, "d2f497064e92a3dbda3558051497f8046d0898b9973c5537f73dc660d81aa80e"), looks := true }, kinds := [], alts := [], laidByText := true, laidKinds := [.data, .data, .data, .data, .sentinel, .sentinel, .funcs, .pinned], laidTests := true, laidLooks := .later }
def PolicyParsesAsSpecifiedCardSaid : Prop := Claim7.holds Tryz.pinned (.plain (OpenSpec.ofChange policyParsesAsSpecifiedSpec)) policyParsesAsSpecifiedCard

/-- THE TIED CARD OF 'bootchainlaw29.PolicyEvalMatchesSpec'. -/
def policyEvalMatchesSpecCard : Claim7 := { stood := { row := policyEvalMatchesSpecRow, standIns := [], harness := (true, "d2f497064e92a3dbda3558051497f8046d0898b9973c5537f73dc660d81aa80e"), looks := true }, kinds := [], alts := [], laidByText := true, laidKinds := [.data, .data, .data, .data, .sentinel, .sentinel, .funcs, .pinned], laidTests := true, laidLooks := .later }
def PolicyEvalMatchesSpecCardSaid : Prop := Claim7.holds Tryz.pinned (.plain (OpenSpec.ofChange policyEvalMatchesSpecSpec)) policyEvalMatchesSpecCard

/-- THE TIED CARD OF 'bootchainlaw29.PolicyRoundTrip'. -/
def policyRoundTripCard : Claim7 := { stood := { row := policyRoundTripRow, standIns := [], harness := (true, "d2f497064e92a3dbda3558051497f8046d0898b9973c5537f73dc660d81aa80e"), looks := true }, kinds := [], alts := [], laidByText := true, laidKinds := [.data, .data, .data, .data, .sentinel, .sentinel, .funcs, .pinned], laidTests := true, laidLooks := .later }
def PolicyRoundTripCardSaid : Prop := Claim7.holds Tryz.pinned (.plain (OpenSpec.ofChange policyRoundTripSpec)) policyRoundTripCard

/-- THE TIED CARD OF 'bootchainlaw29.PolicyIsMonotone'. -/
def policyIsMonotoneCard : Claim7 := { stood := { row := policyIsMonotoneRow, standIns := [], harness := (true, "d2f497064e92a3dbda3558051497f8046d0898b9973c5537f73dc660d81aa80e"), looks := true }, kinds := [], alts := [], laidByText := true, laidKinds := [.data, .data, .data, .data, .sentinel, .sentinel, .funcs, .pinned], laidTests := true, laidLooks := .later }
def PolicyIsMonotoneCardSaid : Prop := Claim7.holds Tryz.pinned (.plain (OpenSpec.ofChange policyIsMonotoneSpec)) policyIsMonotoneCard

/-- THE TIED CARD OF 'bootchainlaw29.PolicyDependsOnPoints'. -/
def policyDependsOnPointsCard : Claim7 := { stood := { row := policyDependsOnPointsRow, standIns := [], harness := (true, "d2f497064e92a3dbda3558051497f8046d0898b9973c5537f73dc660d81aa80e"), looks := true }, kinds := [], alts := [], laidByText := true, laidKinds := [.data, .data, .data, .data, .sentinel, .sentinel, .funcs, .pinned], laidTests := true, laidLooks := .later }
def PolicyDependsOnPointsCardSaid : Prop := Claim7.holds Tryz.pinned (.plain (OpenSpec.ofChange policyDependsOnPointsSpec)) policyDependsOnPointsCard

/-- THE TIED CARD OF 'bootchainlaw29.PolicyDeMorgan'. -/
def policyDeMorganCard : Claim7 := { stood := { row := policyDeMorganRow, standIns := [], harness := (true, "d2f497064e92a3dbda3558051497f8046d0898b9973c5537f73dc660d81aa80e"), looks := true }, kinds := [], alts := [], laidByText := true, laidKinds := [.data, .data, .data, .data, .sentinel, .sentinel, .funcs, .pinned], laidTests := true, laidLooks := .later }
def PolicyDeMorganCardSaid : Prop := Claim7.holds Tryz.pinned (.plain (OpenSpec.ofChange policyDeMorganSpec)) policyDeMorganCard

/-- THE SECOND FORM's CARD OF 'bootchainlaw29.PolicyParsesAsSpecified'. -/
def policyParsesAsSpecifiedUptoCard : Claim7 := { stood := { row := policyParsesAsSpecifiedUptoRow, standIns := [], harness := (true, "d2f497064e92a3dbda3558051497f8046d0898b9973c5537f73dc660d81aa80e"), looks := true }, kinds := [], alts := [], laidByText := true, laidKinds := [.data, .data, .data, .data, .sentinel, .sentinel, .funcs, .pinned], laidTests := true, laidLooks := .later }
def PolicyParsesAsSpecifiedUptoCardSaid : Prop := Claim7.holds Tryz.pinned (.plain (OpenSpec.upto policyParsesAsSpecifiedSpec)) policyParsesAsSpecifiedUptoCard

/-- THE SECOND FORM's CARD OF 'bootchainlaw29.PolicyEvalMatchesSpec'. -/
def policyEvalMatchesSpecUptoCard : Claim7 := { stood := { row := policyEvalMatchesSpecUptoRow, standIns := [], harness := (true, "d2f497064e92a3dbda3558051497f8046d0898b9973c5537f73dc660d81aa80e"), looks := true }, kinds := [], alts := [], laidByText := true, laidKinds := [.data, .data, .data, .data, .sentinel, .sentinel, .funcs, .pinned], laidTests := true, laidLooks := .later }
def PolicyEvalMatchesSpecUptoCardSaid : Prop := Claim7.holds Tryz.pinned (.plain (OpenSpec.upto policyEvalMatchesSpecSpec)) policyEvalMatchesSpecUptoCard

/-- THE SECOND FORM's CARD OF 'bootchainlaw29.PolicyRoundTrip'. -/
def policyRoundTripUptoCard : Claim7 := { stood := { row := policyRoundTripUptoRow, standIns := [], harness := (true, "d2f497064e92a3dbda3558051497f8046d0898b9973c5537f73dc660d81aa80e"), looks := true }, kinds := [], alts := [], laidByText := true, laidKinds := [.data, .data, .data, .data, .sentinel, .sentinel, .funcs, .pinned], laidTests := true, laidLooks := .later }
def PolicyRoundTripUptoCardSaid : Prop := Claim7.holds Tryz.pinned (.plain (OpenSpec.upto policyRoundTripSpec)) policyRoundTripUptoCard

/-- THE SECOND FORM's CARD OF 'bootchainlaw29.PolicyIsMonotone'. -/
def policyIsMonotoneUptoCard : Claim7 := { stood := { row := policyIsMonotoneUptoRow, standIns := [], harness := (true, "d2f497064e92a3dbda3558051497f8046d0898b9973c5537f73dc660d81aa80e"), looks := true }, kinds := [], alts := [], laidByText := true, laidKinds := [.data, .data, .data, .data, .sentinel, .sentinel, .funcs, .pinned], laidTests := true, laidLooks := .later }
def PolicyIsMonotoneUptoCardSaid : Prop := Claim7.holds Tryz.pinned (.plain (OpenSpec.upto policyIsMonotoneSpec)) policyIsMonotoneUptoCard

/-- THE SECOND FORM's CARD OF 'bootchainlaw29.PolicyDependsOnPoints'. -/
def policyDependsOnPointsUptoCard : Claim7 := { stood := { row := policyDependsOnPointsUptoRow, standIns := [], harness := (true, "d2f497064e92a3dbda3558051497f8046d0898b9973c5537f73dc660d81aa80e"), looks := true }, kinds := [], alts := [], laidByText := true, laidKinds := [.data, .data, .data, .data, .sentinel, .sentinel, .funcs, .pinned], laidTests := true, laidLooks := .later }
def PolicyDependsOnPointsUptoCardSaid : Prop := Claim7.holds Tryz.pinned (.plain (OpenSpec.upto policyDependsOnPointsSpec)) policyDependsOnPointsUptoCard

/-- THE SECOND FORM's CARD OF 'bootchainlaw29.PolicyDeMorgan'. -/
def policyDeMorganUptoCard : Claim7 := { stood := { row := policyDeMorganUptoRow, standIns := [], harness := (true, "d2f497064e92a3dbda3558051497f8046d0898b9973c5537f73dc660d81aa80e"), looks := true }, kinds := [], alts := [], laidByText := true, laidKinds := [.data, .data, .data, .data, .sentinel, .sentinel, .funcs, .pinned], laidTests := true, laidLooks := .later }
def PolicyDeMorganUptoCardSaid : Prop := Claim7.holds Tryz.pinned (.plain (OpenSpec.upto policyDeMorganSpec)) policyDeMorganUptoCard
end Rows
end Go.Proofs.YtbojlnbdkaanmaaGreatDoor
