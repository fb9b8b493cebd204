/-
  DERIVED. GIVEN WITH THE SEED: THE CARDS: each row of YthfkhokmgolabaaDoorRows.lean that lists a variable, with what it lists TIED to the program's text (the seventh form; the later family's looks); each row that meets fmt, with fmt's text TOLD by the authors' own Lean function (tested against real Go, not proved from fmt's source: count such statements apart). THE CARD IS WHAT COUNTS. Prove the row's statement (the work); the ties are given (YthfkhokmgolabaaDoorTie.lean); close each card by the builder's one call (the guide's Derived/Test/ToyasCard.lean, 'card_holds'). Laid BY PROGRAM, IN A SANDBOX (cutbox-door.mjs). By AI agents, Wed Nov 11 2026. No macro, syntax, notation, axiom, sorry.
-/
import Derived.Test.YthfkhokmgolabaaDoorRows
import GoSem.ClaimSeven
namespace Go.Proofs.YthfkhokmgolabaaDoor
namespace Rows

/-- THE TIED CARD OF 'guerdonlaw54.ReportResult'. -/
def reportResultCard : Claim7 := { stood := { row := reportResultRow, standIns := [], harness := (true, "a0cf3d531d5d7448be59feba47d6c24b135a3d1c49a8c50477f374c09ef88a12"), looks := false }, kinds := [], alts := [], laidByText := true, laidKinds := [.data, .data, .data], laidTests := true, laidLooks := .later }
def ReportResultCardSaid : Prop := Claim7.holds Tryd.pinned (.plain (OpenSpec.ofChange reportResultSpec)) reportResultCard

/-- THE TIED CARD OF 'guerdonlaw54.ReportEvalError'. -/
def reportEvalErrorCard : Claim7 := { stood := { row := reportEvalErrorRow, standIns := [], harness := (true, "a0cf3d531d5d7448be59feba47d6c24b135a3d1c49a8c50477f374c09ef88a12"), looks := false }, kinds := [], alts := [], laidByText := true, laidKinds := [.data, .data, .data], laidTests := true, laidLooks := .later }
def ReportEvalErrorCardSaid : Prop := Claim7.holds Tryd.pinned (.plain (OpenSpec.ofChange reportEvalErrorSpec)) reportEvalErrorCard

/-- THE TIED CARD OF 'guerdonlaw54.ReportBalances'. -/
def reportBalancesCard : Claim7 := { stood := { row := reportBalancesRow, standIns := [], harness := (true, "a0cf3d531d5d7448be59feba47d6c24b135a3d1c49a8c50477f374c09ef88a12"), looks := false }, kinds := [], alts := [], laidByText := true, laidKinds := [.data, .data, .data], laidTests := true, laidLooks := .later }
def ReportBalancesCardSaid : Prop := Claim7.holds Tryd.pinned (.plain (OpenSpec.ofChange reportBalancesSpec)) reportBalancesCard

/-- THE TIED CARD OF 'guerdonlaw54.ReportPostings'. -/
def reportPostingsCard : Claim7 := { stood := { row := reportPostingsRow, standIns := [], harness := (true, "a0cf3d531d5d7448be59feba47d6c24b135a3d1c49a8c50477f374c09ef88a12"), looks := false }, kinds := [], alts := [], laidByText := true, laidKinds := [.data, .data, .data], laidTests := true, laidLooks := .later }
def ReportPostingsCardSaid : Prop := Claim7.holds Tryd.pinned (.plain (OpenSpec.ofChange reportPostingsSpec)) reportPostingsCard

/-- THE SECOND FORM's CARD OF 'guerdonlaw54.ReportResult'. -/
def reportResultUptoCard : Claim7 := { stood := { row := reportResultUptoRow, standIns := [], harness := (true, "a0cf3d531d5d7448be59feba47d6c24b135a3d1c49a8c50477f374c09ef88a12"), looks := false }, kinds := [], alts := [], laidByText := true, laidKinds := [.data, .data, .data], laidTests := true, laidLooks := .later }
def ReportResultUptoCardSaid : Prop := Claim7.holds Tryd.pinned (.plain (OpenSpec.upto reportResultSpec)) reportResultUptoCard

/-- THE SECOND FORM's CARD OF 'guerdonlaw54.ReportEvalError'. -/
def reportEvalErrorUptoCard : Claim7 := { stood := { row := reportEvalErrorUptoRow, standIns := [], harness := (true, "a0cf3d531d5d7448be59feba47d6c24b135a3d1c49a8c50477f374c09ef88a12"), looks := false }, kinds := [], alts := [], laidByText := true, laidKinds := [.data, .data, .data], laidTests := true, laidLooks := .later }
def ReportEvalErrorUptoCardSaid : Prop := Claim7.holds Tryd.pinned (.plain (OpenSpec.upto reportEvalErrorSpec)) reportEvalErrorUptoCard

/-- THE SECOND FORM's CARD OF 'guerdonlaw54.ReportBalances'. -/
def reportBalancesUptoCard : Claim7 := { stood := { row := reportBalancesUptoRow, standIns := [], harness := (true, "a0cf3d531d5d7448be59feba47d6c24b135a3d1c49a8c50477f374c09ef88a12"), looks := false }, kinds := [], alts := [], laidByText := true, laidKinds := [.data, .data, .data], laidTests := true, laidLooks := .later }
def ReportBalancesUptoCardSaid : Prop := Claim7.holds Tryd.pinned (.plain (OpenSpec.upto reportBalancesSpec)) reportBalancesUptoCard

/-- THE SECOND FORM's CARD OF 'guerdonlaw54.ReportPostings'. -/
def reportPostingsUptoCard : Claim7 := { stood := { row := reportPostingsUptoRow, standIns := [], harness := (true, "a0cf3d531d5d7448be59feba47d6c24b135a3d1c49a8c50477f374c09ef88a12"), looks := false }, kinds := [], alts := [], laidByText := true, laidKinds := [.data, .data, .data], laidTests := true, laidLooks := .later }
def ReportPostingsUptoCardSaid : Prop := Claim7.holds Tryd.pinned (.plain (OpenSpec.upto reportPostingsSpec)) reportPostingsUptoCard
end Rows
end Go.Proofs.YthfkhokmgolabaaDoor
