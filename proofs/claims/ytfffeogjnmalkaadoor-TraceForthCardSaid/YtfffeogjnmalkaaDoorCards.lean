/-
  DERIVED. GIVEN WITH THE SEED: THE CARDS: each row of YtfffeogjnmalkaaDoorRows.lean that lists a variable, with what it lists TIED to the program's text (the seventh form; the later family's looks); each row that meets fmt, with fmt's text TOLD by the authors' own Lean function (tested against real Go, not proved from fmt's source: count such statements apart). THE CARD IS WHAT COUNTS. Prove the row's statement (the work); the ties are given (YtfffeogjnmalkaaDoorTie.lean); close each card by the builder's one call (the guide's Derived/Test/ToyasCard.lean, 'card_holds'). Laid BY PROGRAM, IN A SANDBOX (cutbox-door.mjs). By AI agents, Wed Nov 11 2026. No macro, syntax, notation, axiom, sorry.
-/
import Derived.Test.YtfffeogjnmalkaaDoorRows
import GoSem.ClaimSeven
namespace Go.Proofs.YtfffeogjnmalkaaDoor
namespace Rows

/-- THE TIED CARD OF 'catchmentlaw36.TracePrints'. -/
def tracePrintsCard : Claim7 := { stood := { row := tracePrintsRow, standIns := [], harness := (true, "b02ba6128adb1da53fdec1011bacb482b8eac168622a17e62dcab3a8ab8adb52"), looks := false }, kinds := [], alts := [], laidByText := true, laidKinds := [.data, .data, .data, .data, .listed, .data, .pinned], laidTests := true, laidLooks := .later }
def TracePrintsCardSaid : Prop := Claim7.holds Tryd.pinned (.plain (OpenSpec.ofChange tracePrintsSpec)) tracePrintsCard

/-- THE TIED CARD OF 'catchmentlaw36.TraceForth'. -/
def traceForthCard : Claim7 := { stood := { row := traceForthRow, standIns := [], harness := (true, "b02ba6128adb1da53fdec1011bacb482b8eac168622a17e62dcab3a8ab8adb52"), looks := false }, kinds := [], alts := [], laidByText := true, laidKinds := [.data, .data, .data, .data, .listed, .data, .pinned], laidTests := true, laidLooks := .later }
def TraceForthCardSaid : Prop := Claim7.holds Tryd.pinned (.plain (OpenSpec.ofChange traceForthSpec)) traceForthCard

/-- THE TIED CARD OF 'catchmentlaw36.TraceCounts'. -/
def traceCountsCard : Claim7 := { stood := { row := traceCountsRow, standIns := [], harness := (true, "b02ba6128adb1da53fdec1011bacb482b8eac168622a17e62dcab3a8ab8adb52"), looks := false }, kinds := [], alts := [], laidByText := true, laidKinds := [.data, .data, .data, .data, .listed, .data, .pinned], laidTests := true, laidLooks := .later }
def TraceCountsCardSaid : Prop := Claim7.holds Tryd.pinned (.plain (OpenSpec.ofChange traceCountsSpec)) traceCountsCard

/-- THE SECOND FORM's CARD OF 'catchmentlaw36.TracePrints'. -/
def tracePrintsUptoCard : Claim7 := { stood := { row := tracePrintsUptoRow, standIns := [], harness := (true, "b02ba6128adb1da53fdec1011bacb482b8eac168622a17e62dcab3a8ab8adb52"), looks := false }, kinds := [], alts := [], laidByText := true, laidKinds := [.data, .data, .data, .data, .listed, .data, .pinned], laidTests := true, laidLooks := .later }
def TracePrintsUptoCardSaid : Prop := Claim7.holds Tryd.pinned (.plain (OpenSpec.upto tracePrintsSpec)) tracePrintsUptoCard

/-- THE SECOND FORM's CARD OF 'catchmentlaw36.TraceForth'. -/
def traceForthUptoCard : Claim7 := { stood := { row := traceForthUptoRow, standIns := [], harness := (true, "b02ba6128adb1da53fdec1011bacb482b8eac168622a17e62dcab3a8ab8adb52"), looks := false }, kinds := [], alts := [], laidByText := true, laidKinds := [.data, .data, .data, .data, .listed, .data, .pinned], laidTests := true, laidLooks := .later }
def TraceForthUptoCardSaid : Prop := Claim7.holds Tryd.pinned (.plain (OpenSpec.upto traceForthSpec)) traceForthUptoCard

/-- THE SECOND FORM's CARD OF 'catchmentlaw36.TraceCounts'. -/
def traceCountsUptoCard : Claim7 := { stood := { row := traceCountsUptoRow, standIns := [], harness := (true, "b02ba6128adb1da53fdec1011bacb482b8eac168622a17e62dcab3a8ab8adb52"), looks := false }, kinds := [], alts := [], laidByText := true, laidKinds := [.data, .data, .data, .data, .listed, .data, .pinned], laidTests := true, laidLooks := .later }
def TraceCountsUptoCardSaid : Prop := Claim7.holds Tryd.pinned (.plain (OpenSpec.upto traceCountsSpec)) traceCountsUptoCard
end Rows
end Go.Proofs.YtfffeogjnmalkaaDoor
