/-
  No cell of these rows narrows 'for every input' (looked for: loops, veiled, ifaces, maps, wideKeys, modest, calm, conditions, laid).
  DERIVED. THE GIVEN ROWS OF THIS SEAT. 5 by the template 'for every input the law returns true; each argument reads behind the call as it read before'; 0 by the template 'total and deterministic' (their statements: YtefnpnokbanbkaaTotals.lean).
  GIVEN WITH THE SEED: the statements are not yours to turn. If you find one false, say at which input.
  Laid BY PROGRAM, IN A SANDBOX (cutbox-rows.mjs): the forced cells as the released guide's own fill.sh prints them over the translation 00e508afa651a7e7… (all of the seat's roots in one cut). By AI agents, Wed Nov 11 2026. No macro, syntax, notation, axiom, sorry.
-/
import Derived.Test.YtefnpnokbanbkaaChecked
import GoSem.Claim
import GoSem.ClaimJoined
import GoSem.ClaimMapViews
import Derived.JoinedTies
import Derived.KernelRfl
namespace Go.Proofs.Ytefnpnokbanbkaa
/- THE CELL 'sum', in the pinned program and in every row, IS THE sha256 OF THE DUMP (.gsa) THAT YtefnpnokbanbkaaProg.lean LOADS. Nothing in Lean hashes anything: it is a label: what it is worth is what the hold of that sum in a sandbox is worth. -/
noncomputable def Try.pinned : Pinned := { name := "ytefnpnokbanbkaa", sum := "00e508afa651a7e7d971906d4792745701e6f47863ab00f8be54f7d7535df10f", checked := Try.checked }
namespace Rows
def none {H : Type} : Left H := { results := [], args := [] }

/-- 'catchmentlaw32.FairWindows': WHATEVER THE INPUT: true; the input reads as it did. -/
def fairWindowsSpec : ChangeSpec := { name := "fairWindows", fn := fun _ => fun
  | [d1, d2, d3] => { results := [.lit (.bool true)], args := [d1, d2, d3] }
  | _ => none }
def fairWindowsRow : OpenClaim := { program := "ytefnpnokbanbkaa", sum := "00e508afa651a7e7d971906d4792745701e6f47863ab00f8be54f7d7535df10f", func := "catchment/catchmentlaw32.FairWindows", spec := "fairWindows", apart := false }
def FairWindowsSaid : Prop := fairWindowsRow.holds Try.pinned (OpenSpec.ofChange fairWindowsSpec)

/-- ITS FALSE NEIGHBOUR: 'it returns false'. Refute it at one input. -/
def fairWindowsWrong : ChangeSpec := { name := "fairWindows", fn := fun _ => fun
  | [d1, d2, d3] => { results := [.lit (.bool false)], args := [d1, d2, d3] }
  | _ => none }
def FairWindowsWrongFalsely : Prop := fairWindowsRow.holds Try.pinned (OpenSpec.ofChange fairWindowsWrong)

/-- 'catchmentlaw32.FairTurns': WHATEVER THE INPUT: true; the input reads as it did. -/
def fairTurnsSpec : ChangeSpec := { name := "fairTurns", fn := fun _ => fun
  | [d1, d2, d3] => { results := [.lit (.bool true)], args := [d1, d2, d3] }
  | _ => none }
def fairTurnsRow : OpenClaim := { program := "ytefnpnokbanbkaa", sum := "00e508afa651a7e7d971906d4792745701e6f47863ab00f8be54f7d7535df10f", func := "catchment/catchmentlaw32.FairTurns", spec := "fairTurns", apart := false }
def FairTurnsSaid : Prop := fairTurnsRow.holds Try.pinned (OpenSpec.ofChange fairTurnsSpec)

/-- ITS FALSE NEIGHBOUR: 'it returns false'. Refute it at one input. -/
def fairTurnsWrong : ChangeSpec := { name := "fairTurns", fn := fun _ => fun
  | [d1, d2, d3] => { results := [.lit (.bool false)], args := [d1, d2, d3] }
  | _ => none }
def FairTurnsWrongFalsely : Prop := fairTurnsRow.holds Try.pinned (OpenSpec.ofChange fairTurnsWrong)

/-- 'catchmentlaw40.SeedNumbers': WHATEVER THE INPUT: true; the input reads as it did. -/
def seedNumbersSpec : ChangeSpec := { name := "seedNumbers", fn := fun _ => fun
  | [d1, d2, d3, d4, d5] => { results := [.lit (.bool true)], args := [d1, d2, d3, d4, d5] }
  | _ => none }
def seedNumbersRow : OpenClaim := { program := "ytefnpnokbanbkaa", sum := "00e508afa651a7e7d971906d4792745701e6f47863ab00f8be54f7d7535df10f", func := "catchment/catchmentlaw40.SeedNumbers", spec := "seedNumbers", inPlace := ["internal/abi.NoEscape", "internal/bytealg.MakeNoZero"], apart := false }
def SeedNumbersSaid : Prop := seedNumbersRow.holds Try.pinned (OpenSpec.ofChange seedNumbersSpec)

/-- ITS FALSE NEIGHBOUR: 'it returns false'. Refute it at one input. -/
def seedNumbersWrong : ChangeSpec := { name := "seedNumbers", fn := fun _ => fun
  | [d1, d2, d3, d4, d5] => { results := [.lit (.bool false)], args := [d1, d2, d3, d4, d5] }
  | _ => none }
def SeedNumbersWrongFalsely : Prop := seedNumbersRow.holds Try.pinned (OpenSpec.ofChange seedNumbersWrong)

/-- 'catchmentlaw32.FairThings': WHATEVER THE INPUT: true; the input reads as it did. -/
def fairThingsSpec : ChangeSpec := { name := "fairThings", fn := fun _ => fun
  | [d1, d2, d3, d4, d5] => { results := [.lit (.bool true)], args := [d1, d2, d3, d4, d5] }
  | _ => none }
def fairThingsRow : OpenClaim := { program := "ytefnpnokbanbkaa", sum := "00e508afa651a7e7d971906d4792745701e6f47863ab00f8be54f7d7535df10f", func := "catchment/catchmentlaw32.FairThings", spec := "fairThings", unfollowed := true, recurses := true, apart := false }
def FairThingsSaid : Prop := fairThingsRow.holds Try.pinned (OpenSpec.ofChange fairThingsSpec)

/-- ITS FALSE NEIGHBOUR: 'it returns false'. Refute it at one input. -/
def fairThingsWrong : ChangeSpec := { name := "fairThings", fn := fun _ => fun
  | [d1, d2, d3, d4, d5] => { results := [.lit (.bool false)], args := [d1, d2, d3, d4, d5] }
  | _ => none }
def FairThingsWrongFalsely : Prop := fairThingsRow.holds Try.pinned (OpenSpec.ofChange fairThingsWrong)

/-- 'catchmentlaw40.SeedScripts': WHATEVER THE INPUT: true; the input reads as it did. -/
def seedScriptsSpec : ChangeSpec := { name := "seedScripts", fn := fun _ => fun
  | [d1, d2, d3, d4] => { results := [.lit (.bool true)], args := [d1, d2, d3, d4] }
  | _ => none }
def seedScriptsRow : OpenClaim := { program := "ytefnpnokbanbkaa", sum := "00e508afa651a7e7d971906d4792745701e6f47863ab00f8be54f7d7535df10f", func := "catchment/catchmentlaw40.SeedScripts", spec := "seedScripts", inPlace := ["internal/abi.NoEscape", "internal/bytealg.MakeNoZero"], apart := false }
def SeedScriptsSaid : Prop := seedScriptsRow.holds Try.pinned (OpenSpec.ofChange seedScriptsSpec)

/-- ITS FALSE NEIGHBOUR: 'it returns false'. Refute it at one input. -/
def seedScriptsWrong : ChangeSpec := { name := "seedScripts", fn := fun _ => fun
  | [d1, d2, d3, d4] => { results := [.lit (.bool false)], args := [d1, d2, d3, d4] }
  | _ => none }
def SeedScriptsWrongFalsely : Prop := seedScriptsRow.holds Try.pinned (OpenSpec.ofChange seedScriptsWrong)

/- THE SECOND FORM. 'bulk': how many values and letters a reading holds, each counted each time it is reached (what is shared counts as often as it is met; a slice's spare places count too). A statement '..UptoSaid' is the law's where the arguments, and the package variables that the reading takes, are together of bulk at most 1048576: NARROWER than '..Said'. Prove '..Said' where nothing that the law and all that it calls make is longer than what came in: it says more and counts as full. Else prove '..UptoSaid'. A law counts once. -/
mutual
def uptoBulk {H : Type} : DataW H → Nat
  | .lit (.string bytes) => bytes.length + 1
  | .lit _ => 1
  | .nil => 1
  | .ptr d => uptoBulk d + 1
  | .slice elems spare => uptoBulkAll elems + uptoBulkAll spare + 1
  | .agg parts => uptoBulkAll parts + 1
  | .iface _ d => uptoBulk d + 1
  | .map entries => uptoBulkEntries entries + 1
  | .held _ => 1
def uptoBulkAll {H : Type} : List (DataW H) → Nat
  | [] => 0
  | d :: r => uptoBulk d + uptoBulkAll r
def uptoBulkEntries {H : Type} : List (Lit × DataW H) → Nat
  | [] => 0
  | x :: r => uptoBulkEntry x + uptoBulkEntries r
def uptoBulkEntry {H : Type} : Lit × DataW H → Nat
  | (.string bytes, d) => bytes.length + uptoBulk d + 1
  | (_, d) => uptoBulk d + 1
 end
def uptoSmall : (H : Type) → List (DataW H) → Bool := fun _ ds => decide (uptoBulkAll ds ≤ 1048576)
def OpenSpec.upto (s : _root_.Go.ChangeSpec) : _root_.Go.OpenSpec := { _root_.Go.OpenSpec.ofChange s with cond := some uptoSmall }

/-- 'catchmentlaw32.FairWindows', WHERE WHAT IT READS IS OF BULK AT MOST 1048576: true; the input reads as it did. -/
def fairWindowsUptoRow : OpenClaim := { program := "ytefnpnokbanbkaa", sum := "00e508afa651a7e7d971906d4792745701e6f47863ab00f8be54f7d7535df10f", func := "catchment/catchmentlaw32.FairWindows", spec := "fairWindows", apart := false, narrowed := true }
def FairWindowsUptoSaid : Prop := fairWindowsUptoRow.holds Try.pinned (OpenSpec.upto fairWindowsSpec)

/-- 'catchmentlaw32.FairTurns', WHERE WHAT IT READS IS OF BULK AT MOST 1048576: true; the input reads as it did. -/
def fairTurnsUptoRow : OpenClaim := { program := "ytefnpnokbanbkaa", sum := "00e508afa651a7e7d971906d4792745701e6f47863ab00f8be54f7d7535df10f", func := "catchment/catchmentlaw32.FairTurns", spec := "fairTurns", apart := false, narrowed := true }
def FairTurnsUptoSaid : Prop := fairTurnsUptoRow.holds Try.pinned (OpenSpec.upto fairTurnsSpec)

/-- 'catchmentlaw40.SeedNumbers', WHERE WHAT IT READS IS OF BULK AT MOST 1048576: true; the input reads as it did. -/
def seedNumbersUptoRow : OpenClaim := { program := "ytefnpnokbanbkaa", sum := "00e508afa651a7e7d971906d4792745701e6f47863ab00f8be54f7d7535df10f", func := "catchment/catchmentlaw40.SeedNumbers", spec := "seedNumbers", inPlace := ["internal/abi.NoEscape", "internal/bytealg.MakeNoZero"], apart := false, narrowed := true }
def SeedNumbersUptoSaid : Prop := seedNumbersUptoRow.holds Try.pinned (OpenSpec.upto seedNumbersSpec)

/-- 'catchmentlaw32.FairThings', WHERE WHAT IT READS IS OF BULK AT MOST 1048576: true; the input reads as it did. -/
def fairThingsUptoRow : OpenClaim := { program := "ytefnpnokbanbkaa", sum := "00e508afa651a7e7d971906d4792745701e6f47863ab00f8be54f7d7535df10f", func := "catchment/catchmentlaw32.FairThings", spec := "fairThings", unfollowed := true, recurses := true, apart := false, narrowed := true }
def FairThingsUptoSaid : Prop := fairThingsUptoRow.holds Try.pinned (OpenSpec.upto fairThingsSpec)

/-- 'catchmentlaw40.SeedScripts', WHERE WHAT IT READS IS OF BULK AT MOST 1048576: true; the input reads as it did. -/
def seedScriptsUptoRow : OpenClaim := { program := "ytefnpnokbanbkaa", sum := "00e508afa651a7e7d971906d4792745701e6f47863ab00f8be54f7d7535df10f", func := "catchment/catchmentlaw40.SeedScripts", spec := "seedScripts", inPlace := ["internal/abi.NoEscape", "internal/bytealg.MakeNoZero"], apart := false, narrowed := true }
def SeedScriptsUptoSaid : Prop := seedScriptsUptoRow.holds Try.pinned (OpenSpec.upto seedScriptsSpec)

end Rows
end Go.Proofs.Ytefnpnokbanbkaa
