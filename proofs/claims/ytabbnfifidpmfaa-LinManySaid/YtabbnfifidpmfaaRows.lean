/-
  No cell of these rows narrows 'for every input' (looked for: loops, veiled, ifaces, maps, wideKeys, modest, calm, conditions, laid).
  DERIVED. THE GIVEN ROWS OF THIS SEAT. 3 by the template 'for every input the law returns true; each argument reads behind the call as it read before'; 0 by the template 'total and deterministic' (their statements: YtabbnfifidpmfaaTotals.lean).
  GIVEN WITH THE SEED: the statements are not yours to turn. If you find one false, say at which input.
  Laid BY PROGRAM, IN A SANDBOX (cutbox-rows.mjs): the forced cells as the released guide's own fill.sh prints them over the translation 914bf22a5064d441… (all of the seat's roots in one cut). By AI agents, Wed Nov 11 2026. No macro, syntax, notation, axiom, sorry.
-/
import Derived.Test.YtabbnfifidpmfaaChecked
import GoSem.Claim
import GoSem.ClaimJoined
import GoSem.ClaimMapViews
import Derived.JoinedTies
import Derived.KernelRfl
namespace Go.Proofs.Ytabbnfifidpmfaa
/- THE CELL 'sum', in the pinned program and in every row, IS THE sha256 OF THE DUMP (.gsa) THAT YtabbnfifidpmfaaProg.lean LOADS. Nothing in Lean hashes anything: it is a label: what it is worth is what the hold of that sum in a sandbox is worth. -/
noncomputable def Try.pinned : Pinned := { name := "ytabbnfifidpmfaa", sum := "914bf22a5064d44110a60ad0193613d4620817bdca8b94fb08441d70e21777a6", checked := Try.checked }
namespace Rows
def none {H : Type} : Left H := { results := [], args := [] }

/-- 'catchmentlaw31.LinAhead': WHATEVER THE INPUT: true; the input reads as it did. -/
def linAheadSpec : ChangeSpec := { name := "linAhead", fn := fun _ => fun
  | [d1, d2, d3] => { results := [.lit (.bool true)], args := [d1, d2, d3] }
  | _ => none }
def linAheadRow : OpenClaim := { program := "ytabbnfifidpmfaa", sum := "914bf22a5064d44110a60ad0193613d4620817bdca8b94fb08441d70e21777a6", func := "catchment/catchmentlaw31.LinAhead", spec := "linAhead", inPlace := ["maps.clone"], unfollowed := true, recurses := true, apart := false }
def LinAheadSaid : Prop := linAheadRow.holds Try.pinned (OpenSpec.ofChange linAheadSpec)

/-- ITS FALSE NEIGHBOUR: 'it returns false'. Refute it at one input. -/
def linAheadWrong : ChangeSpec := { name := "linAhead", fn := fun _ => fun
  | [d1, d2, d3] => { results := [.lit (.bool false)], args := [d1, d2, d3] }
  | _ => none }
def LinAheadWrongFalsely : Prop := linAheadRow.holds Try.pinned (OpenSpec.ofChange linAheadWrong)

/-- 'catchmentlaw31.LinMany': WHATEVER THE INPUT: true; the input reads as it did. -/
def linManySpec : ChangeSpec := { name := "linMany", fn := fun _ => fun
  | [d1, d2, d3, d4] => { results := [.lit (.bool true)], args := [d1, d2, d3, d4] }
  | _ => none }
def linManyRow : OpenClaim := { program := "ytabbnfifidpmfaa", sum := "914bf22a5064d44110a60ad0193613d4620817bdca8b94fb08441d70e21777a6", func := "catchment/catchmentlaw31.LinMany", spec := "linMany", inPlace := ["maps.clone"], unfollowed := true, recurses := true, apart := false }
def LinManySaid : Prop := linManyRow.holds Try.pinned (OpenSpec.ofChange linManySpec)

/-- ITS FALSE NEIGHBOUR: 'it returns false'. Refute it at one input. -/
def linManyWrong : ChangeSpec := { name := "linMany", fn := fun _ => fun
  | [d1, d2, d3, d4] => { results := [.lit (.bool false)], args := [d1, d2, d3, d4] }
  | _ => none }
def LinManyWrongFalsely : Prop := linManyRow.holds Try.pinned (OpenSpec.ofChange linManyWrong)

/-- 'catchmentlaw18.CutFresh': WHATEVER THE INPUT: true; the input reads as it did. -/
def cutFreshSpec : ChangeSpec := { name := "cutFresh", fn := fun _ => fun
  | [d1, d2] => { results := [.lit (.bool true)], args := [d1, d2] }
  | _ => none }
def cutFreshRow : OpenClaim := { program := "ytabbnfifidpmfaa", sum := "914bf22a5064d44110a60ad0193613d4620817bdca8b94fb08441d70e21777a6", func := "catchment/catchmentlaw18.CutFresh", spec := "cutFresh", inPlace := ["internal/bytealg.abigen_runtime_cmpstring", "slices.overlaps[string]", "slices.overlaps[int]"], unfollowed := true, recurses := true, apart := false }
def CutFreshSaid : Prop := cutFreshRow.holds Try.pinned (OpenSpec.ofChange cutFreshSpec)

/-- ITS FALSE NEIGHBOUR: 'it returns false'. Refute it at one input. -/
def cutFreshWrong : ChangeSpec := { name := "cutFresh", fn := fun _ => fun
  | [d1, d2] => { results := [.lit (.bool false)], args := [d1, d2] }
  | _ => none }
def CutFreshWrongFalsely : Prop := cutFreshRow.holds Try.pinned (OpenSpec.ofChange cutFreshWrong)

/- THE SECOND FORM. 'bulk': how many values and letters a reading holds, each counted each time it is reached (what is shared counts as often as it is met; a slice's spare places count too). A statement '..UptoSaid' is the law's where the arguments, and the package variables that the reading takes, are together of bulk at most 1048576: NARROWER than '..Said'. Prove '..Said' where nothing that the law and all that it calls make is longer than what came in: it says more and counts as full. Else prove '..UptoSaid'. A law counts once. -/
mutual
def uptoBulk {H : Type} : DataW H → Nat
  | .lit (.string bytes) => bytes.length + 1
  | .lit _ => 1
  | .nil => 1
  | .ptr d => uptoBulk d + 1
  | .slice elems spare => uptoBulkAll elems + uptoBulkAll spare + 1
  | .agg parts => uptoBulkAll parts + 1
  | .iface _ d => uptoBulk d + 1
  | .map entries => uptoBulkEntries entries + 1
  | .held _ => 1
def uptoBulkAll {H : Type} : List (DataW H) → Nat
  | [] => 0
  | d :: r => uptoBulk d + uptoBulkAll r
def uptoBulkEntries {H : Type} : List (Lit × DataW H) → Nat
  | [] => 0
  | x :: r => uptoBulkEntry x + uptoBulkEntries r
def uptoBulkEntry {H : Type} : Lit × DataW H → Nat
  | (.string bytes, d) => bytes.length + uptoBulk d + 1
  | (_, d) => uptoBulk d + 1
 end
def uptoSmall : (H : Type) → List (DataW H) → Bool := fun _ ds => decide (uptoBulkAll ds ≤ 1048576)
def OpenSpec.upto (s : _root_.Go.ChangeSpec) : _root_.Go.OpenSpec := { _root_.Go.OpenSpec.ofChange s with cond := some uptoSmall }

/-- 'catchmentlaw31.LinAhead', WHERE WHAT IT READS IS OF BULK AT MOST 1048576: true; the input reads as it did. -/
def linAheadUptoRow : OpenClaim := { program := "ytabbnfifidpmfaa", sum := "914bf22a5064d44110a60ad0193613d4620817bdca8b94fb08441d70e21777a6", func := "catchment/catchmentlaw31.LinAhead", spec := "linAhead", inPlace := ["maps.clone"], unfollowed := true, recurses := true, apart := false, narrowed := true }
def LinAheadUptoSaid : Prop := linAheadUptoRow.holds Try.pinned (OpenSpec.upto linAheadSpec)

/-- 'catchmentlaw31.LinMany', WHERE WHAT IT READS IS OF BULK AT MOST 1048576: true; the input reads as it did. -/
def linManyUptoRow : OpenClaim := { program := "ytabbnfifidpmfaa", sum := "914bf22a5064d44110a60ad0193613d4620817bdca8b94fb08441d70e21777a6", func := "catchment/catchmentlaw31.LinMany", spec := "linMany", inPlace := ["maps.clone"], unfollowed := true, recurses := true, apart := false, narrowed := true }
def LinManyUptoSaid : Prop := linManyUptoRow.holds Try.pinned (OpenSpec.upto linManySpec)

/-- 'catchmentlaw18.CutFresh', WHERE WHAT IT READS IS OF BULK AT MOST 1048576: true; the input reads as it did. -/
def cutFreshUptoRow : OpenClaim := { program := "ytabbnfifidpmfaa", sum := "914bf22a5064d44110a60ad0193613d4620817bdca8b94fb08441d70e21777a6", func := "catchment/catchmentlaw18.CutFresh", spec := "cutFresh", inPlace := ["internal/bytealg.abigen_runtime_cmpstring", "slices.overlaps[string]", "slices.overlaps[int]"], unfollowed := true, recurses := true, apart := false, narrowed := true }
def CutFreshUptoSaid : Prop := cutFreshUptoRow.holds Try.pinned (OpenSpec.upto cutFreshSpec)

end Rows
end Go.Proofs.Ytabbnfifidpmfaa
