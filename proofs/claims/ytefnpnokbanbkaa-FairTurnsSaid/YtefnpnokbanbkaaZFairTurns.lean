/-
  The law FairTurns: whatever the input is, its call returns true, and each argument reads afterwards as it read before. No condition.
-/
import Derived.Test.YtefnpnokbanbkaaFt6
namespace Go.Proofs.Ytefnpnokbanbkaa.FairTurns
open Go Go.Proofs.Ytefnpnokbanbkaa
theorem proved : Rows.FairTurnsSaid := Go.AS.Ft.over
#print axioms proved
end Go.Proofs.Ytefnpnokbanbkaa.FairTurns
