/-
  The law FairThings: whatever the input is, its call returns true, and each argument reads afterwards as it read before. No condition.
-/
import Derived.Test.YtefnpnokbanbkaaTh24
namespace Go.Proofs.Ytefnpnokbanbkaa.FairThings
open Go Go.Proofs.Ytefnpnokbanbkaa
theorem proved : Rows.FairThingsSaid := Go.AS.Th.over
#print axioms proved
end Go.Proofs.Ytefnpnokbanbkaa.FairThings
