/-
  The law FairWindows: whatever the input is, its call returns true, and each argument reads afterwards as it read before. No condition.
-/
import Derived.Test.YtefnpnokbanbkaaFx5
namespace Go.Proofs.Ytefnpnokbanbkaa.FairWindows
open Go Go.Proofs.Ytefnpnokbanbkaa
theorem proved : Rows.FairWindowsSaid := Go.AS.Fw.over
#print axioms proved
end Go.Proofs.Ytefnpnokbanbkaa.FairWindows
