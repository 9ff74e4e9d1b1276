/-
  The law SeedScripts: whatever the input is, its call returns true, and each argument reads afterwards as it read before. No condition.
-/
import Derived.Test.YtefnpnokbanbkaaSd21
namespace Go.Proofs.Ytefnpnokbanbkaa.SeedScripts
open Go Go.Proofs.Ytefnpnokbanbkaa
theorem proved : Rows.SeedScriptsSaid := Go.AS.Sd.over
#print axioms proved
end Go.Proofs.Ytefnpnokbanbkaa.SeedScripts
