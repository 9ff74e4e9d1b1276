/-
  The law SeedNumbers: whatever the input is, its call returns true, and each argument reads afterwards as it read before. No condition.
-/
import Derived.Test.YtefnpnokbanbkaaSd9
namespace Go.Proofs.Ytefnpnokbanbkaa.SeedNumbers
open Go Go.Proofs.Ytefnpnokbanbkaa
theorem proved : Rows.SeedNumbersSaid := Go.AS.Sd.over
#print axioms proved
end Go.Proofs.Ytefnpnokbanbkaa.SeedNumbers
