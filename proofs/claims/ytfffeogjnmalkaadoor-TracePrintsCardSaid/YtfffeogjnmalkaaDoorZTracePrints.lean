/-
  The law TracePrints: whatever the input is, its call returns true, and each argument reads afterwards as it read before. No condition.
-/
import Derived.Test.YtfffeogjnmalkaaDoorTr15
namespace Go.Proofs.YtfffeogjnmalkaaDoor.TracePrints
open Go Go.Proofs.YtfffeogjnmalkaaDoor
theorem proved : Rows.TracePrintsCardSaid := Go.AS.Tr.card
#print axioms proved
end Go.Proofs.YtfffeogjnmalkaaDoor.TracePrints
