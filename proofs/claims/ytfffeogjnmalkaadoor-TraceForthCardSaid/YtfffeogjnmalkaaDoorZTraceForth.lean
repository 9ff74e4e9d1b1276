/-
  The law TraceForth: whatever the input is, its call returns true, and each argument reads afterwards as it read before. No condition.
-/
import Derived.Test.YtfffeogjnmalkaaDoorTr17
namespace Go.Proofs.YtfffeogjnmalkaaDoor.TraceForth
open Go Go.Proofs.YtfffeogjnmalkaaDoor
theorem proved : Rows.TraceForthCardSaid := Go.AS.Tr.card
#print axioms proved
end Go.Proofs.YtfffeogjnmalkaaDoor.TraceForth
