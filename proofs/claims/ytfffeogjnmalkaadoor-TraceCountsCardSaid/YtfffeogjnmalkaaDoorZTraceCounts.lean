/-
  The law TraceCounts: whatever the input is, its call returns true, and each argument reads afterwards as it read before. No condition.
-/
import Derived.Test.YtfffeogjnmalkaaDoorTr7
namespace Go.Proofs.YtfffeogjnmalkaaDoor.TraceCounts
open Go Go.Proofs.YtfffeogjnmalkaaDoor
theorem proved : Rows.TraceCountsCardSaid := Go.AS.Tr.card
#print axioms proved
end Go.Proofs.YtfffeogjnmalkaaDoor.TraceCounts
