/-
  The law CutFresh: whatever the input is, its call returns true, and each argument reads afterwards as it read before. No condition.
-/
import Derived.Test.YtabbnfifidpmfaaCf6
namespace Go.Proofs.Ytabbnfifidpmfaa.CutFresh
open Go Go.Proofs.Ytabbnfifidpmfaa
theorem proved : Rows.CutFreshSaid := Go.AS.Th.over
#print axioms proved
end Go.Proofs.Ytabbnfifidpmfaa.CutFresh
