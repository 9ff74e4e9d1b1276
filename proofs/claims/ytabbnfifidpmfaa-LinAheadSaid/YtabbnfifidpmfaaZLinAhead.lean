/-
  The law LinAhead: whatever the input is, its call returns true, and each argument reads afterwards as it read before. No condition.
-/
import Derived.Test.YtabbnfifidpmfaaLa3
namespace Go.Proofs.Ytabbnfifidpmfaa.LinAhead
open Go Go.Proofs.Ytabbnfifidpmfaa
theorem proved : Rows.LinAheadSaid := Go.AS.Li.over
#print axioms proved
end Go.Proofs.Ytabbnfifidpmfaa.LinAhead
