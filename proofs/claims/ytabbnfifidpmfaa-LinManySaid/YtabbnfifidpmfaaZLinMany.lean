/-
  The law LinMany: whatever the input is, its call returns true, and each argument reads afterwards as it read before. No condition.
-/
import Derived.Test.YtabbnfifidpmfaaLm8
namespace Go.Proofs.Ytabbnfifidpmfaa.LinMany
open Go Go.Proofs.Ytabbnfifidpmfaa
theorem proved : Rows.LinManySaid := Go.AS.Li.over
#print axioms proved
end Go.Proofs.Ytabbnfifidpmfaa.LinMany
