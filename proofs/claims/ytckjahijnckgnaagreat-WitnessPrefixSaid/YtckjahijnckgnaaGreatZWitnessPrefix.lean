/-
  The law WitnessPrefix: whatever the input is, its call returns true, and each argument reads afterwards as it read before. No condition.
-/
import Derived.Test.YtckjahijnckgnaaGreatWi7
namespace Go.Proofs.YtckjahijnckgnaaGreat.WitnessPrefix
open Go Go.Proofs.YtckjahijnckgnaaGreat
theorem proved : Rows.WitnessPrefixSaid := Go.AS.Wi.over
#print axioms proved
end Go.Proofs.YtckjahijnckgnaaGreat.WitnessPrefix
