import Derived.Test.YtefnpnokbanbkaaProg
import Derived.KernelRfl
import Derived.Test.YtefnpnokbanbkaaRd0
import Derived.Test.YtefnpnokbanbkaaSd0
set_option linter.all false
namespace Go.AS.Sd
open Go Go.AS Go.Proofs Go.ChangeShapes Go.WideShapes Go.ChangeAt Go.RowKit
set_option maxRecDepth 100000
def okI (n : Int) : Prop := -9223372036854775808 ≤ n ∧ n ≤ 9223372036854775807
def okS (s : Str) : Prop := s.length ≤ maxLen
def okL {α : Type} (ok : α → Prop) (s : Sl α) : Prop := (s.nil = true → s.l = []) ∧ s.l.length ≤ maxLen ∧ ∀ a ∈ s.l, ok a
theorem rC_uint64 : RdC Try.prog 31 UInt64 (fun _ => True) := rd_u64 Try.underlying31 (by kernel_rfl)
theorem rA_uint64 : RdA Try.prog 31 UInt64 (fun _ => True) := rdA_one rC_uint64 (fun d h => by rw [Try.underlying31] at h; cases h; trivial)
theorem rC_int : RdC Try.prog 3 Int okI := rd_int Try.underlying3 (by kernel_rfl)
theorem rA_int : RdA Try.prog 3 Int okI := rdA_one rC_int (fun d h => by rw [Try.underlying3] at h; cases h; trivial)
theorem rC_uint8 : RdC Try.prog 5 UInt8 (fun _ => True) := rd_u8 Try.underlying5 (by kernel_rfl)
theorem rA_uint8 : RdA Try.prog 5 UInt8 (fun _ => True) := rdA_one rC_uint8 (fun d h => by rw [Try.underlying5] at h; cases h; trivial)
end Go.AS.Sd
