import Derived.Test.YtefnpnokbanbkaaRows
import Derived.Test.YtefnpnokbanbkaaLy0
import Derived.Test.YtefnpnokbanbkaaRd0
set_option linter.all false
namespace Go.AS.Sd
open Go Go.AS Go.Proofs Go.ChangeShapes Go.WideShapes Go.ChangeAt Go.RowKit
open Go.Proofs.Ytefnpnokbanbkaa
set_option maxRecDepth 100000

theorem row_mixed : Try.prog.follows .mixedOrders = true := by kernel_rfl
theorem row_laid : laidOutB Try.prog = true := by kernel_rfl
theorem row_own : ownKnob Try.prog.godebug = none := by kernel_rfl

theorem lifted (os : Os) (started : os.Started) (H : Type) (enc : TypeId × Value → H) :
    ReturnsInHanded {} Try.checked os 7 .any (Rows.seedScriptsSpec.pre6 enc Try.prog Try.f7 Rows.seedScriptsRow.domain false) (Rows.seedScriptsSpec.post enc Try.prog Try.f7 false true false false) := by
  refine returnsInHanded_of_change (C := Try.checked) row_own started (by kernel_rfl) Try.func7
    (ChangeSpec.witness6 (enc := enc) (C := Try.checked) false ⟨#[], #[.int .u64 0, .int .i64 0, .int .i64 0, .int .i64 0], []⟩ 8 (by kernel_rfl) (by kernel_rfl) (by kernel_rfl) (by kernel_rfl)) ?_
  intro W base args ds gs before hval hW _ _
  exact law_contract (an := ann) row_mixed row_laid (by rw [Try.params7]) (rdL_cons rA_uint64 (rdL_cons rA_int (rdL_cons rA_int (rdL_cons rA_int rdL_nil)))) law_args (by simp only [List.forall_mem_cons, List.forall_mem_nil]; exact ⟨⟨by kernel_rfl, by kernel_rfl⟩, ⟨⟨by kernel_rfl, by kernel_rfl⟩, ⟨⟨by kernel_rfl, by kernel_rfl⟩, ⟨⟨by kernel_rfl, by kernel_rfl⟩, by simp⟩⟩⟩⟩) rfl (by kernel_rfl) Try.underlying4 (by intro ds hd; match ds, hd with | [a0, a1, a2, a3], _ => exact ⟨rfl, rfl, rfl⟩) hval hW nats
theorem over : Rows.SeedScriptsSaid :=
  OpenClaim.holds_of_wide 7 Try.f7 rfl rfl rfl rfl rfl rfl rfl ⟨rfl, rfl, rfl, rfl, rfl⟩ rfl rfl rfl rfl rfl (by kernel_rfl) Try.func7 (by kernel_rfl)
    (of_decide_eq_true (by kernel_rfl)) (by unfold Func.isWrapper; first | (rw [if_pos (by decide +kernel)]; kernel_rfl) | (rw [if_neg (by decide +kernel)]; exact ⟨rfl, rfl⟩))
    (fun os started H enc _ => lifted os started H enc)
end Go.AS.Sd
