import Derived.Test.YtckjahijnckgnaaGreatRows
import Derived.Test.YtckjahijnckgnaaGreatRdW
import Derived.Test.YtckjahijnckgnaaGreatRd0
set_option linter.all false
namespace Go.AS.Wi
open Go Go.AS Go.Proofs Go.ChangeShapes Go.WideShapes Go.ChangeAt Go.RowKit
open Go.Proofs.YtckjahijnckgnaaGreat
set_option maxRecDepth 100000

theorem row_mixed : Tryz.prog.follows .mixedOrders = true := by kernel_rfl
theorem row_laid : laidOutB Tryz.prog = true := by kernel_rfl
theorem row_own : ownKnob Tryz.prog.godebug = none := by kernel_rfl

theorem lifted (os : Os) (started : os.Started) (H : Type) (enc : TypeId × Value → H) :
    ReturnsInHanded {} Tryz.checked os 4 .any (Rows.witnessPrefixSpec.pre6 enc Tryz.prog Tryz.f4 Rows.witnessPrefixRow.domain false) (Rows.witnessPrefixSpec.post enc Tryz.prog Tryz.f4 false true false false) := by
  refine returnsInHanded_of_change (C := Tryz.checked) row_own started (by kernel_rfl) Tryz.func4
    (ChangeSpec.witness6 (enc := enc) (C := Tryz.checked) false ⟨#[], #[.slice none 0 0, .int .i64 0], []⟩ 8 (by kernel_rfl) (by kernel_rfl) (by kernel_rfl) (by kernel_rfl)) ?_
  intro W base args ds gs before hval hW _ _
  exact law_contract (an := ann) row_mixed row_laid (by rw [Tryz.params4]) (rdL_cons rA_LDone (rdL_cons rA_int rdL_nil)) law_args (by simp only [List.forall_mem_cons, List.forall_mem_nil]; exact ⟨⟨by kernel_rfl, by kernel_rfl⟩, ⟨⟨by kernel_rfl, by kernel_rfl⟩, by simp⟩⟩) rfl (by kernel_rfl) Tryz.underlying4 (by intro ds hd; match ds, hd with | [a0, a1], _ => exact ⟨rfl, rfl, rfl⟩) hval hW
theorem over : Rows.WitnessPrefixSaid :=
  OpenClaim.holds_of_wide 4 Tryz.f4 rfl rfl rfl rfl rfl rfl rfl ⟨rfl, rfl, rfl, rfl, rfl⟩ rfl rfl rfl rfl rfl (by kernel_rfl) Tryz.func4 (by kernel_rfl)
    (of_decide_eq_true (by kernel_rfl)) (by unfold Func.isWrapper; first | (rw [if_pos (by decide +kernel)]; kernel_rfl) | (rw [if_neg (by decide +kernel)]; exact ⟨rfl, rfl⟩))
    (fun os started H enc _ => lifted os started H enc)
end Go.AS.Wi
