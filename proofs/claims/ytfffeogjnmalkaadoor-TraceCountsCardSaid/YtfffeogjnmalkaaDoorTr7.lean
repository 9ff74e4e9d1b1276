import Derived.Test.YtfffeogjnmalkaaDoorCards
import Derived.Test.YtfffeogjnmalkaaDoorTie
import Derived.Deep.DeepHandedRow
import Derived.SevenTiedAt
import Derived.Test.YtfffeogjnmalkaaDoorTr1
import Derived.Test.YtfffeogjnmalkaaDoorRdR
import Derived.Test.YtfffeogjnmalkaaDoorTrN
set_option linter.all false
/-
  The row and the card of TraceCounts. By an AI agent.
-/
namespace Go.AS.Tr
open Go Go.AS Go.Proofs Go.ChangeShapes Go.WideShapes Go.ChangeAt Go.RowKit
open Go.Proofs.YtfffeogjnmalkaaDoor
set_option maxRecDepth 100000
theorem row_mixed : Tryd.prog.follows .mixedOrders = true := by kernel_rfl
theorem row_laid : laidOutB Tryd.prog = true := by kernel_rfl
theorem row_own : ownKnob Tryd.prog.godebug = none := by kernel_rfl
theorem law_args (b : Sl Mv × UInt8 × Int × Int × Unit) (h : okL okMv b.1 ∧ True ∧ okI b.2.2.1 ∧ okI b.2.2.2.1 ∧ True) :
    Gives (funsOf Tryd.prog ann) 5 (Args.avs b) (.bool true) :=
  counts_gives b.1.nil b.1.l (Nat.le_trans h.1.2.1 (by decide)) b.2.1 b.2.2.1 b.2.2.2.1
theorem lifted (os : Os) (started : os.Started) (H : Type) (enc : TypeId × Value → H) (F : Stop.Interp) :
    ReturnsInHanded {} Tryd.checked os 5 .any ((OpenSpec.ofChange Rows.traceCountsSpec).preRow enc Tryd.prog Tryd.f5 Rows.traceCountsRow.domain false laidL) (((OpenSpec.ofChange Rows.traceCountsSpec).at F).post enc Tryd.prog Tryd.f5 false true false false) := by
  refine returnsInHanded_of_row (C := Tryd.checked) (s := OpenSpec.ofChange Rows.traceCountsSpec) row_own started (by kernel_rfl) Tryd.func5
    (ChangeSpec.witness_shaped (enc := enc) (C := Tryd.checked) (os := os) (s := Rows.traceCountsSpec) (X := fun w _ => laidMetH Tryd.prog laidL w) false (World.laidAll Tryd.prog os laidL) #[.slice none 0 0, .int .u8 0, .int .i64 0, .int .i64 0] 8 (World.laidAll_os _ _ _)
      (laid_shaped os _) (by kernel_rfl) (by kernel_rfl) (by kernel_rfl) (laid_met os _)) ?_
  intro W base args ds gs before hval hW _ _ _ hL hsh _
  exact law_contract (an := ann) row_mixed row_laid (by rw [Tryd.params5]) (rdL_cons rA_LMove (rdL_cons rA_What (rdL_cons rA_int (rdL_cons rA_int rdL_nil)))) law_args
    (by simp only [List.forall_mem_cons, List.forall_mem_nil]; exact ⟨⟨by kernel_rfl, by kernel_rfl⟩, ⟨⟨by kernel_rfl, by kernel_rfl⟩, ⟨⟨by kernel_rfl, by kernel_rfl⟩, ⟨⟨by kernel_rfl, by kernel_rfl⟩, by simp⟩⟩⟩⟩) rfl (by kernel_rfl) Tryd.underlying4
    (by intro ds hd; match ds, hd with | [a0, a1, a2, a3], _ => exact ⟨rfl, rfl, rfl⟩) hval hW (natsH hL hsh)
theorem said : Rows.TraceCountsSaid :=
  OpenClaim.holds_of_cond 5 Tryd.f5 rfl rfl rfl rfl rfl rfl rfl ⟨rfl, rfl, rfl, rfl, rfl⟩ rfl rfl rfl rfl rfl (by kernel_rfl) Tryd.func5 (by kernel_rfl)
    (of_decide_eq_true (by kernel_rfl)) (by unfold Func.isWrapper; first | (rw [if_pos (by decide +kernel)]; kernel_rfl) | (rw [if_neg (by decide +kernel)]; exact ⟨rfl, rfl⟩))
    (fun os started H enc _ F => by rw [OpenClaim.pre_eq_preRow]; exact lifted os started H enc F)
theorem plain (f : FuncId) (fn : Func) (hf : Tryd.pinned.checked.prog.funcNamed "catchment/catchmentlaw36.TraceCounts" = some f) (hfn : Tryd.pinned.checked.prog.funcs[f]? = some fn) :
    false = Tryd.pinned.checked.prog.looks [] ∧ ∀ (j : Nat) t, fn.params[j]? = some t → Tryd.pinned.checked.prog.wantsStandIn t = false := by
  obtain rfl : f = 5 := Option.some.inj ((show Tryd.prog.funcNamed "catchment/catchmentlaw36.TraceCounts" = some 5 by kernel_rfl).symm.trans hf) |>.symm
  obtain rfl : fn = Tryd.f5 := (Option.some.inj (Tryd.func5.symm.trans hfn)).symm
  refine ⟨by kernel_rfl, fun j t ht => ?_⟩
  rw [Tryd.params5] at ht
  have h := Array.mem_of_getElem? ht
  simp only [List.mem_toArray, List.mem_cons, List.not_mem_nil, or_false] at h
  rcases h with rfl | rfl | rfl | rfl
  · exact (show Tryd.prog.wantsStandIn 22 = false by kernel_rfl)
  · exact (show Tryd.prog.wantsStandIn 33 = false by kernel_rfl)
  · exact (show Tryd.prog.wantsStandIn 3 = false by kernel_rfl)
  · exact (show Tryd.prog.wantsStandIn 3 = false by kernel_rfl)
theorem card : Rows.TraceCountsCardSaid :=
  Claim7.holds_tied_plain_at .later [] _ _ _ _ said (fun _ h => by cases h) (by kernel_rfl) (fun _ h => by cases h) traceCounts_row_tie rfl ⟨rfl, rfl⟩ (by kernel_rfl) rfl plain (by kernel_rfl)
end Go.AS.Tr
