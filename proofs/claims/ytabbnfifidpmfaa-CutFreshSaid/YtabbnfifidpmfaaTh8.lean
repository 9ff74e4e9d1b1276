import Derived.Test.YtabbnfifidpmfaaTh0
import Derived.Test.YtabbnfifidpmfaaRn0
set_option linter.all false
namespace Go.AS.Th
open Go Go.AS Go.Proofs
set_option maxHeartbeats 1000000
set_option maxRecDepth 4000
theorem okRef_is (r : Rng) : CallIs F 97 [.agg (Cel.enc r)] (.bool (decide (r.hi = [] ∨ ¬ (slt r.hi r.lo ∨ r.hi = r.lo)))) := by
  refine Gives.is ?_
  refine Gives.of fn_r02_Right rfl rfl (args' := [.agg (Cel.enc r)]) (by simp only [mapO_nil, mapO_c2, consO_some, upf_v]) ?_
  simp only [ir_r02_Right]
  simp -failIfUnchanged (disch := first | assumption | omega | (refine room_i _ _ ?_ ?_ <;> omega) | (refine @_root_.id _ ?_; with_unfolding_all exact Eq.refl _) | (simp only [List.length_take, List.length_drop, List.length_append, List.length_cons, List.length_nil, List.length_replicate, List.length_map] <;> omega) | fail) only [rnL, opL, ruL, hpL, rsL, natL, outL, Nat.add_sub_cancel_left, Nat.mul_one, List.length_cons, List.length_nil, Nat.zero_add, Nat.add_zero, Nat.reduceAdd, Nat.reduceMul, Nat.reduceSub, Nat.reduceEqDiff, Nat.reduceLT, Nat.reduceLeDiff, litd_t, litd_f, decide_true, decide_false, Bool.not_true, Bool.not_false, not_true_eq_false, not_false_eq_true, true_and, and_true, false_and, and_false, true_or, or_true, false_or, or_false, Int.toNat_natCast, cond_true, cond_false, List.map_cons, List.map_nil, Option.map_some, Option.map_none, datL]
  (first | refine RunB_i (fun h => ?_) (fun h => ?_) | refine RunG_i (fun h => ?_) (fun h => ?_) | refine RunB_ib (fun h => ?_) (fun h => ?_))
  · simp -failIfUnchanged (disch := first | assumption | omega | (refine room_i _ _ ?_ ?_ <;> omega) | (refine @_root_.id _ ?_; with_unfolding_all exact Eq.refl _) | (simp only [List.length_take, List.length_drop, List.length_append, List.length_cons, List.length_nil, List.length_replicate, List.length_map] <;> omega) | fail) only [rnL, opL, ruL, hpL, rsL, natL, outL, Nat.add_sub_cancel_left, Nat.mul_one, List.length_cons, List.length_nil, Nat.zero_add, Nat.add_zero, Nat.reduceAdd, Nat.reduceMul, Nat.reduceSub, Nat.reduceEqDiff, Nat.reduceLT, Nat.reduceLeDiff, litd_t, litd_f, decide_true, decide_false, Bool.not_true, Bool.not_false, not_true_eq_false, not_false_eq_true, true_and, and_true, false_and, and_false, true_or, or_true, false_or, or_false, Int.toNat_natCast, cond_true, cond_false, List.map_cons, List.map_nil, Option.map_some, Option.map_none, datL]
    (refine Fin_g (.inr rfl) (by simp -failIfUnchanged (disch := first | assumption | omega | (refine room_i _ _ ?_ ?_ <;> omega) | (refine @_root_.id _ ?_; with_unfolding_all exact Eq.refl _) | (simp only [List.length_take, List.length_drop, List.length_append, List.length_cons, List.length_nil, List.length_replicate, List.length_map] <;> omega) | fail) only [rnL, opL, ruL, hpL, rsL, natL, outL, Nat.add_sub_cancel_left, Nat.mul_one, List.length_cons, List.length_nil, Nat.zero_add, Nat.add_zero, Nat.reduceAdd, Nat.reduceMul, Nat.reduceSub, Nat.reduceEqDiff, Nat.reduceLT, Nat.reduceLeDiff, litd_t, litd_f, decide_true, decide_false, Bool.not_true, Bool.not_false, not_true_eq_false, not_false_eq_true, true_and, and_true, false_and, and_false, true_or, or_true, false_or, or_false, Int.toNat_natCast, cond_true, cond_false, List.map_cons, List.map_nil, Option.map_some, Option.map_none]; rfl) ?_; simp -failIfUnchanged (disch := first | assumption | omega | (refine room_i _ _ ?_ ?_ <;> omega) | (refine @_root_.id _ ?_; with_unfolding_all exact Eq.refl _) | (simp only [List.length_take, List.length_drop, List.length_append, List.length_cons, List.length_nil, List.length_replicate, List.length_map] <;> omega) | fail) only [rnL, opL, ruL, hpL, rsL, natL, outL, Nat.add_sub_cancel_left, Nat.mul_one, List.length_cons, List.length_nil, Nat.zero_add, Nat.add_zero, Nat.reduceAdd, Nat.reduceMul, Nat.reduceSub, Nat.reduceEqDiff, Nat.reduceLT, Nat.reduceLeDiff, litd_t, litd_f, decide_true, decide_false, Bool.not_true, Bool.not_false, not_true_eq_false, not_false_eq_true, true_and, and_true, false_and, and_false, true_or, or_true, false_or, or_false, Int.toNat_natCast, cond_true, cond_false, List.map_cons, List.map_nil, Option.map_some, Option.map_none])
    simp [h]
  · simp -failIfUnchanged (disch := first | assumption | omega | (refine room_i _ _ ?_ ?_ <;> omega) | (refine @_root_.id _ ?_; with_unfolding_all exact Eq.refl _) | (simp only [List.length_take, List.length_drop, List.length_append, List.length_cons, List.length_nil, List.length_replicate, List.length_map] <;> omega) | fail) only [rnL, opL, ruL, hpL, rsL, natL, outL, Nat.add_sub_cancel_left, Nat.mul_one, List.length_cons, List.length_nil, Nat.zero_add, Nat.add_zero, Nat.reduceAdd, Nat.reduceMul, Nat.reduceSub, Nat.reduceEqDiff, Nat.reduceLT, Nat.reduceLeDiff, litd_t, litd_f, decide_true, decide_false, Bool.not_true, Bool.not_false, not_true_eq_false, not_false_eq_true, true_and, and_true, false_and, and_false, true_or, or_true, false_or, or_false, Int.toNat_natCast, cond_true, cond_false, List.map_cons, List.map_nil, Option.map_some, Option.map_none, datL]
    (refine Fin_g (.inr rfl) (by simp -failIfUnchanged (disch := first | assumption | omega | (refine room_i _ _ ?_ ?_ <;> omega) | (refine @_root_.id _ ?_; with_unfolding_all exact Eq.refl _) | (simp only [List.length_take, List.length_drop, List.length_append, List.length_cons, List.length_nil, List.length_replicate, List.length_map] <;> omega) | fail) only [rnL, opL, ruL, hpL, rsL, natL, outL, Nat.add_sub_cancel_left, Nat.mul_one, List.length_cons, List.length_nil, Nat.zero_add, Nat.add_zero, Nat.reduceAdd, Nat.reduceMul, Nat.reduceSub, Nat.reduceEqDiff, Nat.reduceLT, Nat.reduceLeDiff, litd_t, litd_f, decide_true, decide_false, Bool.not_true, Bool.not_false, not_true_eq_false, not_false_eq_true, true_and, and_true, false_and, and_false, true_or, or_true, false_or, or_false, Int.toNat_natCast, cond_true, cond_false, List.map_cons, List.map_nil, Option.map_some, Option.map_none]; rfl) ?_; simp -failIfUnchanged (disch := first | assumption | omega | (refine room_i _ _ ?_ ?_ <;> omega) | (refine @_root_.id _ ?_; with_unfolding_all exact Eq.refl _) | (simp only [List.length_take, List.length_drop, List.length_append, List.length_cons, List.length_nil, List.length_replicate, List.length_map] <;> omega) | fail) only [rnL, opL, ruL, hpL, rsL, natL, outL, Nat.add_sub_cancel_left, Nat.mul_one, List.length_cons, List.length_nil, Nat.zero_add, Nat.add_zero, Nat.reduceAdd, Nat.reduceMul, Nat.reduceSub, Nat.reduceEqDiff, Nat.reduceLT, Nat.reduceLeDiff, litd_t, litd_f, decide_true, decide_false, Bool.not_true, Bool.not_false, not_true_eq_false, not_false_eq_true, true_and, and_true, false_and, and_false, true_or, or_true, false_or, or_false, Int.toNat_natCast, cond_true, cond_false, List.map_cons, List.map_nil, Option.map_some, Option.map_none])
    simp [h]
theorem risesRef_is (nl : Bool) (l : List Str) (hl : l.length ≤ 1000) : CallIs F 98 [sl nl l] (.bool (decide (rises l))) := by
  refine Gives.is ?_
  refine Gives.of fn_r13_Rises rfl rfl (args' := [sl nl l]) (by simp only [mapO_nil, mapO_c2, consO_some, upf_v]) ?_
  simp only [ir_r13_Rises]
  simp -failIfUnchanged (disch := first | assumption | omega | (refine room_i _ _ ?_ ?_ <;> omega) | (refine @_root_.id _ ?_; with_unfolding_all exact Eq.refl _) | (simp only [List.length_take, List.length_drop, List.length_append, List.length_cons, List.length_nil, List.length_replicate, List.length_map] <;> omega) | fail) only [rnL, opL, ruL, hpL, rsL, natL, outL, Nat.add_sub_cancel_left, Nat.mul_one, List.length_cons, List.length_nil, Nat.zero_add, Nat.add_zero, Nat.reduceAdd, Nat.reduceMul, Nat.reduceSub, Nat.reduceEqDiff, Nat.reduceLT, Nat.reduceLeDiff, litd_t, litd_f, decide_true, decide_false, Bool.not_true, Bool.not_false, not_true_eq_false, not_false_eq_true, true_and, and_true, false_and, and_false, true_or, or_true, false_or, or_false, Int.toNat_natCast, cond_true, cond_false, List.map_cons, List.map_nil, Option.map_some, Option.map_none]
  refine Run_upto l.length (fun i => [(0, sl nl l), (2, .bool false), (3, AV.int IntKind.i64 (i + 1 : Nat))]) (fun _ => [[]]) (fun i => ∀ j, j < i + 1 → j < l.length → 0 < j → slt (l.getD (j - 1) []) (l.getD j [])) rfl rfl (fun j hj => by omega) ?_
  intro i hi hP
  simp -failIfUnchanged (disch := first | assumption | omega | (refine room_i _ _ ?_ ?_ <;> omega) | (refine @_root_.id _ ?_; with_unfolding_all exact Eq.refl _) | (simp only [List.length_take, List.length_drop, List.length_append, List.length_cons, List.length_nil, List.length_replicate, List.length_map] <;> omega) | fail) only [rnL, opL, ruL, hpL, rsL, natL, outL, Nat.add_sub_cancel_left, Nat.mul_one, List.length_cons, List.length_nil, Nat.zero_add, Nat.add_zero, Nat.reduceAdd, Nat.reduceMul, Nat.reduceSub, Nat.reduceEqDiff, Nat.reduceLT, Nat.reduceLeDiff, litd_t, litd_f, decide_true, decide_false, Bool.not_true, Bool.not_false, not_true_eq_false, not_false_eq_true, true_and, and_true, false_and, and_false, true_or, or_true, false_or, or_false, Int.toNat_natCast, cond_true, cond_false, List.map_cons, List.map_nil, Option.map_some, Option.map_none]
  (first | refine RunB_i (fun h => ?_) (fun h => ?_) | refine RunG_i (fun h => ?_) (fun h => ?_) | refine RunB_ib (fun h => ?_) (fun h => ?_))
  · have hlt : i + 1 < l.length := by omega
    have h4 : IntKind.i64.wrap (((i + 1 : Nat) : Int) - 1) = ((i + 1 : Nat) : Int) - 1 := wrap_i64 (by omega) (by omega)
    have h3 : (((i + 1 : Nat) : Int) - 1).toNat < l.length := by omega
    have e2 : l[(((i + 1 : Nat) : Int) - 1).toNat] = l.getD i [] := by
      have e1 : (((i + 1 : Nat) : Int) - 1).toNat = i := by omega
      simp only [e1]; exact (getD_at _ _ (by omega)).symm
    have e3 : l[i + 1] = l.getD (i + 1) [] := (getD_at _ _ hlt).symm
    simp -failIfUnchanged (disch := first | assumption | omega | (refine room_i _ _ ?_ ?_ <;> omega) | (refine @_root_.id _ ?_; with_unfolding_all exact Eq.refl _) | (simp only [List.length_take, List.length_drop, List.length_append, List.length_cons, List.length_nil, List.length_replicate, List.length_map] <;> omega) | fail) only [rnL, opL, ruL, hpL, rsL, natL, outL, Nat.add_sub_cancel_left, Nat.mul_one, List.length_cons, List.length_nil, Nat.zero_add, Nat.add_zero, Nat.reduceAdd, Nat.reduceMul, Nat.reduceSub, Nat.reduceEqDiff, Nat.reduceLT, Nat.reduceLeDiff, litd_t, litd_f, decide_true, decide_false, Bool.not_true, Bool.not_false, not_true_eq_false, not_false_eq_true, true_and, and_true, false_and, and_false, true_or, or_true, false_or, or_false, Int.toNat_natCast, cond_true, cond_false, List.map_cons, List.map_nil, Option.map_some, Option.map_none, h4, e2, e3]
    (first | refine RunB_i (fun h5 => ?_) (fun h5 => ?_) | refine RunG_i (fun h5 => ?_) (fun h5 => ?_) | refine RunB_ib (fun h5 => ?_) (fun h5 => ?_))
    · simp -failIfUnchanged (disch := first | assumption | omega | (refine room_i _ _ ?_ ?_ <;> omega) | (refine @_root_.id _ ?_; with_unfolding_all exact Eq.refl _) | (simp only [List.length_take, List.length_drop, List.length_append, List.length_cons, List.length_nil, List.length_replicate, List.length_map] <;> omega) | fail) only [rnL, opL, ruL, hpL, rsL, natL, outL, Nat.add_sub_cancel_left, Nat.mul_one, List.length_cons, List.length_nil, Nat.zero_add, Nat.add_zero, Nat.reduceAdd, Nat.reduceMul, Nat.reduceSub, Nat.reduceEqDiff, Nat.reduceLT, Nat.reduceLeDiff, litd_t, litd_f, decide_true, decide_false, Bool.not_true, Bool.not_false, not_true_eq_false, not_false_eq_true, true_and, and_true, false_and, and_false, true_or, or_true, false_or, or_false, Int.toNat_natCast, cond_true, cond_false, List.map_cons, List.map_nil, Option.map_some, Option.map_none]
      (refine Fin_g (.inr rfl) (by simp -failIfUnchanged (disch := first | assumption | omega | (refine room_i _ _ ?_ ?_ <;> omega) | (refine @_root_.id _ ?_; with_unfolding_all exact Eq.refl _) | (simp only [List.length_take, List.length_drop, List.length_append, List.length_cons, List.length_nil, List.length_replicate, List.length_map] <;> omega) | fail) only [rnL, opL, ruL, hpL, rsL, natL, outL, Nat.add_sub_cancel_left, Nat.mul_one, List.length_cons, List.length_nil, Nat.zero_add, Nat.add_zero, Nat.reduceAdd, Nat.reduceMul, Nat.reduceSub, Nat.reduceEqDiff, Nat.reduceLT, Nat.reduceLeDiff, litd_t, litd_f, decide_true, decide_false, Bool.not_true, Bool.not_false, not_true_eq_false, not_false_eq_true, true_and, and_true, false_and, and_false, true_or, or_true, false_or, or_false, Int.toNat_natCast, cond_true, cond_false, List.map_cons, List.map_nil, Option.map_some, Option.map_none]; rfl) ?_; simp -failIfUnchanged (disch := first | assumption | omega | (refine room_i _ _ ?_ ?_ <;> omega) | (refine @_root_.id _ ?_; with_unfolding_all exact Eq.refl _) | (simp only [List.length_take, List.length_drop, List.length_append, List.length_cons, List.length_nil, List.length_replicate, List.length_map] <;> omega) | fail) only [rnL, opL, ruL, hpL, rsL, natL, outL, Nat.add_sub_cancel_left, Nat.mul_one, List.length_cons, List.length_nil, Nat.zero_add, Nat.add_zero, Nat.reduceAdd, Nat.reduceMul, Nat.reduceSub, Nat.reduceEqDiff, Nat.reduceLT, Nat.reduceLeDiff, litd_t, litd_f, decide_true, decide_false, Bool.not_true, Bool.not_false, not_true_eq_false, not_false_eq_true, true_and, and_true, false_and, and_false, true_or, or_true, false_or, or_false, Int.toNat_natCast, cond_true, cond_false, List.map_cons, List.map_nil, Option.map_some, Option.map_none])
      rw [decide_eq_false]
      exact fun hr => h5 (hr (i + 1) hlt (by omega))
    · simp -failIfUnchanged (disch := first | assumption | omega | (refine room_i _ _ ?_ ?_ <;> omega) | (refine @_root_.id _ ?_; with_unfolding_all exact Eq.refl _) | (simp only [List.length_take, List.length_drop, List.length_append, List.length_cons, List.length_nil, List.length_replicate, List.length_map] <;> omega) | fail) only [rnL, opL, ruL, hpL, rsL, natL, outL, Nat.add_sub_cancel_left, Nat.mul_one, List.length_cons, List.length_nil, Nat.zero_add, Nat.add_zero, Nat.reduceAdd, Nat.reduceMul, Nat.reduceSub, Nat.reduceEqDiff, Nat.reduceLT, Nat.reduceLeDiff, litd_t, litd_f, decide_true, decide_false, Bool.not_true, Bool.not_false, not_true_eq_false, not_false_eq_true, true_and, and_true, false_and, and_false, true_or, or_true, false_or, or_false, Int.toNat_natCast, cond_true, cond_false, List.map_cons, List.map_nil, Option.map_some, Option.map_none]
      exact .i (by omega) (by first | exact trivial | rfl) (by first | exact trivial | rfl) (fun j hj hjl h0 => by
        rcases Nat.lt_succ_iff_lt_or_eq.mp hj with h6 | rfl
        · exact hP j h6 hjl h0
        · exact Decidable.not_not.mp h5)
  · simp -failIfUnchanged (disch := first | assumption | omega | (refine room_i _ _ ?_ ?_ <;> omega) | (refine @_root_.id _ ?_; with_unfolding_all exact Eq.refl _) | (simp only [List.length_take, List.length_drop, List.length_append, List.length_cons, List.length_nil, List.length_replicate, List.length_map] <;> omega) | fail) only [rnL, opL, ruL, hpL, rsL, natL, outL, Nat.add_sub_cancel_left, Nat.mul_one, List.length_cons, List.length_nil, Nat.zero_add, Nat.add_zero, Nat.reduceAdd, Nat.reduceMul, Nat.reduceSub, Nat.reduceEqDiff, Nat.reduceLT, Nat.reduceLeDiff, litd_t, litd_f, decide_true, decide_false, Bool.not_true, Bool.not_false, not_true_eq_false, not_false_eq_true, true_and, and_true, false_and, and_false, true_or, or_true, false_or, or_false, Int.toNat_natCast, cond_true, cond_false, List.map_cons, List.map_nil, Option.map_some, Option.map_none]
    (refine Fin_g (.inr rfl) (by simp -failIfUnchanged (disch := first | assumption | omega | (refine room_i _ _ ?_ ?_ <;> omega) | (refine @_root_.id _ ?_; with_unfolding_all exact Eq.refl _) | (simp only [List.length_take, List.length_drop, List.length_append, List.length_cons, List.length_nil, List.length_replicate, List.length_map] <;> omega) | fail) only [rnL, opL, ruL, hpL, rsL, natL, outL, Nat.add_sub_cancel_left, Nat.mul_one, List.length_cons, List.length_nil, Nat.zero_add, Nat.add_zero, Nat.reduceAdd, Nat.reduceMul, Nat.reduceSub, Nat.reduceEqDiff, Nat.reduceLT, Nat.reduceLeDiff, litd_t, litd_f, decide_true, decide_false, Bool.not_true, Bool.not_false, not_true_eq_false, not_false_eq_true, true_and, and_true, false_and, and_false, true_or, or_true, false_or, or_false, Int.toNat_natCast, cond_true, cond_false, List.map_cons, List.map_nil, Option.map_some, Option.map_none]; rfl) ?_; simp -failIfUnchanged (disch := first | assumption | omega | (refine room_i _ _ ?_ ?_ <;> omega) | (refine @_root_.id _ ?_; with_unfolding_all exact Eq.refl _) | (simp only [List.length_take, List.length_drop, List.length_append, List.length_cons, List.length_nil, List.length_replicate, List.length_map] <;> omega) | fail) only [rnL, opL, ruL, hpL, rsL, natL, outL, Nat.add_sub_cancel_left, Nat.mul_one, List.length_cons, List.length_nil, Nat.zero_add, Nat.add_zero, Nat.reduceAdd, Nat.reduceMul, Nat.reduceSub, Nat.reduceEqDiff, Nat.reduceLT, Nat.reduceLeDiff, litd_t, litd_f, decide_true, decide_false, Bool.not_true, Bool.not_false, not_true_eq_false, not_false_eq_true, true_and, and_true, false_and, and_false, true_or, or_true, false_or, or_false, Int.toNat_natCast, cond_true, cond_false, List.map_cons, List.map_nil, Option.map_some, Option.map_none])
    rw [decide_eq_true]
    exact fun j hj h0 => hP j (by omega) hj h0
def betw (p : List Str) (r : Rng) (i : Nat) : Prop := ¬ (slt (p.getD i []) r.lo ∨ p.getD i [] = r.lo) ∧ (r.hi = [] ∨ slt (p.getD i []) r.hi)
instance (p : List Str) (r : Rng) (i : Nat) : Decidable (betw p r i) := by unfold betw; infer_instance
def rightR (p : List Str) (r : Rng) : Prop := (∀ i, i < p.length → betw p r i) ∧ (r.hi = [] ∨ ¬ (slt r.hi r.lo ∨ r.hi = r.lo)) ∧ rises p
instance (p : List Str) (r : Rng) : Decidable (rightR p r) := by unfold rightR; infer_instance
theorem rightRef_is (nl : Bool) (p : List Str) (r : Rng) (hp : p.length ≤ 1000) : CallIs F 66 [sl nl p, .agg (Cel.enc r)] (.bool (decide (rightR p r))) := by
  refine Gives.is ?_
  refine Gives.of fn_r13_Right rfl rfl (args' := [sl nl p, .agg (Cel.enc r)]) (by simp only [mapO_nil, mapO_c2, consO_some, upf_v]) ?_
  simp only [ir_r13_Right]
  simp -failIfUnchanged (disch := first | assumption | omega | (refine room_i _ _ ?_ ?_ <;> omega) | (refine @_root_.id _ ?_; with_unfolding_all exact Eq.refl _) | (simp only [List.length_take, List.length_drop, List.length_append, List.length_cons, List.length_nil, List.length_replicate, List.length_map] <;> omega) | fail) only [rnL, opL, ruL, hpL, rsL, natL, outL, Nat.add_sub_cancel_left, Nat.mul_one, List.length_cons, List.length_nil, Nat.zero_add, Nat.add_zero, Nat.reduceAdd, Nat.reduceMul, Nat.reduceSub, Nat.reduceEqDiff, Nat.reduceLT, Nat.reduceLeDiff, litd_t, litd_f, decide_true, decide_false, Bool.not_true, Bool.not_false, not_true_eq_false, not_false_eq_true, true_and, and_true, false_and, and_false, true_or, or_true, false_or, or_false, Int.toNat_natCast, cond_true, cond_false, List.map_cons, List.map_nil, Option.map_some, Option.map_none, datL]
  refine Run_upto p.length (fun i => [(0, sl nl p), (1, .agg (Cel.enc r)), (3, .ptr 0 2 0), (4, .bool false), (5, AV.int IntKind.i64 (i : Nat))]) (fun _ => [[.cells (Cel.enc r)]]) (fun i => ∀ j, j < i → betw p r j) rfl rfl (fun j hj => by omega) ?_
  intro i hi hP
  simp -failIfUnchanged (disch := first | assumption | omega | (refine room_i _ _ ?_ ?_ <;> omega) | (refine @_root_.id _ ?_; with_unfolding_all exact Eq.refl _) | (simp only [List.length_take, List.length_drop, List.length_append, List.length_cons, List.length_nil, List.length_replicate, List.length_map] <;> omega) | fail) only [rnL, opL, ruL, hpL, rsL, natL, outL, Nat.add_sub_cancel_left, Nat.mul_one, List.length_cons, List.length_nil, Nat.zero_add, Nat.add_zero, Nat.reduceAdd, Nat.reduceMul, Nat.reduceSub, Nat.reduceEqDiff, Nat.reduceLT, Nat.reduceLeDiff, litd_t, litd_f, decide_true, decide_false, Bool.not_true, Bool.not_false, not_true_eq_false, not_false_eq_true, true_and, and_true, false_and, and_false, true_or, or_true, false_or, or_false, Int.toNat_natCast, cond_true, cond_false, List.map_cons, List.map_nil, Option.map_some, Option.map_none, datL]
  (first | refine RunB_i (fun h => ?_) (fun h => ?_) | refine RunG_i (fun h => ?_) (fun h => ?_) | refine RunB_ib (fun h => ?_) (fun h => ?_))
  · have hlt : i < p.length := by omega
    have e3 : p[i] = p.getD i [] := (getD_at _ _ hlt).symm
    simp -failIfUnchanged (disch := first | assumption | omega | (refine room_i _ _ ?_ ?_ <;> omega) | (refine @_root_.id _ ?_; with_unfolding_all exact Eq.refl _) | (simp only [List.length_take, List.length_drop, List.length_append, List.length_cons, List.length_nil, List.length_replicate, List.length_map] <;> omega) | fail) only [rnL, opL, ruL, hpL, rsL, natL, outL, Nat.add_sub_cancel_left, Nat.mul_one, List.length_cons, List.length_nil, Nat.zero_add, Nat.add_zero, Nat.reduceAdd, Nat.reduceMul, Nat.reduceSub, Nat.reduceEqDiff, Nat.reduceLT, Nat.reduceLeDiff, litd_t, litd_f, decide_true, decide_false, Bool.not_true, Bool.not_false, not_true_eq_false, not_false_eq_true, true_and, and_true, false_and, and_false, true_or, or_true, false_or, or_false, Int.toNat_natCast, cond_true, cond_false, List.map_cons, List.map_nil, Option.map_some, Option.map_none, datL, e3]
    (first | refine RunB_i (fun h1 => ?_) (fun h1 => ?_) | refine RunG_i (fun h1 => ?_) (fun h1 => ?_) | refine RunB_ib (fun h1 => ?_) (fun h1 => ?_))
    · simp -failIfUnchanged (disch := first | assumption | omega | (refine room_i _ _ ?_ ?_ <;> omega) | (refine @_root_.id _ ?_; with_unfolding_all exact Eq.refl _) | (simp only [List.length_take, List.length_drop, List.length_append, List.length_cons, List.length_nil, List.length_replicate, List.length_map] <;> omega) | fail) only [rnL, opL, ruL, hpL, rsL, natL, outL, Nat.add_sub_cancel_left, Nat.mul_one, List.length_cons, List.length_nil, Nat.zero_add, Nat.add_zero, Nat.reduceAdd, Nat.reduceMul, Nat.reduceSub, Nat.reduceEqDiff, Nat.reduceLT, Nat.reduceLeDiff, litd_t, litd_f, decide_true, decide_false, Bool.not_true, Bool.not_false, not_true_eq_false, not_false_eq_true, true_and, and_true, false_and, and_false, true_or, or_true, false_or, or_false, Int.toNat_natCast, cond_true, cond_false, List.map_cons, List.map_nil, Option.map_some, Option.map_none, datL, e3]
      (refine Fin_g (.inr rfl) (by simp -failIfUnchanged (disch := first | assumption | omega | (refine room_i _ _ ?_ ?_ <;> omega) | (refine @_root_.id _ ?_; with_unfolding_all exact Eq.refl _) | (simp only [List.length_take, List.length_drop, List.length_append, List.length_cons, List.length_nil, List.length_replicate, List.length_map] <;> omega) | fail) only [rnL, opL, ruL, hpL, rsL, natL, outL, Nat.add_sub_cancel_left, Nat.mul_one, List.length_cons, List.length_nil, Nat.zero_add, Nat.add_zero, Nat.reduceAdd, Nat.reduceMul, Nat.reduceSub, Nat.reduceEqDiff, Nat.reduceLT, Nat.reduceLeDiff, litd_t, litd_f, decide_true, decide_false, Bool.not_true, Bool.not_false, not_true_eq_false, not_false_eq_true, true_and, and_true, false_and, and_false, true_or, or_true, false_or, or_false, Int.toNat_natCast, cond_true, cond_false, List.map_cons, List.map_nil, Option.map_some, Option.map_none]; rfl) ?_; simp -failIfUnchanged (disch := first | assumption | omega | (refine room_i _ _ ?_ ?_ <;> omega) | (refine @_root_.id _ ?_; with_unfolding_all exact Eq.refl _) | (simp only [List.length_take, List.length_drop, List.length_append, List.length_cons, List.length_nil, List.length_replicate, List.length_map] <;> omega) | fail) only [rnL, opL, ruL, hpL, rsL, natL, outL, Nat.add_sub_cancel_left, Nat.mul_one, List.length_cons, List.length_nil, Nat.zero_add, Nat.add_zero, Nat.reduceAdd, Nat.reduceMul, Nat.reduceSub, Nat.reduceEqDiff, Nat.reduceLT, Nat.reduceLeDiff, litd_t, litd_f, decide_true, decide_false, Bool.not_true, Bool.not_false, not_true_eq_false, not_false_eq_true, true_and, and_true, false_and, and_false, true_or, or_true, false_or, or_false, Int.toNat_natCast, cond_true, cond_false, List.map_cons, List.map_nil, Option.map_some, Option.map_none])
      rw [decide_eq_false]
      exact fun hr => (hr.1 i hlt).1 h1
    · simp -failIfUnchanged (disch := first | assumption | omega | (refine room_i _ _ ?_ ?_ <;> omega) | (refine @_root_.id _ ?_; with_unfolding_all exact Eq.refl _) | (simp only [List.length_take, List.length_drop, List.length_append, List.length_cons, List.length_nil, List.length_replicate, List.length_map] <;> omega) | fail) only [rnL, opL, ruL, hpL, rsL, natL, outL, Nat.add_sub_cancel_left, Nat.mul_one, List.length_cons, List.length_nil, Nat.zero_add, Nat.add_zero, Nat.reduceAdd, Nat.reduceMul, Nat.reduceSub, Nat.reduceEqDiff, Nat.reduceLT, Nat.reduceLeDiff, litd_t, litd_f, decide_true, decide_false, Bool.not_true, Bool.not_false, not_true_eq_false, not_false_eq_true, true_and, and_true, false_and, and_false, true_or, or_true, false_or, or_false, Int.toNat_natCast, cond_true, cond_false, List.map_cons, List.map_nil, Option.map_some, Option.map_none, datL, e3]
      (first | refine RunB_i (fun h2 => ?_) (fun h2 => ?_) | refine RunG_i (fun h2 => ?_) (fun h2 => ?_) | refine RunB_ib (fun h2 => ?_) (fun h2 => ?_))
      · simp -failIfUnchanged (disch := first | assumption | omega | (refine room_i _ _ ?_ ?_ <;> omega) | (refine @_root_.id _ ?_; with_unfolding_all exact Eq.refl _) | (simp only [List.length_take, List.length_drop, List.length_append, List.length_cons, List.length_nil, List.length_replicate, List.length_map] <;> omega) | fail) only [rnL, opL, ruL, hpL, rsL, natL, outL, Nat.add_sub_cancel_left, Nat.mul_one, List.length_cons, List.length_nil, Nat.zero_add, Nat.add_zero, Nat.reduceAdd, Nat.reduceMul, Nat.reduceSub, Nat.reduceEqDiff, Nat.reduceLT, Nat.reduceLeDiff, litd_t, litd_f, decide_true, decide_false, Bool.not_true, Bool.not_false, not_true_eq_false, not_false_eq_true, true_and, and_true, false_and, and_false, true_or, or_true, false_or, or_false, Int.toNat_natCast, cond_true, cond_false, List.map_cons, List.map_nil, Option.map_some, Option.map_none, datL, e3]
        (first | refine RunB_i (fun h3 => ?_) (fun h3 => ?_) | refine RunG_i (fun h3 => ?_) (fun h3 => ?_) | refine RunB_ib (fun h3 => ?_) (fun h3 => ?_))
        · simp -failIfUnchanged (disch := first | assumption | omega | (refine room_i _ _ ?_ ?_ <;> omega) | (refine @_root_.id _ ?_; with_unfolding_all exact Eq.refl _) | (simp only [List.length_take, List.length_drop, List.length_append, List.length_cons, List.length_nil, List.length_replicate, List.length_map] <;> omega) | fail) only [rnL, opL, ruL, hpL, rsL, natL, outL, Nat.add_sub_cancel_left, Nat.mul_one, List.length_cons, List.length_nil, Nat.zero_add, Nat.add_zero, Nat.reduceAdd, Nat.reduceMul, Nat.reduceSub, Nat.reduceEqDiff, Nat.reduceLT, Nat.reduceLeDiff, litd_t, litd_f, decide_true, decide_false, Bool.not_true, Bool.not_false, not_true_eq_false, not_false_eq_true, true_and, and_true, false_and, and_false, true_or, or_true, false_or, or_false, Int.toNat_natCast, cond_true, cond_false, List.map_cons, List.map_nil, Option.map_some, Option.map_none, datL]
          (refine Fin_g (.inr rfl) (by simp -failIfUnchanged (disch := first | assumption | omega | (refine room_i _ _ ?_ ?_ <;> omega) | (refine @_root_.id _ ?_; with_unfolding_all exact Eq.refl _) | (simp only [List.length_take, List.length_drop, List.length_append, List.length_cons, List.length_nil, List.length_replicate, List.length_map] <;> omega) | fail) only [rnL, opL, ruL, hpL, rsL, natL, outL, Nat.add_sub_cancel_left, Nat.mul_one, List.length_cons, List.length_nil, Nat.zero_add, Nat.add_zero, Nat.reduceAdd, Nat.reduceMul, Nat.reduceSub, Nat.reduceEqDiff, Nat.reduceLT, Nat.reduceLeDiff, litd_t, litd_f, decide_true, decide_false, Bool.not_true, Bool.not_false, not_true_eq_false, not_false_eq_true, true_and, and_true, false_and, and_false, true_or, or_true, false_or, or_false, Int.toNat_natCast, cond_true, cond_false, List.map_cons, List.map_nil, Option.map_some, Option.map_none]; rfl) ?_; simp -failIfUnchanged (disch := first | assumption | omega | (refine room_i _ _ ?_ ?_ <;> omega) | (refine @_root_.id _ ?_; with_unfolding_all exact Eq.refl _) | (simp only [List.length_take, List.length_drop, List.length_append, List.length_cons, List.length_nil, List.length_replicate, List.length_map] <;> omega) | fail) only [rnL, opL, ruL, hpL, rsL, natL, outL, Nat.add_sub_cancel_left, Nat.mul_one, List.length_cons, List.length_nil, Nat.zero_add, Nat.add_zero, Nat.reduceAdd, Nat.reduceMul, Nat.reduceSub, Nat.reduceEqDiff, Nat.reduceLT, Nat.reduceLeDiff, litd_t, litd_f, decide_true, decide_false, Bool.not_true, Bool.not_false, not_true_eq_false, not_false_eq_true, true_and, and_true, false_and, and_false, true_or, or_true, false_or, or_false, Int.toNat_natCast, cond_true, cond_false, List.map_cons, List.map_nil, Option.map_some, Option.map_none])
          rw [decide_eq_false]
          exact fun hr => h3 ((hr.1 i hlt).2.resolve_left h2)
        · simp -failIfUnchanged (disch := first | assumption | omega | (refine room_i _ _ ?_ ?_ <;> omega) | (refine @_root_.id _ ?_; with_unfolding_all exact Eq.refl _) | (simp only [List.length_take, List.length_drop, List.length_append, List.length_cons, List.length_nil, List.length_replicate, List.length_map] <;> omega) | fail) only [rnL, opL, ruL, hpL, rsL, natL, outL, Nat.add_sub_cancel_left, Nat.mul_one, List.length_cons, List.length_nil, Nat.zero_add, Nat.add_zero, Nat.reduceAdd, Nat.reduceMul, Nat.reduceSub, Nat.reduceEqDiff, Nat.reduceLT, Nat.reduceLeDiff, litd_t, litd_f, decide_true, decide_false, Bool.not_true, Bool.not_false, not_true_eq_false, not_false_eq_true, true_and, and_true, false_and, and_false, true_or, or_true, false_or, or_false, Int.toNat_natCast, cond_true, cond_false, List.map_cons, List.map_nil, Option.map_some, Option.map_none, datL]
          exact .i hlt (by first | exact trivial | rfl) (by first | exact trivial | rfl) (fun j hj => by
            rcases Nat.lt_succ_iff_lt_or_eq.mp hj with h6 | rfl
            · exact hP j h6
            · exact ⟨h1, .inr (Decidable.not_not.mp h3)⟩)
      · simp -failIfUnchanged (disch := first | assumption | omega | (refine room_i _ _ ?_ ?_ <;> omega) | (refine @_root_.id _ ?_; with_unfolding_all exact Eq.refl _) | (simp only [List.length_take, List.length_drop, List.length_append, List.length_cons, List.length_nil, List.length_replicate, List.length_map] <;> omega) | fail) only [rnL, opL, ruL, hpL, rsL, natL, outL, Nat.add_sub_cancel_left, Nat.mul_one, List.length_cons, List.length_nil, Nat.zero_add, Nat.add_zero, Nat.reduceAdd, Nat.reduceMul, Nat.reduceSub, Nat.reduceEqDiff, Nat.reduceLT, Nat.reduceLeDiff, litd_t, litd_f, decide_true, decide_false, Bool.not_true, Bool.not_false, not_true_eq_false, not_false_eq_true, true_and, and_true, false_and, and_false, true_or, or_true, false_or, or_false, Int.toNat_natCast, cond_true, cond_false, List.map_cons, List.map_nil, Option.map_some, Option.map_none, datL, e3]
        exact .i hlt (by first | exact trivial | rfl) (by first | exact trivial | rfl) (fun j hj => by
          rcases Nat.lt_succ_iff_lt_or_eq.mp hj with h6 | rfl
          · exact hP j h6
          · exact ⟨h1, .inl (Decidable.not_not.mp h2)⟩)
  · have : i = p.length := by omega
    subst this
    simp -failIfUnchanged (disch := first | assumption | omega | (refine room_i _ _ ?_ ?_ <;> omega) | (refine @_root_.id _ ?_; with_unfolding_all exact Eq.refl _) | (simp only [List.length_take, List.length_drop, List.length_append, List.length_cons, List.length_nil, List.length_replicate, List.length_map] <;> omega) | fail) only [rnL, opL, ruL, hpL, rsL, natL, outL, Nat.add_sub_cancel_left, Nat.mul_one, List.length_cons, List.length_nil, Nat.zero_add, Nat.add_zero, Nat.reduceAdd, Nat.reduceMul, Nat.reduceSub, Nat.reduceEqDiff, Nat.reduceLT, Nat.reduceLeDiff, litd_t, litd_f, decide_true, decide_false, Bool.not_true, Bool.not_false, not_true_eq_false, not_false_eq_true, true_and, and_true, false_and, and_false, true_or, or_true, false_or, or_false, Int.toNat_natCast, cond_true, cond_false, List.map_cons, List.map_nil, Option.map_some, Option.map_none, datL, okRef_is, risesRef_is]
    (first | refine RunB_i (fun h1 => ?_) (fun h1 => ?_) | refine RunG_i (fun h1 => ?_) (fun h1 => ?_) | refine RunB_ib (fun h1 => ?_) (fun h1 => ?_))
    · simp -failIfUnchanged (disch := first | assumption | omega | (refine room_i _ _ ?_ ?_ <;> omega) | (refine @_root_.id _ ?_; with_unfolding_all exact Eq.refl _) | (simp only [List.length_take, List.length_drop, List.length_append, List.length_cons, List.length_nil, List.length_replicate, List.length_map] <;> omega) | fail) only [rnL, opL, ruL, hpL, rsL, natL, outL, Nat.add_sub_cancel_left, Nat.mul_one, List.length_cons, List.length_nil, Nat.zero_add, Nat.add_zero, Nat.reduceAdd, Nat.reduceMul, Nat.reduceSub, Nat.reduceEqDiff, Nat.reduceLT, Nat.reduceLeDiff, litd_t, litd_f, decide_true, decide_false, Bool.not_true, Bool.not_false, not_true_eq_false, not_false_eq_true, true_and, and_true, false_and, and_false, true_or, or_true, false_or, or_false, Int.toNat_natCast, cond_true, cond_false, List.map_cons, List.map_nil, Option.map_some, Option.map_none, datL, okRef_is, risesRef_is]
      (refine Fin_g (.inr rfl) (by simp -failIfUnchanged (disch := first | assumption | omega | (refine room_i _ _ ?_ ?_ <;> omega) | (refine @_root_.id _ ?_; with_unfolding_all exact Eq.refl _) | (simp only [List.length_take, List.length_drop, List.length_append, List.length_cons, List.length_nil, List.length_replicate, List.length_map] <;> omega) | fail) only [rnL, opL, ruL, hpL, rsL, natL, outL, Nat.add_sub_cancel_left, Nat.mul_one, List.length_cons, List.length_nil, Nat.zero_add, Nat.add_zero, Nat.reduceAdd, Nat.reduceMul, Nat.reduceSub, Nat.reduceEqDiff, Nat.reduceLT, Nat.reduceLeDiff, litd_t, litd_f, decide_true, decide_false, Bool.not_true, Bool.not_false, not_true_eq_false, not_false_eq_true, true_and, and_true, false_and, and_false, true_or, or_true, false_or, or_false, Int.toNat_natCast, cond_true, cond_false, List.map_cons, List.map_nil, Option.map_some, Option.map_none]; rfl) ?_; simp -failIfUnchanged (disch := first | assumption | omega | (refine room_i _ _ ?_ ?_ <;> omega) | (refine @_root_.id _ ?_; with_unfolding_all exact Eq.refl _) | (simp only [List.length_take, List.length_drop, List.length_append, List.length_cons, List.length_nil, List.length_replicate, List.length_map] <;> omega) | fail) only [rnL, opL, ruL, hpL, rsL, natL, outL, Nat.add_sub_cancel_left, Nat.mul_one, List.length_cons, List.length_nil, Nat.zero_add, Nat.add_zero, Nat.reduceAdd, Nat.reduceMul, Nat.reduceSub, Nat.reduceEqDiff, Nat.reduceLT, Nat.reduceLeDiff, litd_t, litd_f, decide_true, decide_false, Bool.not_true, Bool.not_false, not_true_eq_false, not_false_eq_true, true_and, and_true, false_and, and_false, true_or, or_true, false_or, or_false, Int.toNat_natCast, cond_true, cond_false, List.map_cons, List.map_nil, Option.map_some, Option.map_none])
      have : decide (rises p) = decide (rightR p r) := decide_eq_decide.mpr ⟨fun h => ⟨hP, h1, h⟩, fun h => h.2.2⟩
      rw [this]
    · simp -failIfUnchanged (disch := first | assumption | omega | (refine room_i _ _ ?_ ?_ <;> omega) | (refine @_root_.id _ ?_; with_unfolding_all exact Eq.refl _) | (simp only [List.length_take, List.length_drop, List.length_append, List.length_cons, List.length_nil, List.length_replicate, List.length_map] <;> omega) | fail) only [rnL, opL, ruL, hpL, rsL, natL, outL, Nat.add_sub_cancel_left, Nat.mul_one, List.length_cons, List.length_nil, Nat.zero_add, Nat.add_zero, Nat.reduceAdd, Nat.reduceMul, Nat.reduceSub, Nat.reduceEqDiff, Nat.reduceLT, Nat.reduceLeDiff, litd_t, litd_f, decide_true, decide_false, Bool.not_true, Bool.not_false, not_true_eq_false, not_false_eq_true, true_and, and_true, false_and, and_false, true_or, or_true, false_or, or_false, Int.toNat_natCast, cond_true, cond_false, List.map_cons, List.map_nil, Option.map_some, Option.map_none, datL, okRef_is, risesRef_is]
      (refine Fin_g (.inr rfl) (by simp -failIfUnchanged (disch := first | assumption | omega | (refine room_i _ _ ?_ ?_ <;> omega) | (refine @_root_.id _ ?_; with_unfolding_all exact Eq.refl _) | (simp only [List.length_take, List.length_drop, List.length_append, List.length_cons, List.length_nil, List.length_replicate, List.length_map] <;> omega) | fail) only [rnL, opL, ruL, hpL, rsL, natL, outL, Nat.add_sub_cancel_left, Nat.mul_one, List.length_cons, List.length_nil, Nat.zero_add, Nat.add_zero, Nat.reduceAdd, Nat.reduceMul, Nat.reduceSub, Nat.reduceEqDiff, Nat.reduceLT, Nat.reduceLeDiff, litd_t, litd_f, decide_true, decide_false, Bool.not_true, Bool.not_false, not_true_eq_false, not_false_eq_true, true_and, and_true, false_and, and_false, true_or, or_true, false_or, or_false, Int.toNat_natCast, cond_true, cond_false, List.map_cons, List.map_nil, Option.map_some, Option.map_none]; rfl) ?_; simp -failIfUnchanged (disch := first | assumption | omega | (refine room_i _ _ ?_ ?_ <;> omega) | (refine @_root_.id _ ?_; with_unfolding_all exact Eq.refl _) | (simp only [List.length_take, List.length_drop, List.length_append, List.length_cons, List.length_nil, List.length_replicate, List.length_map] <;> omega) | fail) only [rnL, opL, ruL, hpL, rsL, natL, outL, Nat.add_sub_cancel_left, Nat.mul_one, List.length_cons, List.length_nil, Nat.zero_add, Nat.add_zero, Nat.reduceAdd, Nat.reduceMul, Nat.reduceSub, Nat.reduceEqDiff, Nat.reduceLT, Nat.reduceLeDiff, litd_t, litd_f, decide_true, decide_false, Bool.not_true, Bool.not_false, not_true_eq_false, not_false_eq_true, true_and, and_true, false_and, and_false, true_or, or_true, false_or, or_false, Int.toNat_natCast, cond_true, cond_false, List.map_cons, List.map_nil, Option.map_some, Option.map_none])
      rw [decide_eq_false]
      exact fun h => h1 h.2.1
end Go.AS.Th

namespace Go.AS.Th
open Go Go.AS Go.Proofs

theorem slt_irrefl : ∀ a : Str, ¬ slt a a
  | [], h => by simp [slt, bytesLt] at h
  | x :: r, h => by
    have := slt_irrefl r
    simp [slt, bytesLt] at h this
    simp [this] at h
theorem slt_trans : ∀ {a b c : Str}, slt a b → slt b c → slt a c
  | _, _, [], _, h2 => by simp [slt, bytesLt] at h2
  | _, [], _ :: _, h1, _ => by simp [slt, bytesLt] at h1
  | [], _ :: _, _ :: _, _, _ => by simp [slt, bytesLt]
  | x :: a, y :: b, z :: c, h1, h2 => by
    have ih : bytesLt a b = true → bytesLt b c = true → bytesLt a c = true := fun h1 h2 => slt_trans (a := a) (b := b) (c := c) h1 h2
    simp only [slt, bytesLt, Bool.or_eq_true, Bool.and_eq_true, decide_eq_true_eq, beq_iff_eq] at h1 h2 ⊢
    rcases h1 with h1 | ⟨rfl, h1⟩
    · rcases h2 with h2 | ⟨rfl, h2⟩
      · exact .inl (UInt8.lt_trans h1 h2)
      · exact .inl h1
    · rcases h2 with h2 | ⟨rfl, h2⟩
      · exact .inl h2
      · exact .inr ⟨rfl, ih h1 h2⟩
theorem slt_total : ∀ a b : Str, slt a b ∨ a = b ∨ slt b a
  | [], [] => .inr (.inl rfl)
  | [], _ :: _ => .inl (by simp [slt, bytesLt])
  | _ :: _, [] => .inr (.inr (by simp [slt, bytesLt]))
  | x :: a, y :: b => by
    have ih := slt_total a b
    simp only [slt, bytesLt, Bool.or_eq_true, Bool.and_eq_true, decide_eq_true_eq, beq_iff_eq] at ih ⊢
    rcases Nat.lt_trichotomy x.toNat y.toNat with h | h | h
    · exact .inl (.inl (UInt8.lt_iff_toNat_lt.mpr h))
    · have e : x = y := UInt8.toNat_inj.mp h
      subst e
      rcases ih with h | h | h
      · exact .inl (.inr ⟨rfl, h⟩)
      · exact .inr (.inl (by rw [h]))
      · exact .inr (.inr (.inr ⟨rfl, h⟩))
    · exact .inr (.inr (.inl (UInt8.lt_iff_toNat_lt.mpr h)))
theorem gt_iff (a b : Str) : ¬ (slt a b ∨ a = b) ↔ slt b a := by
  constructor
  · intro h
    rcases slt_total a b with h1 | h1 | h1
    · exact absurd (.inl h1) h
    · exact absurd (.inr h1) h
    · exact h1
  · rintro h (h1 | rfl)
    · exact slt_irrefl _ (slt_trans h h1)
    · exact slt_irrefl _ h
theorem rises_lt {p : List Str} (h : rises p) : ∀ {i j : Nat}, i < j → j < p.length → slt (p.getD i []) (p.getD j [])
  | i, 0, hi, _ => by omega
  | i, j + 1, hi, hj => by
    have h1 := h (j + 1) hj (by omega)
    simp only [Nat.add_sub_cancel] at h1
    by_cases e : i = j
    · subst e; exact h1
    · exact slt_trans (rises_lt h (i := i) (j := j) (by omega) (by omega)) h1
theorem right_eq (p : List Str) (r : Rng) : rightR p r ↔ rightP p r := by
  have hok : (r.hi = [] ∨ ¬ (slt r.hi r.lo ∨ r.hi = r.lo)) ↔ okR r := by unfold okR; rw [gt_iff]
  unfold rightR rightP
  rw [hok]
  constructor
  · rintro ⟨h1, h2, h3⟩
    refine ⟨h2, h3, ?_⟩
    by_cases h : p.length = 0
    · exact .inl h
    · exact .inr ⟨(h1 0 (by omega)).1, (h1 (p.length - 1) (by omega)).2⟩
  · rintro ⟨h2, h3, h4⟩
    refine ⟨fun i hi => ?_, h2, h3⟩
    rcases h4 with h4 | ⟨h4, h5⟩
    · omega
    · refine ⟨?_, ?_⟩
      · rw [gt_iff] at h4 ⊢
        by_cases e : i = 0
        · subst e; exact h4
        · exact slt_trans h4 (rises_lt h3 (by omega) hi)
      · rcases h5 with h5 | h5
        · exact .inl h5
        · refine .inr ?_
          by_cases e : i = p.length - 1
          · subst e; exact h5
          · exact slt_trans (rises_lt h3 (i := i) (j := p.length - 1) (by omega) (by omega)) h5
theorem rightRef_p (nl : Bool) (p : List Str) (r : Rng) (hp : p.length ≤ 1000) : CallIs F 66 [sl nl p, .agg (Cel.enc r)] (.bool (decide (rightP p r))) := by
  have e : decide (rightP p r) = decide (rightR p r) := decide_eq_decide.mpr (right_eq p r).symm
  rw [e]
  exact rightRef_is nl p r hp
end Go.AS.Th

namespace Go.AS.Th
open Go Go.AS Go.Proofs
set_option maxHeartbeats 1000000
set_option maxRecDepth 4000
theorem buildRng {H : Heap} (a b : Str) : opV H (.build [.str [], .str []] [(0, 1, .c (.str a)), (1, 1, .c (.str b))]) = some (.agg (Cel.enc (Rng.mk a b)), H) := rfl
def spl (p : List Str) (r : Rng) (i : Nat) : List Rng := (List.range i).map (spanAt p r)
theorem spl_succ (p : List Str) (r : Rng) (i : Nat) : spl p r (i + 1) = spl p r i ++ [spanAt p r i] := by simp [spl, List.range_succ]
theorem spl_len (p : List Str) (r : Rng) (i : Nat) : (spl p r i).length = i := by simp [spl]
theorem spansRef_is (nl : Bool) (p : List Str) (r : Rng) (hp : p.length ≤ 1000) : CallIs F 67 [sl nl p, .agg (Cel.enc r)] (sl false (if rightP p r then spl p r (p.length + 1) else [])) := by
  refine Gives.is ?_
  refine Gives.of fn_r13_Spans rfl rfl (args' := [sl nl p, .agg (Cel.enc r)]) (by simp only [mapO_nil, mapO_c2, consO_some, upf_v]) ?_
  simp only [ir_r13_Spans]
  simp -failIfUnchanged (disch := first | assumption | omega | (refine room_i _ _ ?_ ?_ <;> omega) | (refine @_root_.id _ ?_; with_unfolding_all exact Eq.refl _) | (simp only [List.length_take, List.length_drop, List.length_append, List.length_cons, List.length_nil, List.length_replicate, List.length_map] <;> omega) | fail) only [rnL, opL, ruL, hpL, rsL, natL, outL, Nat.add_sub_cancel_left, Nat.mul_one, List.length_cons, List.length_nil, Nat.zero_add, Nat.add_zero, Nat.reduceAdd, Nat.reduceMul, Nat.reduceSub, Nat.reduceEqDiff, Nat.reduceLT, Nat.reduceLeDiff, litd_t, litd_f, decide_true, decide_false, Bool.not_true, Bool.not_false, not_true_eq_false, not_false_eq_true, true_and, and_true, false_and, and_false, true_or, or_true, false_or, or_false, Int.toNat_natCast, cond_true, cond_false, List.map_cons, List.map_nil, Option.map_some, Option.map_none, datL, rightRef_p]
  (first | refine RunB_i (fun h1 => ?_) (fun h1 => ?_) | refine RunG_i (fun h1 => ?_) (fun h1 => ?_) | refine RunB_ib (fun h1 => ?_) (fun h1 => ?_))
  · simp -failIfUnchanged (disch := first | assumption | omega | (refine room_i _ _ ?_ ?_ <;> omega) | (refine @_root_.id _ ?_; with_unfolding_all exact Eq.refl _) | (simp only [List.length_take, List.length_drop, List.length_append, List.length_cons, List.length_nil, List.length_replicate, List.length_map] <;> omega) | fail) only [rnL, opL, ruL, hpL, rsL, natL, outL, Nat.add_sub_cancel_left, Nat.mul_one, List.length_cons, List.length_nil, Nat.zero_add, Nat.add_zero, Nat.reduceAdd, Nat.reduceMul, Nat.reduceSub, Nat.reduceEqDiff, Nat.reduceLT, Nat.reduceLeDiff, litd_t, litd_f, decide_true, decide_false, Bool.not_true, Bool.not_false, not_true_eq_false, not_false_eq_true, true_and, and_true, false_and, and_false, true_or, or_true, false_or, or_false, Int.toNat_natCast, cond_true, cond_false, List.map_cons, List.map_nil, Option.map_some, Option.map_none]
    rw [if_neg h1]
    (refine Fin_g (.inr rfl) (by simp -failIfUnchanged (disch := first | assumption | omega | (refine room_i _ _ ?_ ?_ <;> omega) | (refine @_root_.id _ ?_; with_unfolding_all exact Eq.refl _) | (simp only [List.length_take, List.length_drop, List.length_append, List.length_cons, List.length_nil, List.length_replicate, List.length_map] <;> omega) | fail) only [rnL, opL, ruL, hpL, rsL, natL, outL, Nat.add_sub_cancel_left, Nat.mul_one, List.length_cons, List.length_nil, Nat.zero_add, Nat.add_zero, Nat.reduceAdd, Nat.reduceMul, Nat.reduceSub, Nat.reduceEqDiff, Nat.reduceLT, Nat.reduceLeDiff, litd_t, litd_f, decide_true, decide_false, Bool.not_true, Bool.not_false, not_true_eq_false, not_false_eq_true, true_and, and_true, false_and, and_false, true_or, or_true, false_or, or_false, Int.toNat_natCast, cond_true, cond_false, List.map_cons, List.map_nil, Option.map_some, Option.map_none]; rfl) ?_; simp -failIfUnchanged (disch := first | assumption | omega | (refine room_i _ _ ?_ ?_ <;> omega) | (refine @_root_.id _ ?_; with_unfolding_all exact Eq.refl _) | (simp only [List.length_take, List.length_drop, List.length_append, List.length_cons, List.length_nil, List.length_replicate, List.length_map] <;> omega) | fail) only [rnL, opL, ruL, hpL, rsL, natL, outL, Nat.add_sub_cancel_left, Nat.mul_one, List.length_cons, List.length_nil, Nat.zero_add, Nat.add_zero, Nat.reduceAdd, Nat.reduceMul, Nat.reduceSub, Nat.reduceEqDiff, Nat.reduceLT, Nat.reduceLeDiff, litd_t, litd_f, decide_true, decide_false, Bool.not_true, Bool.not_false, not_true_eq_false, not_false_eq_true, true_and, and_true, false_and, and_false, true_or, or_true, false_or, or_false, Int.toNat_natCast, cond_true, cond_false, List.map_cons, List.map_nil, Option.map_some, Option.map_none])
    rfl
  · have h1 := Decidable.not_not.mp h1
    rw [if_pos h1]
    simp -failIfUnchanged (disch := first | assumption | omega | (refine room_i _ _ ?_ ?_ <;> omega) | (refine @_root_.id _ ?_; with_unfolding_all exact Eq.refl _) | (simp only [List.length_take, List.length_drop, List.length_append, List.length_cons, List.length_nil, List.length_replicate, List.length_map] <;> omega) | fail) only [rnL, opL, ruL, hpL, rsL, natL, outL, Nat.add_sub_cancel_left, Nat.mul_one, List.length_cons, List.length_nil, Nat.zero_add, Nat.add_zero, Nat.reduceAdd, Nat.reduceMul, Nat.reduceSub, Nat.reduceEqDiff, Nat.reduceLT, Nat.reduceLeDiff, litd_t, litd_f, decide_true, decide_false, Bool.not_true, Bool.not_false, not_true_eq_false, not_false_eq_true, true_and, and_true, false_and, and_false, true_or, or_true, false_or, or_false, Int.toNat_natCast, cond_true, cond_false, List.map_cons, List.map_nil, Option.map_some, Option.map_none, datL]
    refine Run_upto p.length (fun i => [(0, sl nl p), (1, .agg (Cel.enc r)), (3, .ptr 0 2 0), (4, .imm true 0 0 (some 0) []), (5, bv 1 false (spl p r i)), (6, .str (spanAt p r i).lo), (7, AV.int IntKind.i64 (i : Nat)), (12, .bool false)]) (fun i => [bh [.cells (Cel.enc r)] (spl p r i)]) (fun _ => True) rfl rfl trivial ?_
    intro i hi _
    have hl := spl_len p r i
    simp -failIfUnchanged (disch := first | assumption | omega | (refine room_i _ _ ?_ ?_ <;> omega) | (refine @_root_.id _ ?_; with_unfolding_all exact Eq.refl _) | (simp only [List.length_take, List.length_drop, List.length_append, List.length_cons, List.length_nil, List.length_replicate, List.length_map] <;> omega) | fail) only [rnL, opL, ruL, hpL, rsL, natL, outL, Nat.add_sub_cancel_left, Nat.mul_one, List.length_cons, List.length_nil, Nat.zero_add, Nat.add_zero, Nat.reduceAdd, Nat.reduceMul, Nat.reduceSub, Nat.reduceEqDiff, Nat.reduceLT, Nat.reduceLeDiff, litd_t, litd_f, decide_true, decide_false, Bool.not_true, Bool.not_false, not_true_eq_false, not_false_eq_true, true_and, and_true, false_and, and_false, true_or, or_true, false_or, or_false, Int.toNat_natCast, cond_true, cond_false, List.map_cons, List.map_nil, Option.map_some, Option.map_none]
    (first | refine RunB_i (fun h => ?_) (fun h => ?_) | refine RunG_i (fun h => ?_) (fun h => ?_) | refine RunB_ib (fun h => ?_) (fun h => ?_))
    · have hlt : i < p.length := by omega
      have e3 : p[i] = (spanAt p r (i + 1)).lo := by simp only [spanAt, if_pos (Nat.succ_pos i), Nat.add_sub_cancel]; exact (getD_at _ _ hlt).symm
      have e4 : Rng.mk (spanAt p r i).lo (spanAt p r (i + 1)).lo = spanAt p r i := by
        simp only [spanAt, if_pos (Nat.succ_pos i), Nat.add_sub_cancel, if_pos hlt]
      simp -failIfUnchanged (disch := first | assumption | omega | (refine room_i _ _ ?_ ?_ <;> omega) | (refine @_root_.id _ ?_; with_unfolding_all exact Eq.refl _) | (simp only [List.length_take, List.length_drop, List.length_append, List.length_cons, List.length_nil, List.length_replicate, List.length_map] <;> omega) | fail) only [rnL, opL, ruL, hpL, rsL, natL, outL, Nat.add_sub_cancel_left, Nat.mul_one, List.length_cons, List.length_nil, Nat.zero_add, Nat.add_zero, Nat.reduceAdd, Nat.reduceMul, Nat.reduceSub, Nat.reduceEqDiff, Nat.reduceLT, Nat.reduceLeDiff, litd_t, litd_f, decide_true, decide_false, Bool.not_true, Bool.not_false, not_true_eq_false, not_false_eq_true, true_and, and_true, false_and, and_false, true_or, or_true, false_or, or_false, Int.toNat_natCast, cond_true, cond_false, List.map_cons, List.map_nil, Option.map_some, Option.map_none, datL, buildRng, e3, e4]
      rw [← spl_succ]
      exact .i hlt (by first | exact trivial | rfl) (by first | exact trivial | rfl) trivial
    · have : i = p.length := by omega
      subst this
      have e4 : Rng.mk (spanAt p r p.length).lo r.hi = spanAt p r p.length := by
        simp only [spanAt, if_neg (Nat.lt_irrefl p.length)]
      simp -failIfUnchanged (disch := first | assumption | omega | (refine room_i _ _ ?_ ?_ <;> omega) | (refine @_root_.id _ ?_; with_unfolding_all exact Eq.refl _) | (simp only [List.length_take, List.length_drop, List.length_append, List.length_cons, List.length_nil, List.length_replicate, List.length_map] <;> omega) | fail) only [rnL, opL, ruL, hpL, rsL, natL, outL, Nat.add_sub_cancel_left, Nat.mul_one, List.length_cons, List.length_nil, Nat.zero_add, Nat.add_zero, Nat.reduceAdd, Nat.reduceMul, Nat.reduceSub, Nat.reduceEqDiff, Nat.reduceLT, Nat.reduceLeDiff, litd_t, litd_f, decide_true, decide_false, Bool.not_true, Bool.not_false, not_true_eq_false, not_false_eq_true, true_and, and_true, false_and, and_false, true_or, or_true, false_or, or_false, Int.toNat_natCast, cond_true, cond_false, List.map_cons, List.map_nil, Option.map_some, Option.map_none, datL, buildRng, e4]
      rw [← spl_succ]
      refine Fin_g (.inr rfl) (vs := [bv 1 false (spl p r (p.length + 1))]) ?_ ?_
      · have e5 : ∀ e H, Env.get e 4 = bv 1 false (spl p r (p.length + 1)) → mapO (resultA e H) [.tmp 4] = some [bv 1 false (spl p r (p.length + 1))] := fun e H h => by
          simp only [mapO, resultA_tmp, h, tmpV_bv]
        exact e5 _ _ rfl
      · simp -failIfUnchanged (disch := first | assumption | omega | (refine room_i _ _ ?_ ?_ <;> omega) | (refine @_root_.id _ ?_; with_unfolding_all exact Eq.refl _) | (simp only [List.length_take, List.length_drop, List.length_append, List.length_cons, List.length_nil, List.length_replicate, List.length_map] <;> omega) | fail) only [rnL, opL, ruL, hpL, rsL, natL, outL, Nat.add_sub_cancel_left, Nat.mul_one, List.length_cons, List.length_nil, Nat.zero_add, Nat.add_zero, Nat.reduceAdd, Nat.reduceMul, Nat.reduceSub, Nat.reduceEqDiff, Nat.reduceLT, Nat.reduceLeDiff, litd_t, litd_f, decide_true, decide_false, Bool.not_true, Bool.not_false, not_true_eq_false, not_false_eq_true, true_and, and_true, false_and, and_false, true_or, or_true, false_or, or_false, Int.toNat_natCast, cond_true, cond_false, List.map_cons, List.map_nil, Option.map_some, Option.map_none]
        simp only [Bool.false_and]
end Go.AS.Th

namespace Go.AS.Th
open Go Go.AS Go.Proofs
set_option maxHeartbeats 2000000
set_option maxRecDepth 8000

/-! ### Depth first -/
structure V where
  n : Int
  r : Rng
  ab : List Int
abbrev Ks := List (Int × Nat) × Nat
/-- Why a node can't be gone on from. -/
def badAt (T : Tr) (n : Int) (r : Rng) (ab : List Int) (s : Ks) : Prop :=
  ¬ ((nodeAt T n).kind = 1 ∨ (nodeAt T n).kind = 2) ∨ n ∈ s.1.map Prod.fst ∨ ((nodeAt T n).kind = 2 ∧ (nodeAt T n).kids.l.length ≠ (nodeAt T n).pivots.l.length + 1) ∨
    ((nodeAt T n).kind = 2 ∧ ¬ rightP (nodeAt T n).pivots.l r) ∨ (ab = [] ∧ (nodeAt T n).kind ≠ 2)
instance (T : Tr) (n : Int) (r : Rng) (ab : List Int) (s : Ks) : Decidable (badAt T n r ab s) := by unfold badAt; infer_instance
def kidsL (f : Int → Rng → Ks → List V × Ks × Bool) (kids : List Int) : List (Nat × Rng) → Ks → List V × Ks × Bool
  | [], s => ([], s, true)
  | (i, sp) :: rest, s => if (f (kids.getD i 0) sp s).2.2 then
      ((f (kids.getD i 0) sp s).1 ++ (kidsL f kids rest (f (kids.getD i 0) sp s).2.1).1, (kidsL f kids rest (f (kids.getD i 0) sp s).2.1).2)
    else f (kids.getD i 0) sp s
def add (s : Ks) (n : Int) : Ks := (addK s.1 n s.2, addC s.1 n s.2)
def dfs (T : Tr) : Nat → Int → Rng → List Int → Ks → List V × Ks × Bool
  | 0, _, _, _, s => ([], s, false)
  | k + 1, n, r, ab, s => if badAt T n r ab s then ([], s, false) else
    if (nodeAt T n).kind = 1 then ([⟨n, r, ab⟩], add s n, true) else
      (⟨n, r, ab⟩ :: (kidsL (fun n' r' s' => dfs T k n' r' (ab ++ [n]) s') (nodeAt T n).kids.l (spans (nodeAt T n).pivots.l r) (add s n)).1,
        (kidsL (fun n' r' s' => dfs T k n' r' (ab ++ [n]) s') (nodeAt T n).kids.l (spans (nodeAt T n).pivots.l r) (add s n)).2)

/-! ### The walker -/
def aboveV (ab : List Int) : AV := if ab = [] then .imm true 0 0 (some 0) [] else sl false ab
def visit (v : V) : List AV := [.int .i64 v.n, .agg (Cel.enc v.r), aboveV v.ab]
def hp (T : Tr) (o0 : AObj) (f : AV) (s : Ks) (bad : Bool) (G : Heap) : Heap := o0 :: setO s.1 s.2 :: .cells [sl T.nodes.nil T.nodes.l, .map 1, .bool bad, f] :: G
def unseen (T : Tr) (s : Ks) : Nat := ((List.range T.nodes.l.length).filter fun (i : Nat) => decide (Int.ofNat i ∉ s.1.map Prod.fst)).length
theorem hatG (a b c : AObj) (G L : Heap) (k : Nat) : hat (a :: b :: c :: (G ++ L)) (G.length + (k + 3)) = hat L k := by
  induction G with
  | nil => simp only [List.nil_append, List.length_nil, Nat.zero_add]; rfl
  | cons x G ih =>
    have e : (x :: G).length + (k + 3) = (G.length + (k + 3)) + 1 := by simp; omega
    rw [e]
    show hat (b :: c :: ((x :: G) ++ L)) (G.length + (k + 3)) = _
    have e2 : G.length + (k + 3) = (G.length + (k + 1) + 1) + 1 := by omega
    rw [e2] at ih ⊢
    exact ih
theorem hsetG (a b c : AObj) (G L : Heap) (k : Nat) (x : AObj) : hset (a :: b :: c :: (G ++ L)) (G.length + (k + 3)) x = a :: b :: c :: (G ++ hset L k x) := by
  have e : G.length + (k + 3) = (G.length + k) + 1 + 1 + 1 := by omega
  rw [e]
  show a :: b :: c :: hset (G ++ L) (G.length + k) x = _
  have : hset (G ++ L) (G.length + k) x = G ++ hset L k x := by
    induction G with
    | nil => simp
    | cons y G ih =>
      have e : (y :: G).length + k = (G.length + k) + 1 := by simp; omega
      rw [e]
      show y :: hset (G ++ L) (G.length + k) x = _
      rw [ih (by omega)]; rfl
  rw [this]
theorem FinM_g {rs : List IRes} {vs : List AV} {v : AV} {S' : Stack} {x : IX} {e : Env} {H : Heap} {S : Stack} (hx : x = .normal ∨ x = .ret) (hr : mapO (resultA e H) rs = some vs) (hl : outV vs = v) (hS : H :: S = S') : FinM rs v S' x e (H :: S) := by
  subst hS hl
  refine ⟨hx, rfl, ?_⟩
  simp only [resultsA, hr]
  match vs with
  | [] => rfl
  | [a] => rfl
  | a :: b :: r => rfl
theorem encTr (T : Tr) : [sl T.nodes.nil T.nodes.l] = Cel.enc T := rfl
theorem hat_4 (a b c d e : AObj) (r : Heap) : hat (a :: b :: c :: d :: e :: r) 4 = e := rfl
theorem hset_4 (a b c d e x : AObj) (r : Heap) : hset (a :: b :: c :: d :: e :: r) 4 x = a :: b :: c :: d :: x :: r := rfl
theorem hat_5 (a b c d e f : AObj) (r : Heap) : hat (a :: b :: c :: d :: e :: f :: r) 5 = f := rfl
theorem hset_5 (a b c d e f x : AObj) (r : Heap) : hset (a :: b :: c :: d :: e :: f :: r) 5 x = a :: b :: c :: d :: e :: x :: r := rfl
theorem hat_6 (a b c d e f g : AObj) (r : Heap) : hat (a :: b :: c :: d :: e :: f :: g :: r) 6 = g := rfl
theorem hset_6 (a b c d e f g x : AObj) (r : Heap) : hset (a :: b :: c :: d :: e :: f :: g :: r) 6 x = a :: b :: c :: d :: e :: f :: x :: r := rfl
theorem hat_7 (a b c d e f g h : AObj) (r : Heap) : hat (a :: b :: c :: d :: e :: f :: g :: h :: r) 7 = h := rfl
theorem hset_7 (a b c d e f g h x : AObj) (r : Heap) : hset (a :: b :: c :: d :: e :: f :: g :: h :: r) 7 x = a :: b :: c :: d :: e :: f :: g :: x :: r := rfl
theorem hat_8 (a b c d e f g h i : AObj) (r : Heap) : hat (a :: b :: c :: d :: e :: f :: g :: h :: i :: r) 8 = i := rfl
theorem hset_8 (a b c d e f g h i x : AObj) (r : Heap) : hset (a :: b :: c :: d :: e :: f :: g :: h :: i :: r) 8 x = a :: b :: c :: d :: e :: f :: g :: h :: x :: r := rfl
def wkE (T : Tr) (n : Int) (r : Rng) (ab : List Int) (b : Bool) : Heap := [.cells [.ptr 2 4 0], .cells (Cel.enc r), .cells [aboveV ab], .cells [.bool b], .cells (Cel.enc (nodeAt T n))]
theorem ab_box {H : Heap} (ab : List Int) : opV H (.box 1 (.c (aboveV ab))) = some (.ptr H.length 1 0, H ++ [.cells [aboveV ab]]) := by
  unfold aboveV; split
  · rfl
  · rfl
theorem ab_len {H : Heap} (ab : List Int) : opV H (.len (.c (aboveV ab))) = some (.int .i64 ab.length, H) := by
  unfold aboveV; split
  · rename_i h; subst h; rfl
  · rw [opV_len]
theorem ab_clip {H : Heap} (ab : List Int) {a b : Int} (h1 : a = ab.length) (h2 : b = ab.length) : opV H (.sub 1 (.c (aboveV ab)) none (some (.c (.int .i64 a))) (some (.c (.int .i64 b)))) = some (slc (decide (ab = [])) ab, H) := by
  subst h1 h2
  unfold aboveV; split
  · rename_i h; subst h; rfl
  · rename_i h; rw [opV_sub_clip rfl rfl rfl, decide_eq_false h]
theorem kind1 (k : UInt8) : ((k.toNat : Int) = 1) = (k = 1) := propext ⟨fun h => UInt8.toNat_inj.mp (by simp only [UInt8.toNat_ofNat]; omega), fun h => by rw [h]; rfl⟩
theorem kind2 (k : UInt8) : ((k.toNat : Int) = 2) = (k = 2) := propext ⟨fun h => UInt8.toNat_inj.mp (by simp only [UInt8.toNat_ofNat]; omega), fun h => by rw [h]; rfl⟩
theorem ab_len0 (l : List Int) : ((l.length : Int) = 0) = (l = []) := propext ⟨fun h => List.length_eq_zero_iff.mp (by omega), fun h => by rw [h]; rfl⟩
theorem look_if (p : Prop) [Decidable p] : (0 < (if p then (1 : Int) else 0)) = p := by
  by_cases h : p <;> simp [h]
theorem k12 : ((1 : UInt8) = 2) = False := eq_false (by decide)
theorem k21 : ((2 : UInt8) = 1) = False := eq_false (by decide)
theorem lo1 (a : AObj) (x y : Heap) : (a :: x) ++ y = a :: (x ++ y) := rfl
theorem lo2 (a : AV) (x y : List AV) : (a :: x) ++ y = a :: (x ++ y) := rfl
theorem lo3 (x : Heap) : [] ++ x = x := rfl
theorem lo4 (x : List AV) : [] ++ x = x := rfl
theorem lo5 (x y z : Heap) : (x ++ y) ++ z = x ++ (y ++ z) := List.append_assoc x y z
theorem lo6 (x y : Heap) : (x ++ y).length = x.length + y.length := List.length_append
theorem lo7 (x : List AV) : x.drop 0 = x := rfl
theorem lo8 (n : Nat) (a : AV) (x : List AV) : (a :: x).take (n + 1) = a :: x.take n := rfl
theorem lo9 (x : List AV) : x.take 0 = [] := rfl
theorem wkL : Ty (And.intro @hat_4 <| And.intro @hset_4 <| And.intro @hat_5 <| And.intro @hset_5 <| And.intro @hat_6 <| And.intro @hset_6 <| And.intro @hat_7 <| And.intro @hset_7 <| And.intro @hat_8 <| And.intro @hset_8 <| And.intro @hatG <| And.intro @hsetG <| And.intro @k12 <| And.intro @k21 <| And.intro @lo1 <| And.intro @lo2 <| And.intro @lo3 <| And.intro @lo4 <| And.intro @lo5 <| And.intro @lo6 <| And.intro @Nat.add_assoc <| And.intro @lo7 <| And.intro @lo8 <| And.intro @lo9 <| And.intro @ab_box <| And.intro @ab_len <| And.intro @ab_clip <| And.intro @splice5 <| And.intro @kind1 <| And.intro @kind2 <| And.intro @ab_len0 <| @look_if) := And.intro @hat_4 <| And.intro @hset_4 <| And.intro @hat_5 <| And.intro @hset_5 <| And.intro @hat_6 <| And.intro @hset_6 <| And.intro @hat_7 <| And.intro @hset_7 <| And.intro @hat_8 <| And.intro @hset_8 <| And.intro @hatG <| And.intro @hsetG <| And.intro @k12 <| And.intro @k21 <| And.intro @lo1 <| And.intro @lo2 <| And.intro @lo3 <| And.intro @lo4 <| And.intro @lo5 <| And.intro @lo6 <| And.intro @Nat.add_assoc <| And.intro @lo7 <| And.intro @lo8 <| And.intro @lo9 <| And.intro @ab_box <| And.intro @ab_len <| And.intro @ab_clip <| And.intro @splice5 <| And.intro @kind1 <| And.intro @kind2 <| And.intro @ab_len0 <| @look_if
theorem FinM_c {i id : Nat} {v : AV} {S' : Stack} {x : IX} {e : Env} {H : Heap} {S : Stack} (hx : x = .normal ∨ x = .ret) (he : Env.get e i = .ptr id 1 0) (hh : hat H id = .cells [v]) (hS : H :: S = S') : FinM [.cell i none] v S' x e (H :: S) := by
  refine FinM_g hx (vs := [v]) ?_ rfl hS
  have h1 : H[id]? = some (.cells [v]) := hat_lt (by intro h; cases h) hh
  simp only [mapO, resultA, he, h1]
  rfl
theorem walk_bad (T : Tr) (o0 : AObj) (f : AV) (n : Int) (r : Rng) (ab : List Int) (s : Ks) (G : Heap) (S : Stack) (hb : badAt T n r ab s) (hn : (nodeAt T n).pivots.l.length ≤ 1000 ∧ (nodeAt T n).kids.l.length ≤ 1000) (hab : ab.length ≤ 1000) :
    Rets F (.func (.func 78) [] []) [.ptr 2 4 0, .int .i64 n, .agg (Cel.enc r), aboveV ab] (hp T o0 f s false G :: S) (.bool false) (hp T o0 f s true (G ++ wkE T n r ab false) :: S) := by
  obtain ⟨hn1, hn2⟩ := hn
  refine Rets.mem fn_tree_walker_walk rfl rfl ?_
  simp only [ir_tree_walker_walk, hp]
  by_cases g1 : (nodeAt T n).kind = 1 ∨ (nodeAt T n).kind = 2
  · by_cases g2 : n ∈ s.1.map Prod.fst
    · simp -failIfUnchanged (disch := first | assumption | omega | (refine room_i _ _ ?_ ?_ <;> omega) | (refine @_root_.id _ ?_; with_unfolding_all exact Eq.refl _) | (simp only [List.length_take, List.length_drop, List.length_append, List.length_cons, List.length_nil, List.length_replicate, List.length_map] <;> omega) | fail) only [rnL, opL, ruL, hpL, rsL, natL, outL, Nat.add_sub_cancel_left, Nat.mul_one, List.length_cons, List.length_nil, Nat.zero_add, Nat.add_zero, Nat.reduceAdd, Nat.reduceMul, Nat.reduceSub, Nat.reduceEqDiff, Nat.reduceLT, Nat.reduceLeDiff, litd_t, litd_f, decide_true, decide_false, Bool.not_true, Bool.not_false, not_true_eq_false, not_false_eq_true, true_and, and_true, false_and, and_false, true_or, or_true, false_or, or_false, Int.toNat_natCast, cond_true, cond_false, List.map_cons, List.map_nil, Option.map_some, Option.map_none, datL, encTr, node_is, wkL, g1, g2]
      refine FinM_c (.inr rfl) rfl ?_ rfl
      simp -failIfUnchanged (disch := first | assumption | omega | (refine room_i _ _ ?_ ?_ <;> omega) | (refine @_root_.id _ ?_; with_unfolding_all exact Eq.refl _) | (simp only [List.length_take, List.length_drop, List.length_append, List.length_cons, List.length_nil, List.length_replicate, List.length_map] <;> omega) | fail) only [rnL, opL, ruL, hpL, rsL, natL, outL, Nat.add_sub_cancel_left, Nat.mul_one, List.length_cons, List.length_nil, Nat.zero_add, Nat.add_zero, Nat.reduceAdd, Nat.reduceMul, Nat.reduceSub, Nat.reduceEqDiff, Nat.reduceLT, Nat.reduceLeDiff, litd_t, litd_f, decide_true, decide_false, Bool.not_true, Bool.not_false, not_true_eq_false, not_false_eq_true, true_and, and_true, false_and, and_false, true_or, or_true, false_or, or_false, Int.toNat_natCast, cond_true, cond_false, List.map_cons, List.map_nil, Option.map_some, Option.map_none, wkL]
    · by_cases g3 : (nodeAt T n).kind = 2
      · by_cases g4 : ((nodeAt T n).kids.l.length : Int) = (nodeAt T n).pivots.l.length + 1
        · by_cases g5 : rightP (nodeAt T n).pivots.l r
          · exfalso
            rcases hb with h | h | h | h | h
            · exact h g1
            · exact g2 h
            · exact h.2 (by omega)
            · exact h.2 g5
            · exact h.2 g3
          · simp -failIfUnchanged (disch := first | assumption | omega | (refine room_i _ _ ?_ ?_ <;> omega) | (refine @_root_.id _ ?_; with_unfolding_all exact Eq.refl _) | (simp only [List.length_take, List.length_drop, List.length_append, List.length_cons, List.length_nil, List.length_replicate, List.length_map] <;> omega) | fail) only [rnL, opL, ruL, hpL, rsL, natL, outL, Nat.add_sub_cancel_left, Nat.mul_one, List.length_cons, List.length_nil, Nat.zero_add, Nat.add_zero, Nat.reduceAdd, Nat.reduceMul, Nat.reduceSub, Nat.reduceEqDiff, Nat.reduceLT, Nat.reduceLeDiff, litd_t, litd_f, decide_true, decide_false, Bool.not_true, Bool.not_false, not_true_eq_false, not_false_eq_true, true_and, and_true, false_and, and_false, true_or, or_true, false_or, or_false, Int.toNat_natCast, cond_true, cond_false, List.map_cons, List.map_nil, Option.map_some, Option.map_none, datL, encTr, node_is, wkL, g1, g2, g3, g4, right_is, g5]
            refine FinM_c (.inr rfl) rfl ?_ rfl
            simp -failIfUnchanged (disch := first | assumption | omega | (refine room_i _ _ ?_ ?_ <;> omega) | (refine @_root_.id _ ?_; with_unfolding_all exact Eq.refl _) | (simp only [List.length_take, List.length_drop, List.length_append, List.length_cons, List.length_nil, List.length_replicate, List.length_map] <;> omega) | fail) only [rnL, opL, ruL, hpL, rsL, natL, outL, Nat.add_sub_cancel_left, Nat.mul_one, List.length_cons, List.length_nil, Nat.zero_add, Nat.add_zero, Nat.reduceAdd, Nat.reduceMul, Nat.reduceSub, Nat.reduceEqDiff, Nat.reduceLT, Nat.reduceLeDiff, litd_t, litd_f, decide_true, decide_false, Bool.not_true, Bool.not_false, not_true_eq_false, not_false_eq_true, true_and, and_true, false_and, and_false, true_or, or_true, false_or, or_false, Int.toNat_natCast, cond_true, cond_false, List.map_cons, List.map_nil, Option.map_some, Option.map_none, wkL]
        · simp -failIfUnchanged (disch := first | assumption | omega | (refine room_i _ _ ?_ ?_ <;> omega) | (refine @_root_.id _ ?_; with_unfolding_all exact Eq.refl _) | (simp only [List.length_take, List.length_drop, List.length_append, List.length_cons, List.length_nil, List.length_replicate, List.length_map] <;> omega) | fail) only [rnL, opL, ruL, hpL, rsL, natL, outL, Nat.add_sub_cancel_left, Nat.mul_one, List.length_cons, List.length_nil, Nat.zero_add, Nat.add_zero, Nat.reduceAdd, Nat.reduceMul, Nat.reduceSub, Nat.reduceEqDiff, Nat.reduceLT, Nat.reduceLeDiff, litd_t, litd_f, decide_true, decide_false, Bool.not_true, Bool.not_false, not_true_eq_false, not_false_eq_true, true_and, and_true, false_and, and_false, true_or, or_true, false_or, or_false, Int.toNat_natCast, cond_true, cond_false, List.map_cons, List.map_nil, Option.map_some, Option.map_none, datL, encTr, node_is, wkL, g1, g2, g3, g4]
          refine FinM_c (.inr rfl) rfl ?_ rfl
          simp -failIfUnchanged (disch := first | assumption | omega | (refine room_i _ _ ?_ ?_ <;> omega) | (refine @_root_.id _ ?_; with_unfolding_all exact Eq.refl _) | (simp only [List.length_take, List.length_drop, List.length_append, List.length_cons, List.length_nil, List.length_replicate, List.length_map] <;> omega) | fail) only [rnL, opL, ruL, hpL, rsL, natL, outL, Nat.add_sub_cancel_left, Nat.mul_one, List.length_cons, List.length_nil, Nat.zero_add, Nat.add_zero, Nat.reduceAdd, Nat.reduceMul, Nat.reduceSub, Nat.reduceEqDiff, Nat.reduceLT, Nat.reduceLeDiff, litd_t, litd_f, decide_true, decide_false, Bool.not_true, Bool.not_false, not_true_eq_false, not_false_eq_true, true_and, and_true, false_and, and_false, true_or, or_true, false_or, or_false, Int.toNat_natCast, cond_true, cond_false, List.map_cons, List.map_nil, Option.map_some, Option.map_none, wkL]
      · by_cases g6 : ab = []
        · have g1' : (nodeAt T n).kind = 1 := g1.resolve_right g3
          have g6' := eq_true g6
          simp -failIfUnchanged (disch := first | assumption | omega | (refine room_i _ _ ?_ ?_ <;> omega) | (refine @_root_.id _ ?_; with_unfolding_all exact Eq.refl _) | (simp only [List.length_take, List.length_drop, List.length_append, List.length_cons, List.length_nil, List.length_replicate, List.length_map] <;> omega) | fail) only [rnL, opL, ruL, hpL, rsL, natL, outL, Nat.add_sub_cancel_left, Nat.mul_one, List.length_cons, List.length_nil, Nat.zero_add, Nat.add_zero, Nat.reduceAdd, Nat.reduceMul, Nat.reduceSub, Nat.reduceEqDiff, Nat.reduceLT, Nat.reduceLeDiff, litd_t, litd_f, decide_true, decide_false, Bool.not_true, Bool.not_false, not_true_eq_false, not_false_eq_true, true_and, and_true, false_and, and_false, true_or, or_true, false_or, or_false, Int.toNat_natCast, cond_true, cond_false, List.map_cons, List.map_nil, Option.map_some, Option.map_none, datL, encTr, node_is, wkL, g1', g2, g3, g6']
          refine FinM_c (.inr rfl) rfl ?_ rfl
          simp -failIfUnchanged (disch := first | assumption | omega | (refine room_i _ _ ?_ ?_ <;> omega) | (refine @_root_.id _ ?_; with_unfolding_all exact Eq.refl _) | (simp only [List.length_take, List.length_drop, List.length_append, List.length_cons, List.length_nil, List.length_replicate, List.length_map] <;> omega) | fail) only [rnL, opL, ruL, hpL, rsL, natL, outL, Nat.add_sub_cancel_left, Nat.mul_one, List.length_cons, List.length_nil, Nat.zero_add, Nat.add_zero, Nat.reduceAdd, Nat.reduceMul, Nat.reduceSub, Nat.reduceEqDiff, Nat.reduceLT, Nat.reduceLeDiff, litd_t, litd_f, decide_true, decide_false, Bool.not_true, Bool.not_false, not_true_eq_false, not_false_eq_true, true_and, and_true, false_and, and_false, true_or, or_true, false_or, or_false, Int.toNat_natCast, cond_true, cond_false, List.map_cons, List.map_nil, Option.map_some, Option.map_none, wkL]
        · exfalso
          rcases hb with h | h | h | h | h
          · exact h g1
          · exact g2 h
          · exact g3 h.1
          · exact g3 h.1
          · exact g6 h.1
  · simp -failIfUnchanged (disch := first | assumption | omega | (refine room_i _ _ ?_ ?_ <;> omega) | (refine @_root_.id _ ?_; with_unfolding_all exact Eq.refl _) | (simp only [List.length_take, List.length_drop, List.length_append, List.length_cons, List.length_nil, List.length_replicate, List.length_map] <;> omega) | fail) only [rnL, opL, ruL, hpL, rsL, natL, outL, Nat.add_sub_cancel_left, Nat.mul_one, List.length_cons, List.length_nil, Nat.zero_add, Nat.add_zero, Nat.reduceAdd, Nat.reduceMul, Nat.reduceSub, Nat.reduceEqDiff, Nat.reduceLT, Nat.reduceLeDiff, litd_t, litd_f, decide_true, decide_false, Bool.not_true, Bool.not_false, not_true_eq_false, not_false_eq_true, true_and, and_true, false_and, and_false, true_or, or_true, false_or, or_false, Int.toNat_natCast, cond_true, cond_false, List.map_cons, List.map_nil, Option.map_some, Option.map_none, datL, encTr, node_is, wkL, g1]
    refine FinM_c (.inr rfl) rfl ?_ rfl
    simp -failIfUnchanged (disch := first | assumption | omega | (refine room_i _ _ ?_ ?_ <;> omega) | (refine @_root_.id _ ?_; with_unfolding_all exact Eq.refl _) | (simp only [List.length_take, List.length_drop, List.length_append, List.length_cons, List.length_nil, List.length_replicate, List.length_map] <;> omega) | fail) only [rnL, opL, ruL, hpL, rsL, natL, outL, Nat.add_sub_cancel_left, Nat.mul_one, List.length_cons, List.length_nil, Nat.zero_add, Nat.add_zero, Nat.reduceAdd, Nat.reduceMul, Nat.reduceSub, Nat.reduceEqDiff, Nat.reduceLT, Nat.reduceLeDiff, litd_t, litd_f, decide_true, decide_false, Bool.not_true, Bool.not_false, not_true_eq_false, not_false_eq_true, true_and, and_true, false_and, and_false, true_or, or_true, false_or, or_false, Int.toNat_natCast, cond_true, cond_false, List.map_cons, List.map_nil, Option.map_some, Option.map_none, wkL]
/-- A leaf: one call. -/
theorem walk_leaf (T : Tr) (o0 : AObj) (f : AV) (n : Int) (r : Rng) (ab : List Int) (s : Ks) (G : Heap) (S S2 : Stack) (b : Bool) (hb : ¬ badAt T n r ab s) (hk : (nodeAt T n).kind = 1) (hn : (nodeAt T n).pivots.l.length ≤ 1000 ∧ (nodeAt T n).kids.l.length ≤ 1000) (hab : ab.length ≤ 1000)
    (hdo : ∀ Hc, Rets F f (visit ⟨n, r, ab⟩) (Hc :: S) (.bool b) (Hc :: S2)) :
    Rets F (.func (.func 78) [] []) [.ptr 2 4 0, .int .i64 n, .agg (Cel.enc r), aboveV ab] (hp T o0 f s false G :: S) (.bool b) (hp T o0 f (add s n) false (G ++ wkE T n r ab b) :: S2) := by
  obtain ⟨hn1, hn2⟩ := hn
  refine Rets.mem fn_tree_walker_walk rfl rfl ?_
  simp only [ir_tree_walker_walk, hp]
  have g2 : ¬ n ∈ s.1.map Prod.fst := fun h => hb (.inr (.inl h))
  have g6 : (ab = []) = False := eq_false fun h => hb (.inr (.inr (.inr (.inr ⟨h, by rw [hk]; decide⟩))))
  simp -failIfUnchanged (disch := first | assumption | omega | (refine room_i _ _ ?_ ?_ <;> omega) | (refine @_root_.id _ ?_; with_unfolding_all exact Eq.refl _) | (simp only [List.length_take, List.length_drop, List.length_append, List.length_cons, List.length_nil, List.length_replicate, List.length_map] <;> omega) | fail) only [rnL, opL, ruL, hpL, rsL, natL, outL, Nat.add_sub_cancel_left, Nat.mul_one, List.length_cons, List.length_nil, Nat.zero_add, Nat.add_zero, Nat.reduceAdd, Nat.reduceMul, Nat.reduceSub, Nat.reduceEqDiff, Nat.reduceLT, Nat.reduceLeDiff, litd_t, litd_f, decide_true, decide_false, Bool.not_true, Bool.not_false, not_true_eq_false, not_false_eq_true, true_and, and_true, false_and, and_false, true_or, or_true, false_or, or_false, Int.toNat_natCast, cond_true, cond_false, List.map_cons, List.map_nil, Option.map_some, Option.map_none, datL, encTr, node_is, wkL, hk, g2, g6]
  refine RunC_r (hdo _) ?_
  cases b with
  | true =>
    simp -failIfUnchanged (disch := first | assumption | omega | (refine room_i _ _ ?_ ?_ <;> omega) | (refine @_root_.id _ ?_; with_unfolding_all exact Eq.refl _) | (simp only [List.length_take, List.length_drop, List.length_append, List.length_cons, List.length_nil, List.length_replicate, List.length_map] <;> omega) | fail) only [rnL, opL, ruL, hpL, rsL, natL, outL, Nat.add_sub_cancel_left, Nat.mul_one, List.length_cons, List.length_nil, Nat.zero_add, Nat.add_zero, Nat.reduceAdd, Nat.reduceMul, Nat.reduceSub, Nat.reduceEqDiff, Nat.reduceLT, Nat.reduceLeDiff, litd_t, litd_f, decide_true, decide_false, Bool.not_true, Bool.not_false, not_true_eq_false, not_false_eq_true, true_and, and_true, false_and, and_false, true_or, or_true, false_or, or_false, Int.toNat_natCast, cond_true, cond_false, List.map_cons, List.map_nil, Option.map_some, Option.map_none, datL, encTr, node_is, wkL, hk, g2, g6]
    refine FinM_c (.inr rfl) rfl ?_ rfl
    simp -failIfUnchanged (disch := first | assumption | omega | (refine room_i _ _ ?_ ?_ <;> omega) | (refine @_root_.id _ ?_; with_unfolding_all exact Eq.refl _) | (simp only [List.length_take, List.length_drop, List.length_append, List.length_cons, List.length_nil, List.length_replicate, List.length_map] <;> omega) | fail) only [rnL, opL, ruL, hpL, rsL, natL, outL, Nat.add_sub_cancel_left, Nat.mul_one, List.length_cons, List.length_nil, Nat.zero_add, Nat.add_zero, Nat.reduceAdd, Nat.reduceMul, Nat.reduceSub, Nat.reduceEqDiff, Nat.reduceLT, Nat.reduceLeDiff, litd_t, litd_f, decide_true, decide_false, Bool.not_true, Bool.not_false, not_true_eq_false, not_false_eq_true, true_and, and_true, false_and, and_false, true_or, or_true, false_or, or_false, Int.toNat_natCast, cond_true, cond_false, List.map_cons, List.map_nil, Option.map_some, Option.map_none, wkL]
  | false =>
    simp -failIfUnchanged (disch := first | assumption | omega | (refine room_i _ _ ?_ ?_ <;> omega) | (refine @_root_.id _ ?_; with_unfolding_all exact Eq.refl _) | (simp only [List.length_take, List.length_drop, List.length_append, List.length_cons, List.length_nil, List.length_replicate, List.length_map] <;> omega) | fail) only [rnL, opL, ruL, hpL, rsL, natL, outL, Nat.add_sub_cancel_left, Nat.mul_one, List.length_cons, List.length_nil, Nat.zero_add, Nat.add_zero, Nat.reduceAdd, Nat.reduceMul, Nat.reduceSub, Nat.reduceEqDiff, Nat.reduceLT, Nat.reduceLeDiff, litd_t, litd_f, decide_true, decide_false, Bool.not_true, Bool.not_false, not_true_eq_false, not_false_eq_true, true_and, and_true, false_and, and_false, true_or, or_true, false_or, or_false, Int.toNat_natCast, cond_true, cond_false, List.map_cons, List.map_nil, Option.map_some, Option.map_none, datL, encTr, node_is, wkL, hk, g2, g6]
    refine FinM_c (.inr rfl) rfl ?_ rfl
    simp -failIfUnchanged (disch := first | assumption | omega | (refine room_i _ _ ?_ ?_ <;> omega) | (refine @_root_.id _ ?_; with_unfolding_all exact Eq.refl _) | (simp only [List.length_take, List.length_drop, List.length_append, List.length_cons, List.length_nil, List.length_replicate, List.length_map] <;> omega) | fail) only [rnL, opL, ruL, hpL, rsL, natL, outL, Nat.add_sub_cancel_left, Nat.mul_one, List.length_cons, List.length_nil, Nat.zero_add, Nat.add_zero, Nat.reduceAdd, Nat.reduceMul, Nat.reduceSub, Nat.reduceEqDiff, Nat.reduceLT, Nat.reduceLeDiff, litd_t, litd_f, decide_true, decide_false, Bool.not_true, Bool.not_false, not_true_eq_false, not_false_eq_true, true_and, and_true, false_and, and_false, true_or, or_true, false_or, or_false, Int.toNat_natCast, cond_true, cond_false, List.map_cons, List.map_nil, Option.map_some, Option.map_none, wkL]
end Go.AS.Th

namespace Go.AS.Th
open Go Go.AS Go.Proofs
set_option maxHeartbeats 2000000
set_option maxRecDepth 8000
theorem spliceAb (a : AV) (b : AV) : splice [a] 0 [b] = [b] := rfl
theorem merge {X Y : Prop} (f : X → Y) (x : X) : Y := f x
theorem Run_rangeK {funs : Nat → Option IFun} {Q : IX → Env → Stack → Prop} {cs : List Fr} {g : Opd} {ps : List Nat} {asg body : IC} {e : Env} {H : Heap} {S : Stack} {items : List (List AV)} (hfn : isFnF (g.ev e) = true) (hit : Iter funs (g.ev e) items)
    (hd : ∀ it ∈ items, mapO down it = some it) (Inv : ILoop → Nat → Stack → Prop) (h0 : ∀ L, Inv L 0 ((H ++ [.loop L]) :: S))
    (hstep : ∀ L, L.state = .ready → L.pending = none → L.env = e → L.params = ps → L.assign = asg → L.body = body → ∀ i (hi : i < items.length) s, Inv L i s →
      (∃ s', Rets funs (.func (.yield H.length) [] []) items[i] s (.bool true) s' ∧ Inv L (i + 1) s') ∨ ∃ s', Rets funs (.func (.yield H.length) [] []) items[i] s (.bool false) s' ∧ AfterR funs Q cs e H.length s')
    (hend : ∀ L, L.state = .ready → L.pending = none → ∀ s, Inv L items.length s → AfterR funs Q cs e H.length s) : Run funs Q (.c (.rangeF g ps asg body) :: cs) .normal e (H :: S) :=
  Run_rangeI hfn hit hd (Inv ⟨.ready, none, e, ps, asg, body⟩) (h0 _) (hstep _ rfl rfl rfl rfl rfl rfl) (hend _ rfl rfl)
theorem hatE (a b c d e f : AObj) (E L : Heap) (k : Nat) : hat (a :: b :: c :: d :: e :: f :: (E ++ L)) (E.length + (k + 6)) = hat L k := by
  have h1 : E.length + (k + 6) = (E.length + k) + 1 + 1 + 1 + 1 + 1 + 1 := by omega
  rw [h1]
  show hat (E ++ L) (E.length + k) = _
  induction E with
  | nil => simp
  | cons x E ih =>
    have e : (x :: E).length + k = (E.length + k) + 1 := by simp; omega
    rw [e]
    exact ih (by omega)
theorem hsetE (a b c d e f : AObj) (E L : Heap) (k : Nat) (x : AObj) : hset (a :: b :: c :: d :: e :: f :: (E ++ L)) (E.length + (k + 6)) x = a :: b :: c :: d :: e :: f :: (E ++ hset L k x) := by
  have h1 : E.length + (k + 6) = (E.length + k) + 1 + 1 + 1 + 1 + 1 + 1 := by omega
  rw [h1]
  show a :: b :: c :: d :: e :: f :: hset (E ++ L) (E.length + k) x = _
  have : hset (E ++ L) (E.length + k) x = E ++ hset L k x := by
    clear h1
    induction E with
    | nil => simp
    | cons y E ih =>
      have e : (y :: E).length + k = (E.length + k) + 1 := by simp; omega
      rw [e]
      show y :: hset (E ++ L) (E.length + k) x = _
      rw [ih]; rfl
  rw [this]
theorem splice2 (a b : AV) (x : List AV) (h : x.length = 2) : splice [a, b] 0 x = x := by simp [splice, h]
theorem ab_snoc (ab : List Int) (n : Int) : aboveV (ab ++ [n]) = sl false (ab ++ [n]) := if_neg (by simp)
/-- A node's kids. -/
theorem walk_inner (T : Tr) (o0 : AObj) (f : AV) (n : Int) (r : Rng) (ab : List Int) (s : Ks) (G : Heap) (S S2 : Stack) (J : Nat → Ks → Stack → Prop) (Z : Ks → Bool → Stack → Prop) (hb : ¬ badAt T n r ab s) (hk : (nodeAt T n).kind = 2) (hn : (nodeAt T n).pivots.l.length ≤ 1000 ∧ (nodeAt T n).kids.l.length ≤ 1000) (hab : ab.length ≤ 1000)
    (hdo : ∀ Hc, Rets F f (visit ⟨n, r, ab⟩) (Hc :: S) (.bool true) (Hc :: S2)) (h0 : J 0 (add s n) S2)
    (hkid : ∀ i (hi : i < (nodeAt T n).kids.l.length) s1 S1 G1, J i s1 S1 →
      (∃ s' S' E, Rets F (.func (.func 78) [] []) [.ptr 2 4 0, .int .i64 (nodeAt T n).kids.l[i], .agg (Cel.enc (spanAt (nodeAt T n).pivots.l r i)), aboveV (ab ++ [n])] (hp T o0 f s1 false G1 :: S1) (.bool true) (hp T o0 f s' false (G1 ++ E) :: S') ∧ J (i + 1) s' S') ∨
      (∃ s' bad S' E, Rets F (.func (.func 78) [] []) [.ptr 2 4 0, .int .i64 (nodeAt T n).kids.l[i], .agg (Cel.enc (spanAt (nodeAt T n).pivots.l r i)), aboveV (ab ++ [n])] (hp T o0 f s1 false G1 :: S1) (.bool false) (hp T o0 f s' bad (G1 ++ E) :: S') ∧ Z s' bad S')) :
    ∃ v S', Rets F (.func (.func 78) [] []) [.ptr 2 4 0, .int .i64 n, .agg (Cel.enc r), aboveV ab] (hp T o0 f s false G :: S) v S' ∧
      ((∃ s' S3 E, v = .bool true ∧ S' = hp T o0 f s' false (G ++ E) :: S3 ∧ J (nodeAt T n).kids.l.length s' S3) ∨ ∃ s' bad S3 E, v = .bool false ∧ S' = hp T o0 f s' bad (G ++ E) :: S3 ∧ Z s' bad S3) := by
  obtain ⟨hn1, hn2⟩ := hn
  refine Rets.memX fn_tree_walker_walk rfl rfl ?_
  simp only [ir_tree_walker_walk, hp]
  have g2 : ¬ n ∈ s.1.map Prod.fst := fun h => hb (.inr (.inl h))
  have g3 : (nodeAt T n).kids.l.length = (nodeAt T n).pivots.l.length + 1 := Decidable.byContradiction fun h => hb (.inr (.inr (.inl ⟨hk, h⟩)))
  have g4 : ((nodeAt T n).kids.l.length : Int) = (nodeAt T n).pivots.l.length + 1 := by omega
  have g5 : rightP (nodeAt T n).pivots.l r := Decidable.byContradiction fun h => hb (.inr (.inr (.inr (.inl ⟨hk, h⟩))))
  have g7 : ¬ (nodeAt T n).kind = 1 := by rw [hk]; decide
  apply merge
  · intro rest
    by_cases h : ab = []
    · have g6 := eq_true h
      simp -failIfUnchanged (disch := first | assumption | omega | (refine room_i _ _ ?_ ?_ <;> omega) | (refine @_root_.id _ ?_; with_unfolding_all exact Eq.refl _) | (simp only [List.length_take, List.length_drop, List.length_append, List.length_cons, List.length_nil, List.length_replicate, List.length_map] <;> omega) | fail) only [rnL, opL, ruL, hpL, rsL, natL, outL, Nat.add_sub_cancel_left, Nat.mul_one, List.length_cons, List.length_nil, Nat.zero_add, Nat.add_zero, Nat.reduceAdd, Nat.reduceMul, Nat.reduceSub, Nat.reduceEqDiff, Nat.reduceLT, Nat.reduceLeDiff, litd_t, litd_f, decide_true, decide_false, Bool.not_true, Bool.not_false, not_true_eq_false, not_false_eq_true, true_and, and_true, false_and, and_false, true_or, or_true, false_or, or_false, Int.toNat_natCast, cond_true, cond_false, List.map_cons, List.map_nil, Option.map_some, Option.map_none, datL, encTr, node_is, wkL, hk, g2, g4, right_is, g5, g6]
      exact rest
    · have g6 := eq_false h
      simp -failIfUnchanged (disch := first | assumption | omega | (refine room_i _ _ ?_ ?_ <;> omega) | (refine @_root_.id _ ?_; with_unfolding_all exact Eq.refl _) | (simp only [List.length_take, List.length_drop, List.length_append, List.length_cons, List.length_nil, List.length_replicate, List.length_map] <;> omega) | fail) only [rnL, opL, ruL, hpL, rsL, natL, outL, Nat.add_sub_cancel_left, Nat.mul_one, List.length_cons, List.length_nil, Nat.zero_add, Nat.add_zero, Nat.reduceAdd, Nat.reduceMul, Nat.reduceSub, Nat.reduceEqDiff, Nat.reduceLT, Nat.reduceLeDiff, litd_t, litd_f, decide_true, decide_false, Bool.not_true, Bool.not_false, not_true_eq_false, not_false_eq_true, true_and, and_true, false_and, and_false, true_or, or_true, false_or, or_false, Int.toNat_natCast, cond_true, cond_false, List.map_cons, List.map_nil, Option.map_some, Option.map_none, datL, encTr, node_is, wkL, hk, g2, g4, right_is, g5, g6]
      exact rest
  refine RunC_r (hdo _) ?_
  simp -failIfUnchanged (disch := first | assumption | omega | (refine room_i _ _ ?_ ?_ <;> omega) | (refine @_root_.id _ ?_; with_unfolding_all exact Eq.refl _) | (simp only [List.length_take, List.length_drop, List.length_append, List.length_cons, List.length_nil, List.length_replicate, List.length_map] <;> omega) | fail) only [rnL, opL, ruL, hpL, rsL, natL, outL, Nat.add_sub_cancel_left, Nat.mul_one, List.length_cons, List.length_nil, Nat.zero_add, Nat.add_zero, Nat.reduceAdd, Nat.reduceMul, Nat.reduceSub, Nat.reduceEqDiff, Nat.reduceLT, Nat.reduceLeDiff, litd_t, litd_f, decide_true, decide_false, Bool.not_true, Bool.not_false, not_true_eq_false, not_false_eq_true, true_and, and_true, false_and, and_false, true_or, or_true, false_or, or_false, Int.toNat_natCast, cond_true, cond_false, List.map_cons, List.map_nil, Option.map_some, Option.map_none, datL, encTr, node_is, wkL, hk, g2, g4, right_is, g5, spliceAb, all_is]
  have e : spans (nodeAt T n).pivots.l r = (List.range ((nodeAt T n).pivots.l.length + 1)).map fun i => (i, spanAt (nodeAt T n).pivots.l r i) := if_pos g5
  have el : ((spans (nodeAt T n).pivots.l r).map itemOf).length = (nodeAt T n).kids.l.length := by rw [e, g3]; simp
  have ei : ∀ i (hi : i < ((spans (nodeAt T n).pivots.l r).map itemOf).length), ((spans (nodeAt T n).pivots.l r).map itemOf)[i] = [.int .i64 i, .agg (Cel.enc (spanAt (nodeAt T n).pivots.l r i))] := fun i hi => by simp [e, itemOf]
  refine Run_rangeK (items := (spans (nodeAt T n).pivots.l r).map itemOf) rfl (kids_iter _ _ _ hn1) ?_ (fun L i st => ∃ s1 S1 E, st = hp T o0 f s1 false (G ++ (wkE T n r (ab ++ [n]) false ++ .loop L :: E)) :: S1 ∧ J i s1 S1) ?_ ?_ ?_
  · intro it hit
    obtain ⟨i, hi, rfl⟩ := List.getElem_of_mem hit
    rw [ei]
    have h1 : down (.agg (Cel.enc (spanAt (nodeAt T n).pivots.l r i))) = some (.agg (Cel.enc (spanAt (nodeAt T n).pivots.l r i))) := by
      unfold down; rw [hfree_enc]; rfl
    have h2 : ∀ k m, down (.int k m) = some (.int k m) := fun _ _ => rfl
    simp only [mapO, h1, h2]
  · intro L
    refine ⟨add s n, S2, [], ?_, h0⟩
    simp only [hp, wkE, List.cons_append, List.nil_append, List.append_assoc, add, ab_snoc]
  · rintro L hLs hLn hLe hLp hLa hLb i hi st ⟨s1, S1, E, rfl, hJ⟩
    rw [ei]
    have hi2 : i < (nodeAt T n).kids.l.length := by omega
    have hLL : (⟨.ready, none, L.env, L.params, L.assign, L.body⟩ : ILoop) = L := by cases L; simp only at hLs hLn; subst hLs hLn; rfl
    rcases hkid i hi2 s1 S1 (G ++ (wkE T n r (ab ++ [n]) false ++ .loop { L with state := .busy } :: (E ++ [.cells (Cel.enc (spanAt (nodeAt T n).pivots.l r i))]))) hJ with ⟨s', S', E', hr, hJ'⟩ | ⟨s', bad, S', E', hr, hZ⟩
    · refine .inl ⟨hp T o0 f s' false (G ++ (wkE T n r (ab ++ [n]) false ++ .loop L :: (E ++ .cells (Cel.enc (spanAt (nodeAt T n).pivots.l r i)) :: E'))) :: S', Rets.yieldI (L := L) ?_ (by rw [hLp]; rfl) ?_, ⟨s', S', _, rfl, hJ'⟩⟩
      · simp only [hp, wkE]
        simp -failIfUnchanged (disch := first | assumption | omega | (refine room_i _ _ ?_ ?_ <;> omega) | (refine @_root_.id _ ?_; with_unfolding_all exact Eq.refl _) | (simp only [List.length_take, List.length_drop, List.length_append, List.length_cons, List.length_nil, List.length_replicate, List.length_map] <;> omega) | fail) only [rnL, opL, ruL, hpL, rsL, natL, outL, Nat.add_sub_cancel_left, Nat.mul_one, List.length_cons, List.length_nil, Nat.zero_add, Nat.add_zero, Nat.reduceAdd, Nat.reduceMul, Nat.reduceSub, Nat.reduceEqDiff, Nat.reduceLT, Nat.reduceLeDiff, litd_t, litd_f, decide_true, decide_false, Bool.not_true, Bool.not_false, not_true_eq_false, not_false_eq_true, true_and, and_true, false_and, and_false, true_or, or_true, false_or, or_false, Int.toNat_natCast, cond_true, cond_false, List.map_cons, List.map_nil, Option.map_some, Option.map_none, wkL]
      · rw [hLa, hLe, hLp, hLb]
        simp only [hp, wkE, Env.sets] at hr ⊢
        simp -failIfUnchanged (disch := first | assumption | omega | (refine room_i _ _ ?_ ?_ <;> omega) | (refine @_root_.id _ ?_; with_unfolding_all exact Eq.refl _) | (simp only [List.length_take, List.length_drop, List.length_append, List.length_cons, List.length_nil, List.length_replicate, List.length_map] <;> omega) | fail) only [rnL, opL, ruL, hpL, rsL, natL, outL, Nat.add_sub_cancel_left, Nat.mul_one, List.length_cons, List.length_nil, Nat.zero_add, Nat.add_zero, Nat.reduceAdd, Nat.reduceMul, Nat.reduceSub, Nat.reduceEqDiff, Nat.reduceLT, Nat.reduceLeDiff, litd_t, litd_f, decide_true, decide_false, Bool.not_true, Bool.not_false, not_true_eq_false, not_false_eq_true, true_and, and_true, false_and, and_false, true_or, or_true, false_or, or_false, Int.toNat_natCast, cond_true, cond_false, List.map_cons, List.map_nil, Option.map_some, Option.map_none, wkL, hatE, hsetE, splice2]
        simp only [lo1, lo3, lo5] at hr
        refine RndA_i (L1 := L) ?_ hLs ?_
        · simp -failIfUnchanged (disch := first | assumption | omega | (refine room_i _ _ ?_ ?_ <;> omega) | (refine @_root_.id _ ?_; with_unfolding_all exact Eq.refl _) | (simp only [List.length_take, List.length_drop, List.length_append, List.length_cons, List.length_nil, List.length_replicate, List.length_map] <;> omega) | fail) only [rnL, opL, ruL, hpL, rsL, natL, outL, Nat.add_sub_cancel_left, Nat.mul_one, List.length_cons, List.length_nil, Nat.zero_add, Nat.add_zero, Nat.reduceAdd, Nat.reduceMul, Nat.reduceSub, Nat.reduceEqDiff, Nat.reduceLT, Nat.reduceLeDiff, litd_t, litd_f, decide_true, decide_false, Bool.not_true, Bool.not_false, not_true_eq_false, not_false_eq_true, true_and, and_true, false_and, and_false, true_or, or_true, false_or, or_false, Int.toNat_natCast, cond_true, cond_false, List.map_cons, List.map_nil, Option.map_some, Option.map_none, wkL]
        simp -failIfUnchanged (disch := first | assumption | omega | (refine room_i _ _ ?_ ?_ <;> omega) | (refine @_root_.id _ ?_; with_unfolding_all exact Eq.refl _) | (simp only [List.length_take, List.length_drop, List.length_append, List.length_cons, List.length_nil, List.length_replicate, List.length_map] <;> omega) | fail) only [rnL, opL, ruL, hpL, rsL, natL, outL, Nat.add_sub_cancel_left, Nat.mul_one, List.length_cons, List.length_nil, Nat.zero_add, Nat.add_zero, Nat.reduceAdd, Nat.reduceMul, Nat.reduceSub, Nat.reduceEqDiff, Nat.reduceLT, Nat.reduceLeDiff, litd_t, litd_f, decide_true, decide_false, Bool.not_true, Bool.not_false, not_true_eq_false, not_false_eq_true, true_and, and_true, false_and, and_false, true_or, or_true, false_or, or_false, Int.toNat_natCast, cond_true, cond_false, List.map_cons, List.map_nil, Option.map_some, Option.map_none, datL, wkL, hatE, hsetE, splice2]
        refine RunC_r hr ?_
        simp -failIfUnchanged (disch := first | assumption | omega | (refine room_i _ _ ?_ ?_ <;> omega) | (refine @_root_.id _ ?_; with_unfolding_all exact Eq.refl _) | (simp only [List.length_take, List.length_drop, List.length_append, List.length_cons, List.length_nil, List.length_replicate, List.length_map] <;> omega) | fail) only [rnL, opL, ruL, hpL, rsL, natL, outL, Nat.add_sub_cancel_left, Nat.mul_one, List.length_cons, List.length_nil, Nat.zero_add, Nat.add_zero, Nat.reduceAdd, Nat.reduceMul, Nat.reduceSub, Nat.reduceEqDiff, Nat.reduceLT, Nat.reduceLeDiff, litd_t, litd_f, decide_true, decide_false, Bool.not_true, Bool.not_false, not_true_eq_false, not_false_eq_true, true_and, and_true, false_and, and_false, true_or, or_true, false_or, or_false, Int.toNat_natCast, cond_true, cond_false, List.map_cons, List.map_nil, Option.map_some, Option.map_none, wkL, hatE, hsetE]
        refine RndE_t (L2 := { L with state := .busy }) ?_ ?_
        · simp -failIfUnchanged (disch := first | assumption | omega | (refine room_i _ _ ?_ ?_ <;> omega) | (refine @_root_.id _ ?_; with_unfolding_all exact Eq.refl _) | (simp only [List.length_take, List.length_drop, List.length_append, List.length_cons, List.length_nil, List.length_replicate, List.length_map] <;> omega) | fail) only [rnL, opL, ruL, hpL, rsL, natL, outL, Nat.add_sub_cancel_left, Nat.mul_one, List.length_cons, List.length_nil, Nat.zero_add, Nat.add_zero, Nat.reduceAdd, Nat.reduceMul, Nat.reduceSub, Nat.reduceEqDiff, Nat.reduceLT, Nat.reduceLeDiff, litd_t, litd_f, decide_true, decide_false, Bool.not_true, Bool.not_false, not_true_eq_false, not_false_eq_true, true_and, and_true, false_and, and_false, true_or, or_true, false_or, or_false, Int.toNat_natCast, cond_true, cond_false, List.map_cons, List.map_nil, Option.map_some, Option.map_none, wkL]
        · simp -failIfUnchanged (disch := first | assumption | omega | (refine room_i _ _ ?_ ?_ <;> omega) | (refine @_root_.id _ ?_; with_unfolding_all exact Eq.refl _) | (simp only [List.length_take, List.length_drop, List.length_append, List.length_cons, List.length_nil, List.length_replicate, List.length_map] <;> omega) | fail) only [rnL, opL, ruL, hpL, rsL, natL, outL, Nat.add_sub_cancel_left, Nat.mul_one, List.length_cons, List.length_nil, Nat.zero_add, Nat.add_zero, Nat.reduceAdd, Nat.reduceMul, Nat.reduceSub, Nat.reduceEqDiff, Nat.reduceLT, Nat.reduceLeDiff, litd_t, litd_f, decide_true, decide_false, Bool.not_true, Bool.not_false, not_true_eq_false, not_false_eq_true, true_and, and_true, false_and, and_false, true_or, or_true, false_or, or_false, Int.toNat_natCast, cond_true, cond_false, List.map_cons, List.map_nil, Option.map_some, Option.map_none, wkL]
          rw [hLL]
    · refine .inr ⟨hp T o0 f s' bad (G ++ (wkE T n r (ab ++ [n]) false ++ .loop { L with state := .done, pending := some .ret } :: (E ++ .cells (Cel.enc (spanAt (nodeAt T n).pivots.l r i)) :: E'))) :: S', Rets.yieldI (L := L) ?_ (by rw [hLp]; rfl) ?_, ?_⟩
      · simp only [hp, wkE]
        simp -failIfUnchanged (disch := first | assumption | omega | (refine room_i _ _ ?_ ?_ <;> omega) | (refine @_root_.id _ ?_; with_unfolding_all exact Eq.refl _) | (simp only [List.length_take, List.length_drop, List.length_append, List.length_cons, List.length_nil, List.length_replicate, List.length_map] <;> omega) | fail) only [rnL, opL, ruL, hpL, rsL, natL, outL, Nat.add_sub_cancel_left, Nat.mul_one, List.length_cons, List.length_nil, Nat.zero_add, Nat.add_zero, Nat.reduceAdd, Nat.reduceMul, Nat.reduceSub, Nat.reduceEqDiff, Nat.reduceLT, Nat.reduceLeDiff, litd_t, litd_f, decide_true, decide_false, Bool.not_true, Bool.not_false, not_true_eq_false, not_false_eq_true, true_and, and_true, false_and, and_false, true_or, or_true, false_or, or_false, Int.toNat_natCast, cond_true, cond_false, List.map_cons, List.map_nil, Option.map_some, Option.map_none, wkL]
      · rw [hLa, hLe, hLp, hLb]
        simp only [hp, wkE, Env.sets] at hr ⊢
        simp -failIfUnchanged (disch := first | assumption | omega | (refine room_i _ _ ?_ ?_ <;> omega) | (refine @_root_.id _ ?_; with_unfolding_all exact Eq.refl _) | (simp only [List.length_take, List.length_drop, List.length_append, List.length_cons, List.length_nil, List.length_replicate, List.length_map] <;> omega) | fail) only [rnL, opL, ruL, hpL, rsL, natL, outL, Nat.add_sub_cancel_left, Nat.mul_one, List.length_cons, List.length_nil, Nat.zero_add, Nat.add_zero, Nat.reduceAdd, Nat.reduceMul, Nat.reduceSub, Nat.reduceEqDiff, Nat.reduceLT, Nat.reduceLeDiff, litd_t, litd_f, decide_true, decide_false, Bool.not_true, Bool.not_false, not_true_eq_false, not_false_eq_true, true_and, and_true, false_and, and_false, true_or, or_true, false_or, or_false, Int.toNat_natCast, cond_true, cond_false, List.map_cons, List.map_nil, Option.map_some, Option.map_none, wkL, hatE, hsetE, splice2]
        simp only [lo1, lo3, lo5] at hr
        refine RndA_i (L1 := L) ?_ hLs ?_
        · simp -failIfUnchanged (disch := first | assumption | omega | (refine room_i _ _ ?_ ?_ <;> omega) | (refine @_root_.id _ ?_; with_unfolding_all exact Eq.refl _) | (simp only [List.length_take, List.length_drop, List.length_append, List.length_cons, List.length_nil, List.length_replicate, List.length_map] <;> omega) | fail) only [rnL, opL, ruL, hpL, rsL, natL, outL, Nat.add_sub_cancel_left, Nat.mul_one, List.length_cons, List.length_nil, Nat.zero_add, Nat.add_zero, Nat.reduceAdd, Nat.reduceMul, Nat.reduceSub, Nat.reduceEqDiff, Nat.reduceLT, Nat.reduceLeDiff, litd_t, litd_f, decide_true, decide_false, Bool.not_true, Bool.not_false, not_true_eq_false, not_false_eq_true, true_and, and_true, false_and, and_false, true_or, or_true, false_or, or_false, Int.toNat_natCast, cond_true, cond_false, List.map_cons, List.map_nil, Option.map_some, Option.map_none, wkL]
        simp -failIfUnchanged (disch := first | assumption | omega | (refine room_i _ _ ?_ ?_ <;> omega) | (refine @_root_.id _ ?_; with_unfolding_all exact Eq.refl _) | (simp only [List.length_take, List.length_drop, List.length_append, List.length_cons, List.length_nil, List.length_replicate, List.length_map] <;> omega) | fail) only [rnL, opL, ruL, hpL, rsL, natL, outL, Nat.add_sub_cancel_left, Nat.mul_one, List.length_cons, List.length_nil, Nat.zero_add, Nat.add_zero, Nat.reduceAdd, Nat.reduceMul, Nat.reduceSub, Nat.reduceEqDiff, Nat.reduceLT, Nat.reduceLeDiff, litd_t, litd_f, decide_true, decide_false, Bool.not_true, Bool.not_false, not_true_eq_false, not_false_eq_true, true_and, and_true, false_and, and_false, true_or, or_true, false_or, or_false, Int.toNat_natCast, cond_true, cond_false, List.map_cons, List.map_nil, Option.map_some, Option.map_none, datL, wkL, hatE, hsetE, splice2]
        refine RunC_r hr ?_
        simp -failIfUnchanged (disch := first | assumption | omega | (refine room_i _ _ ?_ ?_ <;> omega) | (refine @_root_.id _ ?_; with_unfolding_all exact Eq.refl _) | (simp only [List.length_take, List.length_drop, List.length_append, List.length_cons, List.length_nil, List.length_replicate, List.length_map] <;> omega) | fail) only [rnL, opL, ruL, hpL, rsL, natL, outL, Nat.add_sub_cancel_left, Nat.mul_one, List.length_cons, List.length_nil, Nat.zero_add, Nat.add_zero, Nat.reduceAdd, Nat.reduceMul, Nat.reduceSub, Nat.reduceEqDiff, Nat.reduceLT, Nat.reduceLeDiff, litd_t, litd_f, decide_true, decide_false, Bool.not_true, Bool.not_false, not_true_eq_false, not_false_eq_true, true_and, and_true, false_and, and_false, true_or, or_true, false_or, or_false, Int.toNat_natCast, cond_true, cond_false, List.map_cons, List.map_nil, Option.map_some, Option.map_none, wkL, hatE, hsetE]
        refine RndE_ret (L2 := { L with state := .busy }) ?_ ?_
        · simp -failIfUnchanged (disch := first | assumption | omega | (refine room_i _ _ ?_ ?_ <;> omega) | (refine @_root_.id _ ?_; with_unfolding_all exact Eq.refl _) | (simp only [List.length_take, List.length_drop, List.length_append, List.length_cons, List.length_nil, List.length_replicate, List.length_map] <;> omega) | fail) only [rnL, opL, ruL, hpL, rsL, natL, outL, Nat.add_sub_cancel_left, Nat.mul_one, List.length_cons, List.length_nil, Nat.zero_add, Nat.add_zero, Nat.reduceAdd, Nat.reduceMul, Nat.reduceSub, Nat.reduceEqDiff, Nat.reduceLT, Nat.reduceLeDiff, litd_t, litd_f, decide_true, decide_false, Bool.not_true, Bool.not_false, not_true_eq_false, not_false_eq_true, true_and, and_true, false_and, and_false, true_or, or_true, false_or, or_false, Int.toNat_natCast, cond_true, cond_false, List.map_cons, List.map_nil, Option.map_some, Option.map_none, wkL]
        · simp -failIfUnchanged (disch := first | assumption | omega | (refine room_i _ _ ?_ ?_ <;> omega) | (refine @_root_.id _ ?_; with_unfolding_all exact Eq.refl _) | (simp only [List.length_take, List.length_drop, List.length_append, List.length_cons, List.length_nil, List.length_replicate, List.length_map] <;> omega) | fail) only [rnL, opL, ruL, hpL, rsL, natL, outL, Nat.add_sub_cancel_left, Nat.mul_one, List.length_cons, List.length_nil, Nat.zero_add, Nat.add_zero, Nat.reduceAdd, Nat.reduceMul, Nat.reduceSub, Nat.reduceEqDiff, Nat.reduceLT, Nat.reduceLeDiff, litd_t, litd_f, decide_true, decide_false, Bool.not_true, Bool.not_false, not_true_eq_false, not_false_eq_true, true_and, and_true, false_and, and_false, true_or, or_true, false_or, or_false, Int.toNat_natCast, cond_true, cond_false, List.map_cons, List.map_nil, Option.map_some, Option.map_none, wkL]
          rw [hLa, hLe, hLp, hLb]
      · refine AfterR_i (L := { L with state := .done, pending := some .ret }) ?_ (by intro h; cases h) ?_
        · simp only [hp, wkE]
          simp -failIfUnchanged (disch := first | assumption | omega | (refine room_i _ _ ?_ ?_ <;> omega) | (refine @_root_.id _ ?_; with_unfolding_all exact Eq.refl _) | (simp only [List.length_take, List.length_drop, List.length_append, List.length_cons, List.length_nil, List.length_replicate, List.length_map] <;> omega) | fail) only [rnL, opL, ruL, hpL, rsL, natL, outL, Nat.add_sub_cancel_left, Nat.mul_one, List.length_cons, List.length_nil, Nat.zero_add, Nat.add_zero, Nat.reduceAdd, Nat.reduceMul, Nat.reduceSub, Nat.reduceEqDiff, Nat.reduceLT, Nat.reduceLeDiff, litd_t, litd_f, decide_true, decide_false, Bool.not_true, Bool.not_false, not_true_eq_false, not_false_eq_true, true_and, and_true, false_and, and_false, true_or, or_true, false_or, or_false, Int.toNat_natCast, cond_true, cond_false, List.map_cons, List.map_nil, Option.map_some, Option.map_none, wkL]
        · simp only [hp, wkE, Option.getD]
          simp -failIfUnchanged (disch := first | assumption | omega | (refine room_i _ _ ?_ ?_ <;> omega) | (refine @_root_.id _ ?_; with_unfolding_all exact Eq.refl _) | (simp only [List.length_take, List.length_drop, List.length_append, List.length_cons, List.length_nil, List.length_replicate, List.length_map] <;> omega) | fail) only [rnL, opL, ruL, hpL, rsL, natL, outL, Nat.add_sub_cancel_left, Nat.mul_one, List.length_cons, List.length_nil, Nat.zero_add, Nat.add_zero, Nat.reduceAdd, Nat.reduceMul, Nat.reduceSub, Nat.reduceEqDiff, Nat.reduceLT, Nat.reduceLeDiff, litd_t, litd_f, decide_true, decide_false, Bool.not_true, Bool.not_false, not_true_eq_false, not_false_eq_true, true_and, and_true, false_and, and_false, true_or, or_true, false_or, or_false, Int.toNat_natCast, cond_true, cond_false, List.map_cons, List.map_nil, Option.map_some, Option.map_none, wkL]
          refine FinX_c (.inr rfl) rfl (v := .bool false) ?_ ?_
          · simp -failIfUnchanged (disch := first | assumption | omega | (refine room_i _ _ ?_ ?_ <;> omega) | (refine @_root_.id _ ?_; with_unfolding_all exact Eq.refl _) | (simp only [List.length_take, List.length_drop, List.length_append, List.length_cons, List.length_nil, List.length_replicate, List.length_map] <;> omega) | fail) only [rnL, opL, ruL, hpL, rsL, natL, outL, Nat.add_sub_cancel_left, Nat.mul_one, List.length_cons, List.length_nil, Nat.zero_add, Nat.add_zero, Nat.reduceAdd, Nat.reduceMul, Nat.reduceSub, Nat.reduceEqDiff, Nat.reduceLT, Nat.reduceLeDiff, litd_t, litd_f, decide_true, decide_false, Bool.not_true, Bool.not_false, not_true_eq_false, not_false_eq_true, true_and, and_true, false_and, and_false, true_or, or_true, false_or, or_false, Int.toNat_natCast, cond_true, cond_false, List.map_cons, List.map_nil, Option.map_some, Option.map_none, wkL]
          · exact .inr ⟨s', bad, S', _, rfl, rfl, hZ⟩
  · rintro L hLs hLn st ⟨s1, S1, E, rfl, hJ⟩
    refine AfterR_i (L := L) ?_ (by rw [hLs]; intro h; cases h) ?_
    · simp only [hp, wkE]
      simp -failIfUnchanged (disch := first | assumption | omega | (refine room_i _ _ ?_ ?_ <;> omega) | (refine @_root_.id _ ?_; with_unfolding_all exact Eq.refl _) | (simp only [List.length_take, List.length_drop, List.length_append, List.length_cons, List.length_nil, List.length_replicate, List.length_map] <;> omega) | fail) only [rnL, opL, ruL, hpL, rsL, natL, outL, Nat.add_sub_cancel_left, Nat.mul_one, List.length_cons, List.length_nil, Nat.zero_add, Nat.add_zero, Nat.reduceAdd, Nat.reduceMul, Nat.reduceSub, Nat.reduceEqDiff, Nat.reduceLT, Nat.reduceLeDiff, litd_t, litd_f, decide_true, decide_false, Bool.not_true, Bool.not_false, not_true_eq_false, not_false_eq_true, true_and, and_true, false_and, and_false, true_or, or_true, false_or, or_false, Int.toNat_natCast, cond_true, cond_false, List.map_cons, List.map_nil, Option.map_some, Option.map_none, wkL]
    · rw [hLn]
      simp only [hp, wkE, Option.getD]
      simp -failIfUnchanged (disch := first | assumption | omega | (refine room_i _ _ ?_ ?_ <;> omega) | (refine @_root_.id _ ?_; with_unfolding_all exact Eq.refl _) | (simp only [List.length_take, List.length_drop, List.length_append, List.length_cons, List.length_nil, List.length_replicate, List.length_map] <;> omega) | fail) only [rnL, opL, ruL, hpL, rsL, natL, outL, Nat.add_sub_cancel_left, Nat.mul_one, List.length_cons, List.length_nil, Nat.zero_add, Nat.add_zero, Nat.reduceAdd, Nat.reduceMul, Nat.reduceSub, Nat.reduceEqDiff, Nat.reduceLT, Nat.reduceLeDiff, litd_t, litd_f, decide_true, decide_false, Bool.not_true, Bool.not_false, not_true_eq_false, not_false_eq_true, true_and, and_true, false_and, and_false, true_or, or_true, false_or, or_false, Int.toNat_natCast, cond_true, cond_false, List.map_cons, List.map_nil, Option.map_some, Option.map_none, wkL]
      refine FinX_c (.inr rfl) rfl (v := .bool true) ?_ ?_
      · simp -failIfUnchanged (disch := first | assumption | omega | (refine room_i _ _ ?_ ?_ <;> omega) | (refine @_root_.id _ ?_; with_unfolding_all exact Eq.refl _) | (simp only [List.length_take, List.length_drop, List.length_append, List.length_cons, List.length_nil, List.length_replicate, List.length_map] <;> omega) | fail) only [rnL, opL, ruL, hpL, rsL, natL, outL, Nat.add_sub_cancel_left, Nat.mul_one, List.length_cons, List.length_nil, Nat.zero_add, Nat.add_zero, Nat.reduceAdd, Nat.reduceMul, Nat.reduceSub, Nat.reduceEqDiff, Nat.reduceLT, Nat.reduceLeDiff, litd_t, litd_f, decide_true, decide_false, Bool.not_true, Bool.not_false, not_true_eq_false, not_false_eq_true, true_and, and_true, false_and, and_false, true_or, or_true, false_or, or_false, Int.toNat_natCast, cond_true, cond_false, List.map_cons, List.map_nil, Option.map_some, Option.map_none, wkL]
      · rw [el] at hJ
        exact .inl ⟨s1, S1, _, rfl, rfl, hJ⟩
end Go.AS.Th

namespace Go.AS.Th
open Go Go.AS Go.Proofs
set_option maxHeartbeats 1000000

theorem nodeAt_range {T : Tr} {n : Int} (h : (nodeAt T n).kind = 1 ∨ (nodeAt T n).kind = 2) : 1 ≤ n ∧ n.toNat < T.nodes.l.length := by
  unfold nodeAt at h
  by_cases h1 : 1 ≤ n
  · refine ⟨h1, ?_⟩
    by_cases h2 : n.toNat < T.nodes.l.length
    · exact h2
    · rw [if_pos h1, List.getElem?_eq_none (by omega)] at h
      rcases h with h | h <;> exact absurd h (by decide)
  · rw [if_neg h1] at h
    rcases h with h | h <;> exact absurd h (by decide)
theorem add_mem {s : Ks} {n x : Int} : x ∈ (add s n).1.map Prod.fst ↔ x ∈ s.1.map Prod.fst ∨ x = n := by
  unfold add addK
  by_cases h : n ∈ s.1.map Prod.fst
  · rw [if_pos h]
    constructor
    · exact .inl
    · rintro (h1 | rfl)
      · exact h1
      · exact h
  · rw [if_neg h]; simp
theorem unseen_le {T : Tr} {s s' : Ks} (h : ∀ x, x ∈ s.1.map Prod.fst → x ∈ s'.1.map Prod.fst) : unseen T s' ≤ unseen T s := by
  unfold unseen
  generalize List.range T.nodes.l.length = l
  induction l with
  | nil => simp
  | cons a l ih =>
    simp only [List.filter_cons]
    by_cases h1 : Int.ofNat a ∈ s'.1.map Prod.fst
    · by_cases h2 : Int.ofNat a ∈ s.1.map Prod.fst
      · simpa only [h1, h2, not_true_eq_false, decide_false, Bool.false_eq_true, if_false] using ih
      · simp only [h1, h2, not_true_eq_false, not_false_eq_true, decide_true, decide_false, if_true]
        simp only [List.length_cons]
        exact Nat.le_succ_of_le ih
    · have h2 : Int.ofNat a ∉ s.1.map Prod.fst := fun h2 => h1 (h _ h2)
      simp only [h1, h2, not_false_eq_true, decide_true, if_true, List.length_cons]
      exact Nat.succ_le_succ ih
theorem unseen_add {T : Tr} {s : Ks} {n : Int} (h1 : 1 ≤ n) (h2 : n.toNat < T.nodes.l.length) (h3 : n ∉ s.1.map Prod.fst) : unseen T (add s n) < unseen T s := by
  have h4 : n.toNat ∈ List.range T.nodes.l.length := List.mem_range.mpr h2
  obtain ⟨a, b, hab⟩ := List.append_of_mem h4
  have e : Int.ofNat n.toNat = n := by simp; omega
  have key : ∀ l : List Nat, (l.filter fun (i : Nat) => decide (Int.ofNat i ∉ (add s n).1.map Prod.fst)).length ≤ (l.filter fun (i : Nat) => decide (Int.ofNat i ∉ s.1.map Prod.fst)).length := by
    intro l
    induction l with
    | nil => simp
    | cons x l ih =>
      simp only [List.filter_cons]
      by_cases g1 : Int.ofNat x ∈ s.1.map Prod.fst
      · have g2 : Int.ofNat x ∈ (add s n).1.map Prod.fst := add_mem.mpr (.inl g1)
        simpa only [g1, g2, not_true_eq_false, decide_false, Bool.false_eq_true, if_false] using ih
      · by_cases g2 : Int.ofNat x ∈ (add s n).1.map Prod.fst
        · simp only [g1, g2, not_true_eq_false, not_false_eq_true, decide_true, decide_false, if_true, Bool.false_eq_true, if_false, List.length_cons]
          omega
        · simp only [g1, g2, not_false_eq_true, decide_true, if_true, List.length_cons]
          omega
  unfold unseen
  rw [hab]
  simp only [List.filter_append, List.filter_cons, e, List.length_append]
  have g2 : n ∈ (add s n).1.map Prod.fst := add_mem.mpr (.inr rfl)
  simp only [h3, g2, not_true_eq_false, not_false_eq_true, decide_true, decide_false, if_true, Bool.false_eq_true, if_false, List.length_cons]
  have := key a
  have := key b
  omega
theorem kidsL_mono (f : Int → Rng → Ks → List V × Ks × Bool) (hf : ∀ n r s x, x ∈ s.1.map Prod.fst → x ∈ (f n r s).2.1.1.map Prod.fst) (kids : List Int) : ∀ (l : List (Nat × Rng)) (s : Ks) x, x ∈ s.1.map Prod.fst → x ∈ (kidsL f kids l s).2.1.1.map Prod.fst
  | [], s, x, h => h
  | (i, sp) :: rest, s, x, h => by
    unfold kidsL
    split
    · exact kidsL_mono f hf kids rest _ x (hf _ _ _ x h)
    · exact hf _ _ _ x h
theorem dfs_mono (T : Tr) : ∀ (k : Nat) (n : Int) (r : Rng) (ab : List Int) (s : Ks) x, x ∈ s.1.map Prod.fst → x ∈ (dfs T k n r ab s).2.1.1.map Prod.fst
  | 0, _, _, _, _, _, h => h
  | k + 1, n, r, ab, s, x, h => by
    unfold dfs
    split
    · exact h
    · split
      · exact add_mem.mpr (.inl h)
      · exact kidsL_mono _ (fun n' r' s' x h => dfs_mono T k n' r' (ab ++ [n]) s' x h) _ _ _ x (add_mem.mpr (.inl h))
end Go.AS.Th

namespace Go.AS.Th
open Go Go.AS Go.Proofs
set_option maxHeartbeats 1000000

set_option maxRecDepth 8000 in
/-- A node with kids, where nobody goes on. -/
theorem walk_stop (T : Tr) (o0 : AObj) (f : AV) (n : Int) (r : Rng) (ab : List Int) (s : Ks) (G : Heap) (S S2 : Stack) (hb : ¬ badAt T n r ab s) (hk : (nodeAt T n).kind = 2) (hn : (nodeAt T n).pivots.l.length ≤ 1000 ∧ (nodeAt T n).kids.l.length ≤ 1000) (hab : ab.length ≤ 1000)
    (hdo : ∀ Hc, Rets F f (visit ⟨n, r, ab⟩) (Hc :: S) (.bool false) (Hc :: S2)) :
    Rets F (.func (.func 78) [] []) [.ptr 2 4 0, .int .i64 n, .agg (Cel.enc r), aboveV ab] (hp T o0 f s false G :: S) (.bool false) (hp T o0 f (add s n) false (G ++ wkE T n r ab false) :: S2) := by
  obtain ⟨hn1, hn2⟩ := hn
  refine Rets.mem fn_tree_walker_walk rfl rfl ?_
  simp only [ir_tree_walker_walk, hp]
  have g2 : ¬ n ∈ s.1.map Prod.fst := fun h => hb (.inr (.inl h))
  have g3 : (nodeAt T n).kids.l.length = (nodeAt T n).pivots.l.length + 1 := Decidable.byContradiction fun h => hb (.inr (.inr (.inl ⟨hk, h⟩)))
  have g4 : ((nodeAt T n).kids.l.length : Int) = (nodeAt T n).pivots.l.length + 1 := by omega
  have g5 : rightP (nodeAt T n).pivots.l r := Decidable.byContradiction fun h => hb (.inr (.inr (.inr (.inl ⟨hk, h⟩))))
  apply merge
  · intro rest
    by_cases h : ab = []
    · have g6 := eq_true h
      simp -failIfUnchanged (disch := first | assumption | omega | (refine room_i _ _ ?_ ?_ <;> omega) | (refine @_root_.id _ ?_; with_unfolding_all exact Eq.refl _) | (simp only [List.length_take, List.length_drop, List.length_append, List.length_cons, List.length_nil, List.length_replicate, List.length_map] <;> omega) | fail) only [rnL, opL, ruL, hpL, rsL, natL, outL, Nat.add_sub_cancel_left, Nat.mul_one, List.length_cons, List.length_nil, Nat.zero_add, Nat.add_zero, Nat.reduceAdd, Nat.reduceMul, Nat.reduceSub, Nat.reduceEqDiff, Nat.reduceLT, Nat.reduceLeDiff, litd_t, litd_f, decide_true, decide_false, Bool.not_true, Bool.not_false, not_true_eq_false, not_false_eq_true, true_and, and_true, false_and, and_false, true_or, or_true, false_or, or_false, Int.toNat_natCast, cond_true, cond_false, List.map_cons, List.map_nil, Option.map_some, Option.map_none, datL, encTr, node_is, wkL, hk, g2, g4, right_is, g5, g6]
      exact rest
    · have g6 := eq_false h
      simp -failIfUnchanged (disch := first | assumption | omega | (refine room_i _ _ ?_ ?_ <;> omega) | (refine @_root_.id _ ?_; with_unfolding_all exact Eq.refl _) | (simp only [List.length_take, List.length_drop, List.length_append, List.length_cons, List.length_nil, List.length_replicate, List.length_map] <;> omega) | fail) only [rnL, opL, ruL, hpL, rsL, natL, outL, Nat.add_sub_cancel_left, Nat.mul_one, List.length_cons, List.length_nil, Nat.zero_add, Nat.add_zero, Nat.reduceAdd, Nat.reduceMul, Nat.reduceSub, Nat.reduceEqDiff, Nat.reduceLT, Nat.reduceLeDiff, litd_t, litd_f, decide_true, decide_false, Bool.not_true, Bool.not_false, not_true_eq_false, not_false_eq_true, true_and, and_true, false_and, and_false, true_or, or_true, false_or, or_false, Int.toNat_natCast, cond_true, cond_false, List.map_cons, List.map_nil, Option.map_some, Option.map_none, datL, encTr, node_is, wkL, hk, g2, g4, right_is, g5, g6]
      exact rest
  refine RunC_r (hdo _) ?_
  simp -failIfUnchanged (disch := first | assumption | omega | (refine room_i _ _ ?_ ?_ <;> omega) | (refine @_root_.id _ ?_; with_unfolding_all exact Eq.refl _) | (simp only [List.length_take, List.length_drop, List.length_append, List.length_cons, List.length_nil, List.length_replicate, List.length_map] <;> omega) | fail) only [rnL, opL, ruL, hpL, rsL, natL, outL, Nat.add_sub_cancel_left, Nat.mul_one, List.length_cons, List.length_nil, Nat.zero_add, Nat.add_zero, Nat.reduceAdd, Nat.reduceMul, Nat.reduceSub, Nat.reduceEqDiff, Nat.reduceLT, Nat.reduceLeDiff, litd_t, litd_f, decide_true, decide_false, Bool.not_true, Bool.not_false, not_true_eq_false, not_false_eq_true, true_and, and_true, false_and, and_false, true_or, or_true, false_or, or_false, Int.toNat_natCast, cond_true, cond_false, List.map_cons, List.map_nil, Option.map_some, Option.map_none, datL, encTr, node_is, wkL, hk, g2, g4, right_is, g5]
  refine FinM_c (.inr rfl) rfl ?_ rfl
  simp -failIfUnchanged (disch := first | assumption | omega | (refine room_i _ _ ?_ ?_ <;> omega) | (refine @_root_.id _ ?_; with_unfolding_all exact Eq.refl _) | (simp only [List.length_take, List.length_drop, List.length_append, List.length_cons, List.length_nil, List.length_replicate, List.length_map] <;> omega) | fail) only [rnL, opL, ruL, hpL, rsL, natL, outL, Nat.add_sub_cancel_left, Nat.mul_one, List.length_cons, List.length_nil, Nat.zero_add, Nat.add_zero, Nat.reduceAdd, Nat.reduceMul, Nat.reduceSub, Nat.reduceEqDiff, Nat.reduceLT, Nat.reduceLeDiff, litd_t, litd_f, decide_true, decide_false, Bool.not_true, Bool.not_false, not_true_eq_false, not_false_eq_true, true_and, and_true, false_and, and_false, true_or, or_true, false_or, or_false, Int.toNat_natCast, cond_true, cond_false, List.map_cons, List.map_nil, Option.map_some, Option.map_none, wkL]
/-- What a walk comes to. -/
def WalkR (T : Tr) (o0 : AObj) (f : AV) (σ : Nat → Stack) (m : Nat) (stop : Bool) (D : List V × Ks × Bool) (G : Heap) (j : Nat) (v : AV) (S' : Stack) : Prop :=
  (∃ E, v = .bool D.2.2 ∧ S' = hp T o0 f D.2.1 (!D.2.2) (G ++ E) :: σ (j + D.1.length) ∧ j + D.1.length ≤ m ∧ (stop = true → j + D.1.length < m)) ∨
  (∃ s' E, stop = true ∧ v = .bool false ∧ S' = hp T o0 f s' false (G ++ E) :: σ m ∧ m ≤ j + D.1.length)
theorem walk_is (T : Tr) (o0 : AObj) (f : AV) (hn : ∀ n, (nodeAt T n).pivots.l.length ≤ 1000 ∧ (nodeAt T n).kids.l.length ≤ 1000) {items : List (List AV)} {σ : Nat → Stack} {m : Nat} {stop : Bool} (hm : m ≤ items.length) (hns : stop = false → m = items.length)
    (hcb : ∀ Hc, Cb F f items (fun i => Hc :: σ i) m stop) : ∀ (k : Nat) (n : Int) (r : Rng) (ab : List Int) (s : Ks) (G : Heap) (j : Nat) (rest : List (List AV)), unseen T s < k → ab.length + k ≤ 1000 →
      items.drop j = (dfs T k n r ab s).1.map visit ++ rest → j ≤ m → (stop = true → j < m) →
      ∃ v S', Rets F (.func (.func 78) [] []) [.ptr 2 4 0, .int .i64 n, .agg (Cel.enc r), aboveV ab] (hp T o0 f s false G :: σ j) v S' ∧ WalkR T o0 f σ m stop (dfs T k n r ab s) G j v S' := by
  intro k
  induction k with
  | zero => intro n r ab s G j rest hu; omega
  | succ k ih =>
    intro n r ab s G j rest hu hab hit hj hst
    have hab1 : ab.length ≤ 1000 := by omega
    by_cases hb : badAt T n r ab s
    · have e : dfs T (k + 1) n r ab s = ([], s, false) := by rw [dfs, if_pos hb]
      rw [e]
      refine ⟨_, _, walk_bad T o0 f n r ab s G (σ j) hb (hn n) hab1, .inl ⟨_, rfl, rfl, hj, hst⟩⟩
    · have hcall : ∀ tl, items.drop j = visit ⟨n, r, ab⟩ :: tl → j < m ∧ j < items.length ∧ ∀ Hc, Rets F f (visit ⟨n, r, ab⟩) (Hc :: σ j) (.bool (!(stop && decide (j + 1 = m)))) (Hc :: σ (j + 1)) := by
        intro tl h
        have hl : j < items.length := by
          by_cases hl : j < items.length
          · exact hl
          · rw [List.drop_eq_nil_of_le (by omega)] at h; cases h
        have hjm : j < m := by
          cases hs : stop with
          | true => exact hst hs
          | false => rw [hns hs]; exact hl
        refine ⟨hjm, hl, fun Hc => ?_⟩
        have := hcb Hc j hjm hl
        rw [List.drop_eq_getElem_cons hl] at h
        rw [(List.cons.inj h).1] at this
        exact this
      have hkd : (nodeAt T n).kind = 1 ∨ (nodeAt T n).kind = 2 := Decidable.byContradiction fun h => hb (.inl h)
      have hns2 : n ∉ s.1.map Prod.fst := fun h => hb (.inr (.inl h))
      have hrange := nodeAt_range hkd
      have hlt := unseen_add hrange.1 hrange.2 hns2
      by_cases hk : (nodeAt T n).kind = 1
      · have e : dfs T (k + 1) n r ab s = ([⟨n, r, ab⟩], add s n, true) := by rw [dfs, if_neg hb, if_pos hk]
        rw [e] at hit ⊢
        obtain ⟨c1, c2, c3⟩ := hcall _ hit
        refine ⟨_, _, walk_leaf T o0 f n r ab s G (σ j) (σ (j + 1)) _ hb hk (hn n) hab1 c3, ?_⟩
        cases hq : (stop && decide (j + 1 = m)) with
        | true =>
          rw [Bool.and_eq_true, decide_eq_true_eq] at hq
          refine .inr ⟨add s n, _, hq.1, rfl, by rw [hq.2], ?_⟩
          simp only [List.length_singleton]; omega
        | false =>
          refine .inl ⟨_, rfl, rfl, by simp only [List.length_singleton]; omega, fun hs => ?_⟩
          rw [hs, Bool.true_and, decide_eq_false_iff_not] at hq
          simp only [List.length_singleton]; omega
      · have hk2 := hkd.resolve_left hk
        let fK := fun n' r' s' => dfs T k n' r' (ab ++ [n]) s'
        let sps := spans (nodeAt T n).pivots.l r
        let kids := (nodeAt T n).kids.l
        have e : dfs T (k + 1) n r ab s = (⟨n, r, ab⟩ :: (kidsL fK kids sps (add s n)).1, (kidsL fK kids sps (add s n)).2) := by rw [dfs, if_neg hb, if_neg hk]
        rw [e] at hit ⊢
        obtain ⟨c1, c2, c3⟩ := hcall _ hit
        have hit2 : items.drop (j + 1) = (kidsL fK kids sps (add s n)).1.map visit ++ rest := by
          rw [List.drop_eq_getElem_cons c2] at hit
          exact (List.cons.inj hit).2
        cases hq : (stop && decide (j + 1 = m)) with
        | true =>
          rw [hq] at c3
          rw [Bool.and_eq_true, decide_eq_true_eq] at hq
          refine ⟨_, _, walk_stop T o0 f n r ab s G (σ j) (σ (j + 1)) hb hk2 (hn n) hab1 c3, .inr ⟨add s n, _, hq.1, rfl, by rw [hq.2], ?_⟩⟩
          simp only [List.length_cons]; omega
        | false =>
          rw [hq] at c3
          have g3 : kids.length = (nodeAt T n).pivots.l.length + 1 := Decidable.byContradiction fun h => hb (.inr (.inr (.inl ⟨hk2, h⟩)))
          have g5 : rightP (nodeAt T n).pivots.l r := Decidable.byContradiction fun h => hb (.inr (.inr (.inr (.inl ⟨hk2, h⟩))))
          have es : sps = (List.range ((nodeAt T n).pivots.l.length + 1)).map fun i => (i, spanAt (nodeAt T n).pivots.l r i) := if_pos g5
          have esl : sps.length = kids.length := by rw [es, g3]; simp
          let J : Nat → Ks → Stack → Prop := fun i s1 S1 => ∃ L0 : List V, S1 = σ (j + 1 + L0.length) ∧ j + 1 + L0.length ≤ m ∧ (stop = true → j + 1 + L0.length < m) ∧ unseen T s1 < k ∧
            (kidsL fK kids sps (add s n)).1 = L0 ++ (kidsL fK kids (sps.drop i) s1).1 ∧ (kidsL fK kids sps (add s n)).2 = (kidsL fK kids (sps.drop i) s1).2
          let Z : Ks → Bool → Stack → Prop := fun s' bad S' => (s' = (kidsL fK kids sps (add s n)).2.1 ∧ bad = true ∧ (kidsL fK kids sps (add s n)).2.2 = false ∧ S' = σ (j + 1 + (kidsL fK kids sps (add s n)).1.length) ∧ j + 1 + (kidsL fK kids sps (add s n)).1.length ≤ m ∧ (stop = true → j + 1 + (kidsL fK kids sps (add s n)).1.length < m)) ∨
            (stop = true ∧ bad = false ∧ S' = σ m ∧ m ≤ j + 1 + (kidsL fK kids sps (add s n)).1.length)
          obtain ⟨v, S', h1, h2⟩ := walk_inner T o0 f n r ab s G (σ j) (σ (j + 1)) J Z hb hk2 (hn n) hab1 c3 ⟨[], rfl, by simp only [List.length_nil]; omega, fun hs => by
              rw [hs, Bool.true_and, decide_eq_false_iff_not] at hq
              simp only [List.length_nil]; omega, by omega, by simp, by simp⟩ (by
            intro i hi s1 S1 G1 hJ
            obtain ⟨L0, rfl, a1, a2, a3, a4, a5⟩ := hJ
            have hi2 : i < sps.length := by rw [esl]; exact hi
            have ed : sps.drop i = (i, spanAt (nodeAt T n).pivots.l r i) :: sps.drop (i + 1) := by
              rw [List.drop_eq_getElem_cons hi2]
              congr 1
              simp [es]
            have ek : kids.getD i 0 = kids[i] := by rw [List.getD, List.getElem?_eq_getElem (show i < kids.length from hi)]; rfl
            rw [ed, kidsL, ek] at a4 a5
            have hit3 : items.drop (j + 1 + L0.length) = ((kidsL fK kids sps (add s n)).1.drop L0.length).map visit ++ rest := by
              rw [← List.drop_drop, hit2, List.drop_append_of_le_length (by rw [List.length_map, a4, List.length_append]; omega), List.map_drop]
            obtain ⟨v, S', w1, w2⟩ := ih kids[i] (spanAt (nodeAt T n).pivots.l r i) (ab ++ [n]) s1 G1 (j + 1 + L0.length) (((kidsL fK kids sps (add s n)).1.drop (L0.length + (fK kids[i] (spanAt (nodeAt T n).pivots.l r i) s1).1.length)).map visit ++ rest) a3 (by simp only [List.length_append, List.length_singleton]; omega) (by
              rw [hit3, ← List.append_assoc, ← List.map_append]
              congr 2
              rw [← List.drop_drop, a4]
              simp only [List.drop_left]
              split
              · simp only [fK, List.drop_left]
              · simp only [fK, List.drop_length, List.append_nil]) a1 a2
            rcases w2 with ⟨E, rfl, rfl, b1, b2⟩ | ⟨s', E, hs, rfl, rfl, b1⟩
            · cases hD : (fK kids[i] (spanAt (nodeAt T n).pivots.l r i) s1).2.2 with
              | true =>
                rw [hD, if_pos rfl] at a4 a5
                refine .inl ⟨(fK kids[i] (spanAt (nodeAt T n).pivots.l r i) s1).2.1, σ (j + 1 + (L0 ++ (fK kids[i] (spanAt (nodeAt T n).pivots.l r i) s1).1).length), E, ?_, L0 ++ (fK kids[i] (spanAt (nodeAt T n).pivots.l r i) s1).1, rfl, ?_, ?_, ?_, ?_, ?_⟩
                · have e9 : j + 1 + (L0 ++ (fK kids[i] (spanAt (nodeAt T n).pivots.l r i) s1).1).length = j + 1 + L0.length + (fK kids[i] (spanAt (nodeAt T n).pivots.l r i) s1).1.length := by rw [List.length_append]; omega
                  rw [e9]
                  have hD' : (dfs T k kids[i] (spanAt (nodeAt T n).pivots.l r i) (ab ++ [n]) s1).2.2 = true := hD
                  rw [hD'] at w1
                  exact w1
                · rw [List.length_append]; simp only [fK]; omega
                · intro hs
                  have := b2 hs
                  rw [List.length_append]; simp only [fK]; omega
                · exact Nat.lt_of_le_of_lt (unseen_le (dfs_mono T k _ _ _ s1)) a3
                · rw [a4, List.append_assoc]
                · exact a5
              | false =>
                rw [hD, if_neg (by simp)] at a4 a5
                refine .inr ⟨(fK kids[i] (spanAt (nodeAt T n).pivots.l r i) s1).2.1, true, σ (j + 1 + (kidsL fK kids sps (add s n)).1.length), E, ?_, .inl ⟨by rw [a5], rfl, by rw [a5]; exact hD, rfl, ?_, ?_⟩⟩
                · have e9 : j + 1 + (kidsL fK kids sps (add s n)).1.length = j + 1 + L0.length + (fK kids[i] (spanAt (nodeAt T n).pivots.l r i) s1).1.length := by rw [a4, List.length_append]; omega
                  rw [e9]
                  have hD' : (dfs T k kids[i] (spanAt (nodeAt T n).pivots.l r i) (ab ++ [n]) s1).2.2 = false := hD
                  rw [hD'] at w1
                  exact w1
                · rw [a4, List.length_append]; simp only [fK]; omega
                · intro hs
                  have := b2 hs
                  rw [a4, List.length_append]; simp only [fK]; omega
            · refine .inr ⟨s', false, σ m, E, w1, .inr ⟨hs, rfl, rfl, ?_⟩⟩
              have : L0.length + (dfs T k kids[i] (spanAt (nodeAt T n).pivots.l r i) (ab ++ [n]) s1).1.length ≤ (kidsL fK kids sps (add s n)).1.length := by
                rw [a4, List.length_append]
                split
                · simp only [List.length_append, fK]; omega
                · simp only [fK]; omega
              omega)
          refine ⟨v, S', h1, ?_⟩
          rcases h2 with ⟨s', S3, E, rfl, rfl, L0, rfl, a1, a2, a3, a4, a5⟩ | ⟨s', bad, S3, E, rfl, rfl, hZ⟩
          · have ed : sps.drop (nodeAt T n).kids.l.length = [] := List.drop_eq_nil_of_le (by rw [esl]; exact Nat.le_refl _)
            rw [ed, kidsL] at a4 a5
            rw [List.append_nil] at a4
            refine .inl ⟨E, ?_, ?_, ?_, ?_⟩
            · simp only [a5]
            · simp only [a4, a5, List.length_cons]
              have : j + (L0.length + 1) = j + 1 + L0.length := by omega
              rw [this]; rfl
            · simp only [a4, List.length_cons]; omega
            · intro hs
              have := a2 hs
              simp only [a4, List.length_cons]; omega
          · rcases hZ with ⟨rfl, rfl, z3, rfl, z5, z6⟩ | ⟨hs, rfl, rfl, z4⟩
            · refine .inl ⟨E, ?_, ?_, ?_, ?_⟩
              · simp only [z3]
              · simp only [z3, List.length_cons]
                have : j + ((kidsL fK kids sps (add s n)).1.length + 1) = j + 1 + (kidsL fK kids sps (add s n)).1.length := by omega
                rw [this]; rfl
              · simp only [List.length_cons]; omega
              · intro hs
                have := z6 hs
                simp only [List.length_cons]; omega
            · exact .inr ⟨s', E, hs, rfl, rfl, by simp only [List.length_cons]; omega⟩
end Go.AS.Th

namespace Go.AS.Th
open Go Go.AS Go.Proofs
set_option maxHeartbeats 1000000

def r0 : Rng := ⟨[], []⟩
/-- All nodes that are come to, depth first. -/
def visits (T : Tr) : List V × Ks × Bool := dfs T (T.nodes.l.length + 1) 1 r0 [] ([], 0)
structure Small (T : Tr) : Prop where
  len : T.nodes.l.length ≤ 900
  nodes : ∀ n, (nodeAt T n).pivots.l.length ≤ 1000 ∧ (nodeAt T n).kids.l.length ≤ 1000
theorem unseen0 (T : Tr) : unseen T ([], 0) < T.nodes.l.length + 1 := by
  unfold unseen
  have := List.length_filter_le (fun (i : Nat) => decide (Int.ofNat i ∉ (([], 0) : Ks).1.map Prod.fst)) (List.range T.nodes.l.length)
  rw [List.length_range] at this
  omega
theorem build_walker {H : Heap} (T : Tr) (f : AV) (hf : cellsOf f = some [f]) : opV H (.build [.imm true 0 0 (some 0) [], .nilmap, .bool false, .nilFunc] [(0, 1, .c (.agg (Cel.enc T))), (1, 1, .c (.map 1)), (3, 1, .c f)]) =
    some (.agg [sl T.nodes.nil T.nodes.l, .map 1, .bool false, f], H) := by
  simp only [opV, evOp, fillA, Opd.ev, hf]
  rfl
theorem encR0 : [AV.str [], AV.str []] = Cel.enc r0 := rfl
theorem each_is (T : Tr) (hT : Small T) (f0 f : AV) (hf0 : upf f0 = some f) (hf : cellsOf f = some [f]) {σ : Nat → Stack} {m : Nat} {stop : Bool} (hm : m ≤ ((visits T).1.map visit).length) (hns : stop = false → m = ((visits T).1.map visit).length) (hst : stop = true → 0 < m)
    (hcb : ∀ Hc, Cb F f ((visits T).1.map visit) (fun i => Hc :: σ i) m stop) :
    ∃ b, Rets F (.func (.func 50) [] []) [.agg (Cel.enc T), f0] (σ 0) (.bool b) (σ m) ∧ (stop = false → b = (visits T).2.2) := by
  obtain ⟨v, S', h1, h2⟩ := walk_is T (.cells (Cel.enc T)) f hT.nodes hm hns hcb (T.nodes.l.length + 1) 1 r0 [] ([], 0) [] 0 [] (unseen0 T) (by have := hT.len; simp only [List.length_nil]; omega) (by rw [List.drop_zero, List.append_nil]; rfl) (Nat.zero_le _) hst
  have h3 : ∃ s q E, S' = hp T (.cells (Cel.enc T)) f s q E :: σ m ∧ (stop = false → (!q) = (visits T).2.2) := by
    rcases h2 with ⟨E, rfl, rfl, b1, b2⟩ | ⟨s', E, hs, rfl, rfl, b1⟩
    · cases hs : stop with
      | true =>
        have := b2 hs
        rw [List.length_map] at hm
        have e : (dfs T (T.nodes.l.length + 1) 1 r0 [] ([], 0)).1.length = (visits T).1.length := rfl
        omega
      | false =>
        have := hns hs
        rw [List.length_map] at this
        refine ⟨(visits T).2.1, !(visits T).2.2, E, ?_, fun _ => Bool.not_not _⟩
        rw [this, Nat.zero_add]; rfl
    · exact ⟨s', false, _, rfl, fun h => absurd hs (by rw [h]; simp)⟩
  obtain ⟨s, q, E, rfl, h4⟩ := h3
  refine ⟨!q, Rets.of (args' := [.agg (Cel.enc T), f]) fn_tree_each rfl rfl (by simp only [List.nil_append, List.append_nil, mapO, hf0, upf_v]) ?_, h4⟩
  simp only [ir_tree_each]
  simp -failIfUnchanged (disch := first | assumption | omega | (refine room_i _ _ ?_ ?_ <;> omega) | (refine @_root_.id _ ?_; with_unfolding_all exact Eq.refl _) | (simp only [List.length_take, List.length_drop, List.length_append, List.length_cons, List.length_nil, List.length_replicate, List.length_map] <;> omega) | fail) only [rnL, opL, ruL, hpL, rsL, natL, outL, Nat.add_sub_cancel_left, Nat.mul_one, List.length_cons, List.length_nil, Nat.zero_add, Nat.add_zero, Nat.reduceAdd, Nat.reduceMul, Nat.reduceSub, Nat.reduceEqDiff, Nat.reduceLT, Nat.reduceLeDiff, litd_t, litd_f, decide_true, decide_false, Bool.not_true, Bool.not_false, not_true_eq_false, not_false_eq_true, true_and, and_true, false_and, and_false, true_or, or_true, false_or, or_false, Int.toNat_natCast, cond_true, cond_false, List.map_cons, List.map_nil, Option.map_some, Option.map_none, datL, build_walker, hf, opV_build0, encR0]
  have e0 : aboveV [] = .imm true 0 0 (some 0) [] := if_pos rfl
  rw [e0] at h1
  refine RunC_r h1 ?_
  simp only [hp]
  simp -failIfUnchanged (disch := first | assumption | omega | (refine room_i _ _ ?_ ?_ <;> omega) | (refine @_root_.id _ ?_; with_unfolding_all exact Eq.refl _) | (simp only [List.length_take, List.length_drop, List.length_append, List.length_cons, List.length_nil, List.length_replicate, List.length_map] <;> omega) | fail) only [rnL, opL, ruL, hpL, rsL, natL, outL, Nat.add_sub_cancel_left, Nat.mul_one, List.length_cons, List.length_nil, Nat.zero_add, Nat.add_zero, Nat.reduceAdd, Nat.reduceMul, Nat.reduceSub, Nat.reduceEqDiff, Nat.reduceLT, Nat.reduceLeDiff, litd_t, litd_f, decide_true, decide_false, Bool.not_true, Bool.not_false, not_true_eq_false, not_false_eq_true, true_and, and_true, false_and, and_false, true_or, or_true, false_or, or_false, Int.toNat_natCast, cond_true, cond_false, List.map_cons, List.map_nil, Option.map_some, Option.map_none, ]
  exact FinS_i (.inr rfl) rfl rfl rfl
theorem ab_free (ab : List Int) : hfree (aboveV ab) = true := by
  unfold aboveV; split
  · rfl
  · exact sl_free _ _
theorem ab_upf (ab : List Int) : upf (aboveV ab) = some (sl (decide (ab = [])) ab) := by
  rw [upf_f (ab_free ab)]
  unfold aboveV
  split
  · rename_i h; subst h; rfl
  · rename_i h; rw [sl_canon, decide_eq_false h]
theorem sound1 (v : V) : Gives F 77 (visit v) (.bool true) := by
  refine Gives.of fn_tree_Sound_1 rfl rfl (args' := [.int .i64 v.n, .agg (Cel.enc v.r), sl (decide (v.ab = [])) v.ab]) (by simp only [visit, mapO, upf_v, ab_upf]) ?_
  simp only [ir_tree_Sound_1]
  simp -failIfUnchanged (disch := first | assumption | omega | (refine room_i _ _ ?_ ?_ <;> omega) | (refine @_root_.id _ ?_; with_unfolding_all exact Eq.refl _) | (simp only [List.length_take, List.length_drop, List.length_append, List.length_cons, List.length_nil, List.length_replicate, List.length_map] <;> omega) | fail) only [rnL, opL, ruL, hpL, rsL, natL, outL, Nat.add_sub_cancel_left, Nat.mul_one, List.length_cons, List.length_nil, Nat.zero_add, Nat.add_zero, Nat.reduceAdd, Nat.reduceMul, Nat.reduceSub, Nat.reduceEqDiff, Nat.reduceLT, Nat.reduceLeDiff, litd_t, litd_f, decide_true, decide_false, Bool.not_true, Bool.not_false, not_true_eq_false, not_false_eq_true, true_and, and_true, false_and, and_false, true_or, or_true, false_or, or_false, Int.toNat_natCast, cond_true, cond_false, List.map_cons, List.map_nil, Option.map_some, Option.map_none]
  (refine Fin_g (.inr rfl) (by simp -failIfUnchanged (disch := first | assumption | omega | (refine room_i _ _ ?_ ?_ <;> omega) | (refine @_root_.id _ ?_; with_unfolding_all exact Eq.refl _) | (simp only [List.length_take, List.length_drop, List.length_append, List.length_cons, List.length_nil, List.length_replicate, List.length_map] <;> omega) | fail) only [rnL, opL, ruL, hpL, rsL, natL, outL, Nat.add_sub_cancel_left, Nat.mul_one, List.length_cons, List.length_nil, Nat.zero_add, Nat.add_zero, Nat.reduceAdd, Nat.reduceMul, Nat.reduceSub, Nat.reduceEqDiff, Nat.reduceLT, Nat.reduceLeDiff, litd_t, litd_f, decide_true, decide_false, Bool.not_true, Bool.not_false, not_true_eq_false, not_false_eq_true, true_and, and_true, false_and, and_false, true_or, or_true, false_or, or_false, Int.toNat_natCast, cond_true, cond_false, List.map_cons, List.map_nil, Option.map_some, Option.map_none]; rfl) ?_; simp -failIfUnchanged (disch := first | assumption | omega | (refine room_i _ _ ?_ ?_ <;> omega) | (refine @_root_.id _ ?_; with_unfolding_all exact Eq.refl _) | (simp only [List.length_take, List.length_drop, List.length_append, List.length_cons, List.length_nil, List.length_replicate, List.length_map] <;> omega) | fail) only [rnL, opL, ruL, hpL, rsL, natL, outL, Nat.add_sub_cancel_left, Nat.mul_one, List.length_cons, List.length_nil, Nat.zero_add, Nat.add_zero, Nat.reduceAdd, Nat.reduceMul, Nat.reduceSub, Nat.reduceEqDiff, Nat.reduceLT, Nat.reduceLeDiff, litd_t, litd_f, decide_true, decide_false, Bool.not_true, Bool.not_false, not_true_eq_false, not_false_eq_true, true_and, and_true, false_and, and_false, true_or, or_true, false_or, or_false, Int.toNat_natCast, cond_true, cond_false, List.map_cons, List.map_nil, Option.map_some, Option.map_none])
/-- Is a tree sound? -/
theorem sound_gives (T : Tr) (hT : Small T) : Gives F 45 [.agg (Cel.enc T)] (.bool (visits T).2.2) := by
  refine Gives.of fn_tree_Sound rfl rfl (args' := [.agg (Cel.enc T)]) (by simp only [mapO_nil, mapO_c2, consO_some, upf_v]) ?_
  simp only [ir_tree_Sound]
  obtain ⟨b, h1, h2⟩ := each_is T hT (.func (.func 77) [] []) (.func (.func 77) [] []) rfl rfl (σ := fun _ => [[.cells (Cel.enc T)]]) (m := ((visits T).1.map visit).length) (stop := false) (Nat.le_refl _) (fun _ => rfl) (fun h => by cases h) (fun Hc i hi hl => by
    rw [List.getElem_map]
    exact (sound1 _).rets _)
  rw [h2 rfl] at h1
  simp -failIfUnchanged (disch := first | assumption | omega | (refine room_i _ _ ?_ ?_ <;> omega) | (refine @_root_.id _ ?_; with_unfolding_all exact Eq.refl _) | (simp only [List.length_take, List.length_drop, List.length_append, List.length_cons, List.length_nil, List.length_replicate, List.length_map] <;> omega) | fail) only [rnL, opL, ruL, hpL, rsL, natL, outL, Nat.add_sub_cancel_left, Nat.mul_one, List.length_cons, List.length_nil, Nat.zero_add, Nat.add_zero, Nat.reduceAdd, Nat.reduceMul, Nat.reduceSub, Nat.reduceEqDiff, Nat.reduceLT, Nat.reduceLeDiff, litd_t, litd_f, decide_true, decide_false, Bool.not_true, Bool.not_false, not_true_eq_false, not_false_eq_true, true_and, and_true, false_and, and_false, true_or, or_true, false_or, or_false, Int.toNat_natCast, cond_true, cond_false, List.map_cons, List.map_nil, Option.map_some, Option.map_none, datL]
  refine RunC_r h1 ?_
  simp -failIfUnchanged (disch := first | assumption | omega | (refine room_i _ _ ?_ ?_ <;> omega) | (refine @_root_.id _ ?_; with_unfolding_all exact Eq.refl _) | (simp only [List.length_take, List.length_drop, List.length_append, List.length_cons, List.length_nil, List.length_replicate, List.length_map] <;> omega) | fail) only [rnL, opL, ruL, hpL, rsL, natL, outL, Nat.add_sub_cancel_left, Nat.mul_one, List.length_cons, List.length_nil, Nat.zero_add, Nat.add_zero, Nat.reduceAdd, Nat.reduceMul, Nat.reduceSub, Nat.reduceEqDiff, Nat.reduceLT, Nat.reduceLeDiff, litd_t, litd_f, decide_true, decide_false, Bool.not_true, Bool.not_false, not_true_eq_false, not_false_eq_true, true_and, and_true, false_and, and_false, true_or, or_true, false_or, or_false, Int.toNat_natCast, cond_true, cond_false, List.map_cons, List.map_nil, Option.map_some, Option.map_none]
  (refine Fin_g (.inr rfl) (by simp -failIfUnchanged (disch := first | assumption | omega | (refine room_i _ _ ?_ ?_ <;> omega) | (refine @_root_.id _ ?_; with_unfolding_all exact Eq.refl _) | (simp only [List.length_take, List.length_drop, List.length_append, List.length_cons, List.length_nil, List.length_replicate, List.length_map] <;> omega) | fail) only [rnL, opL, ruL, hpL, rsL, natL, outL, Nat.add_sub_cancel_left, Nat.mul_one, List.length_cons, List.length_nil, Nat.zero_add, Nat.add_zero, Nat.reduceAdd, Nat.reduceMul, Nat.reduceSub, Nat.reduceEqDiff, Nat.reduceLT, Nat.reduceLeDiff, litd_t, litd_f, decide_true, decide_false, Bool.not_true, Bool.not_false, not_true_eq_false, not_false_eq_true, true_and, and_true, false_and, and_false, true_or, or_true, false_or, or_false, Int.toNat_natCast, cond_true, cond_false, List.map_cons, List.map_nil, Option.map_some, Option.map_none]; rfl) ?_; simp -failIfUnchanged (disch := first | assumption | omega | (refine room_i _ _ ?_ ?_ <;> omega) | (refine @_root_.id _ ?_; with_unfolding_all exact Eq.refl _) | (simp only [List.length_take, List.length_drop, List.length_append, List.length_cons, List.length_nil, List.length_replicate, List.length_map] <;> omega) | fail) only [rnL, opL, ruL, hpL, rsL, natL, outL, Nat.add_sub_cancel_left, Nat.mul_one, List.length_cons, List.length_nil, Nat.zero_add, Nat.add_zero, Nat.reduceAdd, Nat.reduceMul, Nat.reduceSub, Nat.reduceEqDiff, Nat.reduceLT, Nat.reduceLeDiff, litd_t, litd_f, decide_true, decide_false, Bool.not_true, Bool.not_false, not_true_eq_false, not_false_eq_true, true_and, and_true, false_and, and_false, true_or, or_true, false_or, or_false, Int.toNat_natCast, cond_true, cond_false, List.map_cons, List.map_nil, Option.map_some, Option.map_none])
def item2 (v : V) : List AV := [.int .i64 v.n, .agg (Cel.enc v.r)]
/-- A function's value that goes through a tree's nodes. -/
def allV (T : Tr) : AV := .func (.func 49) [] [.iptr (Cel.enc T) 0]
def garb (T : Tr) (i : Nat) : Heap := ((visits T).1.take i).map fun v => .cells (Cel.enc v.r)
theorem upf_ptr (a b c : Nat) : upf (.ptr a b c) = none := rfl
theorem hatG1 (a : AObj) (G L : Heap) (k : Nat) : hat (a :: (G ++ L)) (G.length + (k + 1)) = hat L k := by
  have e : G.length + (k + 1) = (G.length + k) + 1 := by omega
  rw [e]
  show hat (G ++ L) (G.length + k) = _
  clear e
  induction G with
  | nil => simp
  | cons x G ih =>
    have e : (x :: G).length + k = (G.length + k) + 1 := by simp; omega
    rw [e]
    exact ih
theorem all1 {y : AV} {σ : Nat → Stack} {m : Nat} {stop : Bool} (T : Tr) (hcb : ∀ Hc, Cb F y ((visits T).1.map item2) (fun i => Hc :: σ i) m stop) : Cb F (.func (.func 51) [] [.ptr 0 1 0]) ((visits T).1.map visit) (fun i => (.cells [y] :: garb T i) :: σ i) m stop := by
  intro i hi hl
  have hl2 : i < (visits T).1.length := by simpa using hl
  rw [List.getElem_map]
  have hy := fun Hc => hcb Hc i hi (by simpa using hl2)
  simp only [List.getElem_map] at hy
  have hg : garb T (i + 1) = garb T i ++ [.cells (Cel.enc (visits T).1[i].r)] := by
    unfold garb
    rw [List.take_succ_eq_append_getElem hl2, List.map_append]; rfl
  refine Rets.mem fn_tree_All_1_1 rfl ?_ ?_
  · show mapO upf _ = none
    simp only [visit, List.nil_append, List.cons_append, mapO, upf_v, ab_upf, upf_ptr]
  · simp only [ir_tree_All_1_1, visit, List.nil_append, List.cons_append]
    simp -failIfUnchanged (disch := first | assumption | omega | (refine room_i _ _ ?_ ?_ <;> omega) | (refine @_root_.id _ ?_; with_unfolding_all exact Eq.refl _) | (simp only [List.length_take, List.length_drop, List.length_append, List.length_cons, List.length_nil, List.length_replicate, List.length_map] <;> omega) | fail) only [rnL, opL, ruL, hpL, rsL, natL, outL, Nat.add_sub_cancel_left, Nat.mul_one, List.length_cons, List.length_nil, Nat.zero_add, Nat.add_zero, Nat.reduceAdd, Nat.reduceMul, Nat.reduceSub, Nat.reduceEqDiff, Nat.reduceLT, Nat.reduceLeDiff, litd_t, litd_f, decide_true, decide_false, Bool.not_true, Bool.not_false, not_true_eq_false, not_false_eq_true, true_and, and_true, false_and, and_false, true_or, or_true, false_or, or_false, Int.toNat_natCast, cond_true, cond_false, List.map_cons, List.map_nil, Option.map_some, Option.map_none, datL, lo1, lo2, lo3, lo4, lo5, lo6, hatG1, Nat.add_assoc]
    refine RunC_r (hy _) ?_
    simp -failIfUnchanged (disch := first | assumption | omega | (refine room_i _ _ ?_ ?_ <;> omega) | (refine @_root_.id _ ?_; with_unfolding_all exact Eq.refl _) | (simp only [List.length_take, List.length_drop, List.length_append, List.length_cons, List.length_nil, List.length_replicate, List.length_map] <;> omega) | fail) only [rnL, opL, ruL, hpL, rsL, natL, outL, Nat.add_sub_cancel_left, Nat.mul_one, List.length_cons, List.length_nil, Nat.zero_add, Nat.add_zero, Nat.reduceAdd, Nat.reduceMul, Nat.reduceSub, Nat.reduceEqDiff, Nat.reduceLT, Nat.reduceLeDiff, litd_t, litd_f, decide_true, decide_false, Bool.not_true, Bool.not_false, not_true_eq_false, not_false_eq_true, true_and, and_true, false_and, and_false, true_or, or_true, false_or, or_false, Int.toNat_natCast, cond_true, cond_false, List.map_cons, List.map_nil, Option.map_some, Option.map_none]
    exact FinM_g (.inr rfl) (by simp -failIfUnchanged (disch := first | assumption | omega | (refine room_i _ _ ?_ ?_ <;> omega) | (refine @_root_.id _ ?_; with_unfolding_all exact Eq.refl _) | (simp only [List.length_take, List.length_drop, List.length_append, List.length_cons, List.length_nil, List.length_replicate, List.length_map] <;> omega) | fail) only [rnL, opL, ruL, hpL, rsL, natL, outL, Nat.add_sub_cancel_left, Nat.mul_one, List.length_cons, List.length_nil, Nat.zero_add, Nat.add_zero, Nat.reduceAdd, Nat.reduceMul, Nat.reduceSub, Nat.reduceEqDiff, Nat.reduceLT, Nat.reduceLeDiff, litd_t, litd_f, decide_true, decide_false, Bool.not_true, Bool.not_false, not_true_eq_false, not_false_eq_true, true_and, and_true, false_and, and_false, true_or, or_true, false_or, or_false, Int.toNat_natCast, cond_true, cond_false, List.map_cons, List.map_nil, Option.map_some, Option.map_none]; rfl) rfl (by rw [hg])
theorem ptr_up : upf (.func (.func 51) [] [.ptr 0 1 0]) = some (.ext (.func (.func 51) [] [.ptr 0 1 0])) := rfl
theorem all_iter (T : Tr) (hT : Small T) : Iter F (allV T) ((visits T).1.map item2) := by
  intro y0 y σ m stop hy hy1 hm hns hst hcb
  have hm' : m ≤ ((visits T).1.map visit).length := by simpa using hm
  have hd : ∀ it ∈ (visits T).1.map visit, mapO down it = some it := by
    intro it hit
    obtain ⟨v, hv, rfl⟩ := List.mem_map.mp hit
    have h1 : down (.agg (Cel.enc v.r)) = some (.agg (Cel.enc v.r)) := by unfold down; rw [hfree_enc]; rfl
    have h2 : down (aboveV v.ab) = some (aboveV v.ab) := by unfold down; rw [ab_free]; rfl
    have h3 : ∀ k m, down (.int k m) = some (.int k m) := fun _ _ => rfl
    simp only [visit, mapO, h1, h2, h3]
  obtain ⟨b, h1, -⟩ := each_is T hT (.func (.func 51) [] [.ptr 0 1 0]) (.ext (.func (.func 51) [] [.ptr 0 1 0])) ptr_up rfl (σ := fun i => (.cells [y] :: garb T i) :: σ i) (m := m) (stop := stop) hm' (fun h => by simpa using hns h) hst
    (fun Hc => (all1 T hcb).ext hd Hc)
  refine ⟨.tuple [], ?_⟩
  unfold allV
  refine Rets.of (args' := [y, .iptr (Cel.enc T) 0]) fn_tree_All_1 rfl rfl (by simp only [List.nil_append, List.cons_append, mapO, hy, upf_enc T]) ?_
  simp only [ir_tree_All_1]
  have hb : ∀ H, opV H (.box 1 (.c y)) = some (.ptr H.length 1 0, H ++ [.cells [y]]) := fun H => by
    simp only [opV, evOp, Opd.ev, hy1]; rfl
  have hm1 : ∀ (H : Heap) (f : Fn) (a : AV), opV H (.mkfn f [] [.c a]) = some (.func f [] [a], H) := fun _ _ _ => rfl
  simp -failIfUnchanged (disch := first | assumption | omega | (refine room_i _ _ ?_ ?_ <;> omega) | (refine @_root_.id _ ?_; with_unfolding_all exact Eq.refl _) | (simp only [List.length_take, List.length_drop, List.length_append, List.length_cons, List.length_nil, List.length_replicate, List.length_map] <;> omega) | fail) only [rnL, opL, ruL, hpL, rsL, natL, outL, Nat.add_sub_cancel_left, Nat.mul_one, List.length_cons, List.length_nil, Nat.zero_add, Nat.add_zero, Nat.reduceAdd, Nat.reduceMul, Nat.reduceSub, Nat.reduceEqDiff, Nat.reduceLT, Nat.reduceLeDiff, litd_t, litd_f, decide_true, decide_false, Bool.not_true, Bool.not_false, not_true_eq_false, not_false_eq_true, true_and, and_true, false_and, and_false, true_or, or_true, false_or, or_false, Int.toNat_natCast, cond_true, cond_false, List.map_cons, List.map_nil, Option.map_some, Option.map_none, opV_loadI, hb, hm1]
  refine RunC_r h1 ?_
  simp -failIfUnchanged (disch := first | assumption | omega | (refine room_i _ _ ?_ ?_ <;> omega) | (refine @_root_.id _ ?_; with_unfolding_all exact Eq.refl _) | (simp only [List.length_take, List.length_drop, List.length_append, List.length_cons, List.length_nil, List.length_replicate, List.length_map] <;> omega) | fail) only [rnL, opL, ruL, hpL, rsL, natL, outL, Nat.add_sub_cancel_left, Nat.mul_one, List.length_cons, List.length_nil, Nat.zero_add, Nat.add_zero, Nat.reduceAdd, Nat.reduceMul, Nat.reduceSub, Nat.reduceEqDiff, Nat.reduceLT, Nat.reduceLeDiff, litd_t, litd_f, decide_true, decide_false, Bool.not_true, Bool.not_false, not_true_eq_false, not_false_eq_true, true_and, and_true, false_and, and_false, true_or, or_true, false_or, or_false, Int.toNat_natCast, cond_true, cond_false, List.map_cons, List.map_nil, Option.map_some, Option.map_none]
  exact FinS_i (.inl rfl) rfl rfl rfl
theorem leave_fn1 {H : Heap} {f i li : Nat} {ci : List AV} (hi : H[i]? = some (.cells ci)) (hli : ci.length = li) (hf1 : hfrees ci = true) (hg1 : fgs ci = ci) :
    leave H (.func (.func f) [] [.ptr i li 0]) = some (.func (.func f) [] [.iptr ci 0]) := by
  have h1 : frz H 1000 (.func (.func f) [] [.ptr i li 0]) = some (.func (.func f) [] [.iptr ci 0]) := by
    unfold frz
    simp only [hfree, hfrees, Bool.false_and, Bool.and_false, cond_false, mapO, frz_ptr 997 hi hli hf1]
  unfold leave
  rw [h1]
  simp only [down, hfree, hfrees, hf1, Bool.and_true, cond_true, Option.map_some, fg, fgs, hg1]
/-- All nodes of a tree. -/
theorem all_gives (T : Tr) : Gives F 29 [.agg (Cel.enc T)] (allV T) := by
  refine Gives.of fn_tree_All rfl rfl (args' := [.agg (Cel.enc T)]) (by simp only [mapO_nil, mapO_c2, consO_some, upf_v]) ?_
  simp only [ir_tree_All]
  have hm1 : ∀ (H : Heap) (f : Fn) (a : AV), opV H (.mkfn f [] [.c a]) = some (.func f [] [a], H) := fun _ _ _ => rfl
  simp -failIfUnchanged (disch := first | assumption | omega | (refine room_i _ _ ?_ ?_ <;> omega) | (refine @_root_.id _ ?_; with_unfolding_all exact Eq.refl _) | (simp only [List.length_take, List.length_drop, List.length_append, List.length_cons, List.length_nil, List.length_replicate, List.length_map] <;> omega) | fail) only [rnL, opL, ruL, hpL, rsL, natL, outL, Nat.add_sub_cancel_left, Nat.mul_one, List.length_cons, List.length_nil, Nat.zero_add, Nat.add_zero, Nat.reduceAdd, Nat.reduceMul, Nat.reduceSub, Nat.reduceEqDiff, Nat.reduceLT, Nat.reduceLeDiff, litd_t, litd_f, decide_true, decide_false, Bool.not_true, Bool.not_false, not_true_eq_false, not_false_eq_true, true_and, and_true, false_and, and_false, true_or, or_true, false_or, or_false, Int.toNat_natCast, cond_true, cond_false, List.map_cons, List.map_nil, Option.map_some, Option.map_none, hm1]
  (refine Fin_g (.inr rfl) (by simp -failIfUnchanged (disch := first | assumption | omega | (refine room_i _ _ ?_ ?_ <;> omega) | (refine @_root_.id _ ?_; with_unfolding_all exact Eq.refl _) | (simp only [List.length_take, List.length_drop, List.length_append, List.length_cons, List.length_nil, List.length_replicate, List.length_map] <;> omega) | fail) only [rnL, opL, ruL, hpL, rsL, natL, outL, Nat.add_sub_cancel_left, Nat.mul_one, List.length_cons, List.length_nil, Nat.zero_add, Nat.add_zero, Nat.reduceAdd, Nat.reduceMul, Nat.reduceSub, Nat.reduceEqDiff, Nat.reduceLT, Nat.reduceLeDiff, litd_t, litd_f, decide_true, decide_false, Bool.not_true, Bool.not_false, not_true_eq_false, not_false_eq_true, true_and, and_true, false_and, and_false, true_or, or_true, false_or, or_false, Int.toNat_natCast, cond_true, cond_false, List.map_cons, List.map_nil, Option.map_some, Option.map_none]; rfl) ?_; simp -failIfUnchanged (disch := first | assumption | omega | (refine room_i _ _ ?_ ?_ <;> omega) | (refine @_root_.id _ ?_; with_unfolding_all exact Eq.refl _) | (simp only [List.length_take, List.length_drop, List.length_append, List.length_cons, List.length_nil, List.length_replicate, List.length_map] <;> omega) | fail) only [rnL, opL, ruL, hpL, rsL, natL, outL, Nat.add_sub_cancel_left, Nat.mul_one, List.length_cons, List.length_nil, Nat.zero_add, Nat.add_zero, Nat.reduceAdd, Nat.reduceMul, Nat.reduceSub, Nat.reduceEqDiff, Nat.reduceLT, Nat.reduceLeDiff, litd_t, litd_f, decide_true, decide_false, Bool.not_true, Bool.not_false, not_true_eq_false, not_false_eq_true, true_and, and_true, false_and, and_false, true_or, or_true, false_or, or_false, Int.toNat_natCast, cond_true, cond_false, List.map_cons, List.map_nil, Option.map_some, Option.map_none])
  exact leave_fn1 rfl rfl (Cel.free T) (Cel.canon T)
end Go.AS.Th

namespace Go.AS.Th
open Go Go.AS Go.Proofs
theorem kidsL_len (T : Tr) (f : Int → Rng → Ks → List V × Ks × Bool) (hf : ∀ n r s, (f n r s).1.length + unseen T (f n r s).2.1 ≤ unseen T s) (kids : List Int) : ∀ (l : List (Nat × Rng)) (s : Ks), (kidsL f kids l s).1.length + unseen T (kidsL f kids l s).2.1 ≤ unseen T s
  | [], s => by simp [kidsL]
  | (i, sp) :: rest, s => by
    unfold kidsL
    split
    · have h1 := hf (kids.getD i 0) sp s
      have h2 := kidsL_len T f hf kids rest (f (kids.getD i 0) sp s).2.1
      simp only [List.length_append]
      omega
    · exact hf _ _ _
theorem dfs_len (T : Tr) : ∀ (k : Nat) (n : Int) (r : Rng) (ab : List Int) (s : Ks), (dfs T k n r ab s).1.length + unseen T (dfs T k n r ab s).2.1 ≤ unseen T s
  | 0, _, _, _, s => by simp [dfs]
  | k + 1, n, r, ab, s => by
    unfold dfs
    split
    · simp
    · rename_i hb
      have hkd : (nodeAt T n).kind = 1 ∨ (nodeAt T n).kind = 2 := Decidable.byContradiction fun h => hb (.inl h)
      have hlt := unseen_add (nodeAt_range hkd).1 (nodeAt_range hkd).2 (fun h => hb (.inr (.inl h)))
      split
      · simp only [List.length_singleton]; omega
      · have := kidsL_len T _ (fun n' r' s' => dfs_len T k n' r' (ab ++ [n]) s') (nodeAt T n).kids.l (spans (nodeAt T n).pivots.l r) (add s n)
        simp only [List.length_cons]
        rw [Nat.add_right_comm]
        exact Nat.succ_le_of_lt (Nat.lt_of_le_of_lt this hlt)
theorem visits_len (T : Tr) : (visits T).1.length ≤ T.nodes.l.length := by
  have h1 := dfs_len T (T.nodes.l.length + 1) 1 r0 [] ([], 0)
  have h2 := unseen0 T
  have e : (visits T).1.length = (dfs T (T.nodes.l.length + 1) 1 r0 [] ([], 0)).1.length := rfl
  omega
theorem kidsL_kind (T : Tr) (f : Int → Rng → Ks → List V × Ks × Bool) (P : V → Prop) (hf : ∀ n r s, ∀ v ∈ (f n r s).1, P v) (kids : List Int) : ∀ (l : List (Nat × Rng)) (s : Ks), ∀ v ∈ (kidsL f kids l s).1, P v
  | [], s, v, h => by simp [kidsL] at h
  | (i, sp) :: rest, s, v, h => by
    unfold kidsL at h
    split at h
    · rcases List.mem_append.mp h with h | h
      · exact hf _ _ _ v h
      · exact kidsL_kind T f P hf kids rest _ v h
    · exact hf _ _ _ v h
theorem dfs_kind (T : Tr) : ∀ (k : Nat) (n : Int) (r : Rng) (ab : List Int) (s : Ks), ∀ v ∈ (dfs T k n r ab s).1, (nodeAt T v.n).kind = 1 ∨ (nodeAt T v.n).kind = 2
  | 0, _, _, _, s, v, h => by simp [dfs] at h
  | k + 1, n, r, ab, s, v, h => by
    unfold dfs at h
    split at h
    · cases h
    · rename_i hb
      have hkd : (nodeAt T n).kind = 1 ∨ (nodeAt T n).kind = 2 := Decidable.byContradiction fun h => hb (.inl h)
      split at h
      · rw [List.mem_singleton] at h
        subst h; exact hkd
      · rcases List.mem_cons.mp h with h | h
        · subst h; exact hkd
        · exact kidsL_kind T _ (fun v => (nodeAt T v.n).kind = 1 ∨ (nodeAt T v.n).kind = 2) (fun n' r' s' => dfs_kind T k n' r' (ab ++ [n]) s') _ _ _ v h
theorem visits_range (T : Tr) : ∀ v ∈ (visits T).1, 1 ≤ v.n ∧ v.n.toNat < T.nodes.l.length := fun v h => nodeAt_range (dfs_kind T _ _ _ _ _ v h)
theorem nodeAt_get {T : Tr} {n : Int} (h : 1 ≤ n) (h2 : n.toNat < T.nodes.l.length) : T.nodes.l[n.toNat] = nodeAt T n := by
  unfold nodeAt; rw [if_pos h, List.getElem?_eq_getElem h2]; rfl
end Go.AS.Th

namespace Go.AS.Th
open Go Go.AS Go.Proofs
set_option maxHeartbeats 2000000
set_option maxRecDepth 8000
/-- A node that is reached: its number, range, parent, and place there. -/
structure Sn where
  n : Int
  r : Rng
  parent : Int
  place : Int
instance celSn : Cel Sn := ⟨5, fun x => [.int .i64 x.n, .str x.r.lo, .str x.r.hi, .int .i64 x.parent, .int .i64 x.place], fun _ => rfl, fun _ => rfl, fun _ => rfl⟩
theorem encSn0 (x : Sn) : one none (Cel.enc x) 0 = some (.int .i64 x.n) := rfl
theorem encSn1 (x : Sn) : one (some 2) (Cel.enc x) 1 = some (.agg (Cel.enc x.r)) := rfl
theorem encSn3 (x : Sn) : one none (Cel.enc x) 3 = some (.int .i64 x.parent) := rfl
theorem encSn4 (x : Sn) : one none (Cel.enc x) 4 = some (.int .i64 x.place) := rfl
theorem buildSn {H : Heap} (n p a : Int) (r : Rng) : opV H (.build [.int .i64 0, .str [], .str [], .int .i64 0, .int .i64 0] [(0, 1, .c (.int .i64 n)), (1, 2, .c (.agg (Cel.enc r))), (3, 1, .c (.int .i64 p)), (4, 1, .c (.int .i64 a))]) = some (.agg (Cel.enc (Sn.mk n r p a)), H) := rfl
/-- A node's kids, one behind the other. -/
def kidsB (f : Sn → List Sn → List Sn × Bool) (kids : List Int) (p : Int) (sp : Nat → Rng) : Nat → Nat → List Sn → List Sn × Bool
  | 0, _, seen => (seen, true)
  | m + 1, i, seen => if (f ⟨kids.getD i 0, sp i, p, i⟩ seen).2 then kidsB f kids p sp m (i + 1) (f ⟨kids.getD i 0, sp i, p, i⟩ seen).1 else ((f ⟨kids.getD i 0, sp i, p, i⟩ seen).1, false)
def bel (T : Tr) : Nat → Sn → List Sn → List Sn × Bool
  | 0, _, seen => (seen, false)
  | k + 1, x, seen => if x.n < 1 ∨ T.nodes.l.length ≤ x.n then (seen, false) else
    if x.n ∈ seen.map Sn.n then (seen, false) else
    if (nodeAt T x.n).kind = 1 ∧ 0 < x.parent then (seen ++ [x], true) else
    if (nodeAt T x.n).kind ≠ 2 ∨ (nodeAt T x.n).kids.l.length ≠ (nodeAt T x.n).pivots.l.length + 1 ∨ ¬ rightP (nodeAt T x.n).pivots.l x.r then (seen ++ [x], false) else
    kidsB (bel T k) (nodeAt T x.n).kids.l x.n (spanAt (nodeAt T x.n).pivots.l x.r) (nodeAt T x.n).kids.l.length 0 (seen ++ [x])
def left (T : Tr) (seen : List Sn) : Nat := ((List.range T.nodes.l.length).filter fun (i : Nat) => decide ((i : Int) ∉ seen.map Sn.n)).length
theorem left_add {T : Tr} {seen : List Sn} {x : Sn} (h1 : 1 ≤ x.n) (h2 : x.n.toNat < T.nodes.l.length) (h3 : x.n ∉ seen.map Sn.n) : left T (seen ++ [x]) < left T seen := by
  unfold left
  refine Nat.lt_of_succ_le ?_
  have e : ∀ (l : List Nat), l.Nodup → x.n.toNat ∈ l → (l.filter fun (i : Nat) => decide ((i : Int) ∉ (seen ++ [x]).map Sn.n)).length + 1 ≤ (l.filter fun (i : Nat) => decide ((i : Int) ∉ seen.map Sn.n)).length := by
    have mono : ∀ (l : List Nat), (l.filter fun (i : Nat) => decide ((i : Int) ∉ (seen ++ [x]).map Sn.n)).length ≤ (l.filter fun (i : Nat) => decide ((i : Int) ∉ seen.map Sn.n)).length := by
      intro l
      induction l with
      | nil => simp
      | cons a l ih =>
        simp only [List.filter_cons]
        by_cases g : (a : Int) ∈ seen.map Sn.n
        · have g2 : (a : Int) ∈ (seen ++ [x]).map Sn.n := by rw [List.map_append]; exact List.mem_append_left _ g
          simp only [g, g2, not_true_eq_false, decide_false, Bool.false_eq_true, if_false]; exact ih
        · by_cases g2 : (a : Int) ∈ (seen ++ [x]).map Sn.n
          · simp only [g, g2, not_true_eq_false, not_false_eq_true, decide_false, decide_true, Bool.false_eq_true, if_false, if_true, List.length_cons]; omega
          · simp only [g, g2, not_false_eq_true, decide_true, if_true, List.length_cons]; omega
    intro l hl hm
    induction l with
    | nil => cases hm
    | cons a l ih =>
      rw [List.nodup_cons] at hl
      simp only [List.filter_cons]
      by_cases g : a = x.n.toNat
      · have g3 : (a : Int) = x.n := by omega
        have g1 : (a : Int) ∉ seen.map Sn.n := by rw [g3]; exact h3
        have g2 : (a : Int) ∈ (seen ++ [x]).map Sn.n := by rw [g3, List.map_append]; exact List.mem_append_right _ (by simp)
        simp only [g1, g2, not_true_eq_false, not_false_eq_true, decide_false, decide_true, Bool.false_eq_true, if_false, if_true, List.length_cons]
        have := mono l; omega
      · have hm2 : x.n.toNat ∈ l := by rcases List.mem_cons.mp hm with h | h; exact absurd h.symm g; exact h
        have := ih hl.2 hm2
        by_cases g1 : (a : Int) ∈ seen.map Sn.n
        · have g2 : (a : Int) ∈ (seen ++ [x]).map Sn.n := by rw [List.map_append]; exact List.mem_append_left _ g1
          simp only [g1, g2, not_true_eq_false, decide_false, Bool.false_eq_true, if_false]; exact this
        · have g2 : (a : Int) ∉ (seen ++ [x]).map Sn.n := by
            rw [List.map_append, List.mem_append]
            rintro (h | h)
            · exact g1 h
            · simp at h; omega
          simp only [g1, g2, not_false_eq_true, decide_true, if_true, List.length_cons]; omega
  exact e _ List.nodup_range (by rw [List.mem_range]; exact h2)
theorem kidsB_m {T : Tr} {f : Sn → List Sn → List Sn × Bool} (hf : ∀ x s, left T (f x s).1 ≤ left T s ∧ (f x s).1.length + left T (f x s).1 ≤ s.length + left T s) (kids : List Int) (p : Int) (sp : Nat → Rng) : ∀ (m i : Nat) (s : List Sn),
    left T (kidsB f kids p sp m i s).1 ≤ left T s ∧ (kidsB f kids p sp m i s).1.length + left T (kidsB f kids p sp m i s).1 ≤ s.length + left T s
  | 0, _, s => ⟨Nat.le_refl _, Nat.le_refl _⟩
  | m + 1, i, s => by
    have h1 := hf ⟨kids.getD i 0, sp i, p, i⟩ s
    have h2 := kidsB_m hf kids p sp m (i + 1) (f ⟨kids.getD i 0, sp i, p, i⟩ s).1
    unfold kidsB
    split
    · exact ⟨Nat.le_trans h2.1 h1.1, Nat.le_trans h2.2 h1.2⟩
    · exact h1
theorem bel_m (T : Tr) : ∀ (k : Nat) (x : Sn) (s : List Sn), left T (bel T k x s).1 ≤ left T s ∧ (bel T k x s).1.length + left T (bel T k x s).1 ≤ s.length + left T s
  | 0, _, s => ⟨Nat.le_refl _, Nat.le_refl _⟩
  | k + 1, x, s => by
    unfold bel
    split
    · exact ⟨Nat.le_refl _, Nat.le_refl _⟩
    · rename_i h1
      split
      · exact ⟨Nat.le_refl _, Nat.le_refl _⟩
      · rename_i h2
        have h3 := left_add (T := T) (seen := s) (x := x) (by omega) (by omega) h2
        have h4 : (s ++ [x]).length = s.length + 1 := by simp
        split
        · simp only; omega
        · split
          · simp only; omega
          · have := kidsB_m (T := T) (f := bel T k) (fun x s => bel_m T k x s) (nodeAt T x.n).kids.l x.n (spanAt (nodeAt T x.n).pivots.l x.r) (nodeAt T x.n).kids.l.length 0 (s ++ [x])
            omega
theorem below_is {nl : Bool} (T : Tr) (hT : Small T) : ∀ k x (seen : List Sn) H S w, Row nl H w seen → left T seen < k → seen.length + left T seen ≤ 2000 →
    ∃ v S', Rets F (.func (.func 39) [] []) [.agg (Cel.enc T), .agg (Cel.enc x), w] (H :: S) v S' ∧ ∃ w' H', v = .tuple [w', .bool (bel T k x seen).2] ∧ S' = H' :: S ∧ Row nl H' w' (bel T k x seen).1 ∧ Keep H w H' w'
  | 0, _, _, _, _, _, _, h, _ => by omega
  | k + 1, x, seen, H, S, w, hR, hl, hb => by
    have hw : cellsOf w = some [w] := by rcases hR with ⟨_, rfl⟩ | ⟨id, h1, h2, rfl, h4⟩ <;> rfl
    refine Rets.memX fn_r15_below rfl rfl ?_
    simp only [ir_r15_below, List.nil_append, List.cons_append]
    have hw0 : isAt w H.length = false := hR.bd (Nat.le_refl _)
    have hw1 : isAt w (H.length + 1) = false := hR.bd (Nat.le_succ _)
    have finb : ∀ (b : Bool) (s1 : List Sn) (w1 : AV) (H1 : Heap) (e : Env), (bel T (k + 1) x seen) = (s1, b) → Row nl H1 w1 s1 → Keep H w H1 w1 → Env.get e 6 = w1 → Env.get e 7 = .bool b → FinX [IRes.tmp 6, IRes.tmp 7] (fun v S' => ∃ w' H', v = .tuple [w', .bool (bel T (k + 1) x seen).2] ∧ S' = H' :: S ∧ Row nl H' w' (bel T (k + 1) x seen).1 ∧ Keep H w H' w') .ret e (H1 :: S) := by
      intro b s1 w1 H1 e h1 hR1 hK h2 h3
      refine FinX_g (funs := F) (.inr rfl) (vs := [w1, .bool b]) ?_ (outV_2 _ _) ⟨w1, _, by rw [h1], rfl, by rw [h1]; exact hR1, hK⟩
      simp only [mapO, resultA_tmp, h2, h3, hR1.tmp]; rfl
    simp -failIfUnchanged (disch := first | assumption | omega | (refine room_i _ _ ?_ ?_ <;> omega) | (refine @_root_.id _ ?_; with_unfolding_all exact Eq.refl _) | (simp only [List.length_take, List.length_drop, List.length_append, List.length_cons, List.length_nil, List.length_replicate, List.length_map] <;> omega) | fail) only [rnL, opL, ruL, hpL, rsL, natL, outL, Nat.add_sub_cancel_left, Nat.mul_one, List.length_cons, List.length_nil, Nat.zero_add, Nat.add_zero, Nat.reduceAdd, Nat.reduceMul, Nat.reduceSub, Nat.reduceEqDiff, Nat.reduceLT, Nat.reduceLeDiff, litd_t, litd_f, decide_true, decide_false, Bool.not_true, Bool.not_false, not_true_eq_false, not_false_eq_true, true_and, and_true, false_and, and_false, true_or, or_true, false_or, or_false, Int.toNat_natCast, cond_true, cond_false, List.map_cons, List.map_nil, Option.map_some, Option.map_none, datL, encSn0, hxL]
    (first | refine RunB_i (fun h1 => ?_) (fun h1 => ?_) | refine RunG_i (fun h1 => ?_) (fun h1 => ?_) | refine RunB_ib (fun h1 => ?_) (fun h1 => ?_))
    · simp -failIfUnchanged (disch := first | assumption | omega | (refine room_i _ _ ?_ ?_ <;> omega) | (refine @_root_.id _ ?_; with_unfolding_all exact Eq.refl _) | (simp only [List.length_take, List.length_drop, List.length_append, List.length_cons, List.length_nil, List.length_replicate, List.length_map] <;> omega) | fail) only [rnL, opL, ruL, hpL, rsL, natL, outL, Nat.add_sub_cancel_left, Nat.mul_one, List.length_cons, List.length_nil, Nat.zero_add, Nat.add_zero, Nat.reduceAdd, Nat.reduceMul, Nat.reduceSub, Nat.reduceEqDiff, Nat.reduceLT, Nat.reduceLeDiff, litd_t, litd_f, decide_true, decide_false, Bool.not_true, Bool.not_false, not_true_eq_false, not_false_eq_true, true_and, and_true, false_and, and_false, true_or, or_true, false_or, or_false, Int.toNat_natCast, cond_true, cond_false, List.map_cons, List.map_nil, Option.map_some, Option.map_none, datL, encSn0, hxL, hR.len]
      exact finb false seen w _ _ (by simp [bel, h1]) hR.app Keep.app rfl rfl
    simp -failIfUnchanged (disch := first | assumption | omega | (refine room_i _ _ ?_ ?_ <;> omega) | (refine @_root_.id _ ?_; with_unfolding_all exact Eq.refl _) | (simp only [List.length_take, List.length_drop, List.length_append, List.length_cons, List.length_nil, List.length_replicate, List.length_map] <;> omega) | fail) only [rnL, opL, ruL, hpL, rsL, natL, outL, Nat.add_sub_cancel_left, Nat.mul_one, List.length_cons, List.length_nil, Nat.zero_add, Nat.add_zero, Nat.reduceAdd, Nat.reduceMul, Nat.reduceSub, Nat.reduceEqDiff, Nat.reduceLT, Nat.reduceLeDiff, litd_t, litd_f, decide_true, decide_false, Bool.not_true, Bool.not_false, not_true_eq_false, not_false_eq_true, true_and, and_true, false_and, and_false, true_or, or_true, false_or, or_false, Int.toNat_natCast, cond_true, cond_false, List.map_cons, List.map_nil, Option.map_some, Option.map_none, datL, encSn0, hxL, hR.len]
    (first | refine RunB_i (fun h2 => ?_) (fun h2 => ?_) | refine RunG_i (fun h2 => ?_) (fun h2 => ?_) | refine RunB_ib (fun h2 => ?_) (fun h2 => ?_))
    · simp -failIfUnchanged (disch := first | assumption | omega | (refine room_i _ _ ?_ ?_ <;> omega) | (refine @_root_.id _ ?_; with_unfolding_all exact Eq.refl _) | (simp only [List.length_take, List.length_drop, List.length_append, List.length_cons, List.length_nil, List.length_replicate, List.length_map] <;> omega) | fail) only [rnL, opL, ruL, hpL, rsL, natL, outL, Nat.add_sub_cancel_left, Nat.mul_one, List.length_cons, List.length_nil, Nat.zero_add, Nat.add_zero, Nat.reduceAdd, Nat.reduceMul, Nat.reduceSub, Nat.reduceEqDiff, Nat.reduceLT, Nat.reduceLeDiff, litd_t, litd_f, decide_true, decide_false, Bool.not_true, Bool.not_false, not_true_eq_false, not_false_eq_true, true_and, and_true, false_and, and_false, true_or, or_true, false_or, or_false, Int.toNat_natCast, cond_true, cond_false, List.map_cons, List.map_nil, Option.map_some, Option.map_none, datL, encSn0, hxL, hR.len]
      exact finb false seen w _ _ (by simp [bel, h2]) hR.app Keep.app rfl rfl
    simp -failIfUnchanged (disch := first | assumption | omega | (refine room_i _ _ ?_ ?_ <;> omega) | (refine @_root_.id _ ?_; with_unfolding_all exact Eq.refl _) | (simp only [List.length_take, List.length_drop, List.length_append, List.length_cons, List.length_nil, List.length_replicate, List.length_map] <;> omega) | fail) only [rnL, opL, ruL, hpL, rsL, natL, outL, Nat.add_sub_cancel_left, Nat.mul_one, List.length_cons, List.length_nil, Nat.zero_add, Nat.add_zero, Nat.reduceAdd, Nat.reduceMul, Nat.reduceSub, Nat.reduceEqDiff, Nat.reduceLT, Nat.reduceLeDiff, litd_t, litd_f, decide_true, decide_false, Bool.not_true, Bool.not_false, not_true_eq_false, not_false_eq_true, true_and, and_true, false_and, and_false, true_or, or_true, false_or, or_false, Int.toNat_natCast, cond_true, cond_false, List.map_cons, List.map_nil, Option.map_some, Option.map_none, datL, encSn0, hxL, hR.len]
    refine Run_upto seen.length (fun i => [(0, AV.agg (Cel.enc T)), (1, AV.agg (Cel.enc x)), (2, w), (3, AV.ptr (List.length H) 1 0), (4, AV.ptr (List.length H + 1) 5 0), (6, AV.imm true 0 0 (some 0) []), (7, AV.bool false), (8, .int .i64 i), (24, .bool false)]) (fun _ => (H ++ [AObj.cells (Cel.enc T), AObj.cells (Cel.enc x)]) :: S) (fun i => ∀ j (hj : j < seen.length), j < i → seen[j].n ≠ x.n) ?_ rfl (fun j _ h => by omega) ?_
    · rfl
    intro i hi hP
    simp -failIfUnchanged (disch := first | assumption | omega | (refine room_i _ _ ?_ ?_ <;> omega) | (refine @_root_.id _ ?_; with_unfolding_all exact Eq.refl _) | (simp only [List.length_take, List.length_drop, List.length_append, List.length_cons, List.length_nil, List.length_replicate, List.length_map] <;> omega) | fail) only [rnL, opL, ruL, hpL, rsL, natL, outL, Nat.add_sub_cancel_left, Nat.mul_one, List.length_cons, List.length_nil, Nat.zero_add, Nat.add_zero, Nat.reduceAdd, Nat.reduceMul, Nat.reduceSub, Nat.reduceEqDiff, Nat.reduceLT, Nat.reduceLeDiff, litd_t, litd_f, decide_true, decide_false, Bool.not_true, Bool.not_false, not_true_eq_false, not_false_eq_true, true_and, and_true, false_and, and_false, true_or, or_true, false_or, or_false, Int.toNat_natCast, cond_true, cond_false, List.map_cons, List.map_nil, Option.map_some, Option.map_none, datL, encSn0, hxL, hR.len]
    (first | refine RunB_i (fun h3 => ?_) (fun h3 => ?_) | refine RunG_i (fun h3 => ?_) (fun h3 => ?_) | refine RunB_ib (fun h3 => ?_) (fun h3 => ?_))
    · have hi2 : i < seen.length := by omega
      obtain ⟨id', e1, e2, e3⟩ := hR.ixa (es := 5) (k := .i64) (H2 := H ++ [AObj.cells (Cel.enc T), AObj.cells (Cel.enc x)]) rfl (Int.natCast_nonneg i) h3
      have e4 : id' < H.length := Nat.lt_of_not_le fun h => by have := hR.bd h; rw [e3] at this; cases this
      have e5 := hat_app_lt (L := [AObj.cells (Cel.enc T), AObj.cells (Cel.enc x)]) e4
      rw [e2] at e5
      simp -failIfUnchanged (disch := first | assumption | omega | (refine room_i _ _ ?_ ?_ <;> omega) | (refine @_root_.id _ ?_; with_unfolding_all exact Eq.refl _) | (simp only [List.length_take, List.length_drop, List.length_append, List.length_cons, List.length_nil, List.length_replicate, List.length_map] <;> omega) | fail) only [rnL, opL, ruL, hpL, rsL, natL, outL, Nat.add_sub_cancel_left, Nat.mul_one, List.length_cons, List.length_nil, Nat.zero_add, Nat.add_zero, Nat.reduceAdd, Nat.reduceMul, Nat.reduceSub, Nat.reduceEqDiff, Nat.reduceLT, Nat.reduceLeDiff, litd_t, litd_f, decide_true, decide_false, Bool.not_true, Bool.not_false, not_true_eq_false, not_false_eq_true, true_and, and_true, false_and, and_false, true_or, or_true, false_or, or_false, Int.toNat_natCast, cond_true, cond_false, List.map_cons, List.map_nil, Option.map_some, Option.map_none, datL, encSn0, hxL, hR.len, e1, e5]
      (first | refine RunB_i (fun h4 => ?_) (fun h4 => ?_) | refine RunG_i (fun h4 => ?_) (fun h4 => ?_) | refine RunB_ib (fun h4 => ?_) (fun h4 => ?_))
      · simp -failIfUnchanged (disch := first | assumption | omega | (refine room_i _ _ ?_ ?_ <;> omega) | (refine @_root_.id _ ?_; with_unfolding_all exact Eq.refl _) | (simp only [List.length_take, List.length_drop, List.length_append, List.length_cons, List.length_nil, List.length_replicate, List.length_map] <;> omega) | fail) only [rnL, opL, ruL, hpL, rsL, natL, outL, Nat.add_sub_cancel_left, Nat.mul_one, List.length_cons, List.length_nil, Nat.zero_add, Nat.add_zero, Nat.reduceAdd, Nat.reduceMul, Nat.reduceSub, Nat.reduceEqDiff, Nat.reduceLT, Nat.reduceLeDiff, litd_t, litd_f, decide_true, decide_false, Bool.not_true, Bool.not_false, not_true_eq_false, not_false_eq_true, true_and, and_true, false_and, and_false, true_or, or_true, false_or, or_false, Int.toNat_natCast, cond_true, cond_false, List.map_cons, List.map_nil, Option.map_some, Option.map_none, datL, encSn0, hxL, hR.len]
        exact finb false seen w _ _ (by
          have : x.n ∈ seen.map Sn.n := h4 ▸ List.mem_map_of_mem (List.getElem_mem hi2)
          simp only [bel]
          rw [if_neg (by omega), if_pos this]) hR.app Keep.app rfl rfl
      · simp -failIfUnchanged (disch := first | assumption | omega | (refine room_i _ _ ?_ ?_ <;> omega) | (refine @_root_.id _ ?_; with_unfolding_all exact Eq.refl _) | (simp only [List.length_take, List.length_drop, List.length_append, List.length_cons, List.length_nil, List.length_replicate, List.length_map] <;> omega) | fail) only [rnL, opL, ruL, hpL, rsL, natL, outL, Nat.add_sub_cancel_left, Nat.mul_one, List.length_cons, List.length_nil, Nat.zero_add, Nat.add_zero, Nat.reduceAdd, Nat.reduceMul, Nat.reduceSub, Nat.reduceEqDiff, Nat.reduceLT, Nat.reduceLeDiff, litd_t, litd_f, decide_true, decide_false, Bool.not_true, Bool.not_false, not_true_eq_false, not_false_eq_true, true_and, and_true, false_and, and_false, true_or, or_true, false_or, or_false, Int.toNat_natCast, cond_true, cond_false, List.map_cons, List.map_nil, Option.map_some, Option.map_none, datL, encSn0, hxL, hR.len]
        exact .i hi2 (by first | exact trivial | rfl) (by first | exact trivial | rfl) (fun j hj hji => by
          rcases Nat.lt_succ_iff_lt_or_eq.mp hji with h6 | rfl
          · exact hP j hj h6
          · exact h4)
    have : i = seen.length := by omega
    subst this
    have h5 : x.n ∉ seen.map Sn.n := by
      intro h
      obtain ⟨y, hy, h6⟩ := List.mem_map.mp h
      obtain ⟨j, hj, rfl⟩ := List.getElem_of_mem hy
      exact hP j hj hj h6
    clear h3 hP hi
    have hx1 : 1 ≤ x.n := by omega
    have hx2 : x.n.toNat < T.nodes.l.length := by omega
    have eN : T.nodes.l[x.n.toNat] = nodeAt T x.n := nodeAt_get hx1 hx2
    have hN := hT.nodes x.n
    obtain ⟨w1, H1, e1, hR1, hK1⟩ := (hR.app (L := [AObj.cells (Cel.enc T), AObj.cells (Cel.enc x), AObj.cells (Cel.enc (nodeAt T x.n))])).append (es := 5) (bytes := 56) x rfl rfl (room_i _ _ (by omega) (by omega))
    have hlen : (H ++ [AObj.cells (Cel.enc T), AObj.cells (Cel.enc x), AObj.cells (Cel.enc (nodeAt T x.n))]).length = H.length + 3 := by simp
    have g0 : hat H1 H.length = .cells (Cel.enc T) := by rw [hK1.same _ (by omega) hw0]; simp -failIfUnchanged (disch := first | assumption | omega | (refine room_i _ _ ?_ ?_ <;> omega) | (refine @_root_.id _ ?_; with_unfolding_all exact Eq.refl _) | (simp only [List.length_take, List.length_drop, List.length_append, List.length_cons, List.length_nil, List.length_replicate, List.length_map] <;> omega) | fail) only [rnL, opL, ruL, hpL, rsL, natL, outL, Nat.add_sub_cancel_left, Nat.mul_one, List.length_cons, List.length_nil, Nat.zero_add, Nat.add_zero, Nat.reduceAdd, Nat.reduceMul, Nat.reduceSub, Nat.reduceEqDiff, Nat.reduceLT, Nat.reduceLeDiff, litd_t, litd_f, decide_true, decide_false, Bool.not_true, Bool.not_false, not_true_eq_false, not_false_eq_true, true_and, and_true, false_and, and_false, true_or, or_true, false_or, or_false, Int.toNat_natCast, cond_true, cond_false, List.map_cons, List.map_nil, Option.map_some, Option.map_none, hxL]
    have g1 : hat H1 (H.length + 1) = .cells (Cel.enc x) := by rw [hK1.same _ (by omega) hw1]; simp -failIfUnchanged (disch := first | assumption | omega | (refine room_i _ _ ?_ ?_ <;> omega) | (refine @_root_.id _ ?_; with_unfolding_all exact Eq.refl _) | (simp only [List.length_take, List.length_drop, List.length_append, List.length_cons, List.length_nil, List.length_replicate, List.length_map] <;> omega) | fail) only [rnL, opL, ruL, hpL, rsL, natL, outL, Nat.add_sub_cancel_left, Nat.mul_one, List.length_cons, List.length_nil, Nat.zero_add, Nat.add_zero, Nat.reduceAdd, Nat.reduceMul, Nat.reduceSub, Nat.reduceEqDiff, Nat.reduceLT, Nat.reduceLeDiff, litd_t, litd_f, decide_true, decide_false, Bool.not_true, Bool.not_false, not_true_eq_false, not_false_eq_true, true_and, and_true, false_and, and_false, true_or, or_true, false_or, or_false, Int.toNat_natCast, cond_true, cond_false, List.map_cons, List.map_nil, Option.map_some, Option.map_none, hxL]
    have g2 : hat H1 (H.length + 2) = .cells (Cel.enc (nodeAt T x.n)) := by rw [hK1.same _ (by omega) (hR.bd (by omega))]; simp -failIfUnchanged (disch := first | assumption | omega | (refine room_i _ _ ?_ ?_ <;> omega) | (refine @_root_.id _ ?_; with_unfolding_all exact Eq.refl _) | (simp only [List.length_take, List.length_drop, List.length_append, List.length_cons, List.length_nil, List.length_replicate, List.length_map] <;> omega) | fail) only [rnL, opL, ruL, hpL, rsL, natL, outL, Nat.add_sub_cancel_left, Nat.mul_one, List.length_cons, List.length_nil, Nat.zero_add, Nat.add_zero, Nat.reduceAdd, Nat.reduceMul, Nat.reduceSub, Nat.reduceEqDiff, Nat.reduceLT, Nat.reduceLeDiff, litd_t, litd_f, decide_true, decide_false, Bool.not_true, Bool.not_false, not_true_eq_false, not_false_eq_true, true_and, and_true, false_and, and_false, true_or, or_true, false_or, or_false, Int.toNat_natCast, cond_true, cond_false, List.map_cons, List.map_nil, Option.map_some, Option.map_none, hxL]
    have hKa : Keep H w H1 w1 := Keep.app.trans hK1
    have hw10 := hK1.at_ _ (by omega) hw0
    have hw11 := hK1.at_ _ (by omega) hw1
    have hw12 := hK1.at_ (H.length + 2) (by omega) (hR.bd (by omega))
    have hlen1 : H.length + 3 ≤ H1.length := by rw [← hlen]; exact hK1.len
    simp -failIfUnchanged (disch := first | assumption | omega | (refine room_i _ _ ?_ ?_ <;> omega) | (refine @_root_.id _ ?_; with_unfolding_all exact Eq.refl _) | (simp only [List.length_take, List.length_drop, List.length_append, List.length_cons, List.length_nil, List.length_replicate, List.length_map] <;> omega) | fail) only [rnL, opL, ruL, hpL, rsL, natL, outL, Nat.add_sub_cancel_left, Nat.mul_one, List.length_cons, List.length_nil, Nat.zero_add, Nat.add_zero, Nat.reduceAdd, Nat.reduceMul, Nat.reduceSub, Nat.reduceEqDiff, Nat.reduceLT, Nat.reduceLeDiff, litd_t, litd_f, decide_true, decide_false, Bool.not_true, Bool.not_false, not_true_eq_false, not_false_eq_true, true_and, and_true, false_and, and_false, true_or, or_true, false_or, or_false, Int.toNat_natCast, cond_true, cond_false, List.map_cons, List.map_nil, Option.map_some, Option.map_none, datL, encSn0, encSn1, encSn3, hxL, hR.len, eN, e1, g0, g1, g2, kind1, kind2]
    (first | refine RunB_i (fun h6 => ?_) (fun h6 => ?_) | refine RunG_i (fun h6 => ?_) (fun h6 => ?_) | refine RunB_ib (fun h6 => ?_) (fun h6 => ?_))
    · simp -failIfUnchanged (disch := first | assumption | omega | (refine room_i _ _ ?_ ?_ <;> omega) | (refine @_root_.id _ ?_; with_unfolding_all exact Eq.refl _) | (simp only [List.length_take, List.length_drop, List.length_append, List.length_cons, List.length_nil, List.length_replicate, List.length_map] <;> omega) | fail) only [rnL, opL, ruL, hpL, rsL, natL, outL, Nat.add_sub_cancel_left, Nat.mul_one, List.length_cons, List.length_nil, Nat.zero_add, Nat.add_zero, Nat.reduceAdd, Nat.reduceMul, Nat.reduceSub, Nat.reduceEqDiff, Nat.reduceLT, Nat.reduceLeDiff, litd_t, litd_f, decide_true, decide_false, Bool.not_true, Bool.not_false, not_true_eq_false, not_false_eq_true, true_and, and_true, false_and, and_false, true_or, or_true, false_or, or_false, Int.toNat_natCast, cond_true, cond_false, List.map_cons, List.map_nil, Option.map_some, Option.map_none, datL, encSn0, encSn1, encSn3, hxL, eN, e1, g0, g1, g2, kind1, kind2]
      (first | refine RunB_i (fun h7 => ?_) (fun h7 => ?_) | refine RunG_i (fun h7 => ?_) (fun h7 => ?_) | refine RunB_ib (fun h7 => ?_) (fun h7 => ?_))
      · simp -failIfUnchanged (disch := first | assumption | omega | (refine room_i _ _ ?_ ?_ <;> omega) | (refine @_root_.id _ ?_; with_unfolding_all exact Eq.refl _) | (simp only [List.length_take, List.length_drop, List.length_append, List.length_cons, List.length_nil, List.length_replicate, List.length_map] <;> omega) | fail) only [rnL, opL, ruL, hpL, rsL, natL, outL, Nat.add_sub_cancel_left, Nat.mul_one, List.length_cons, List.length_nil, Nat.zero_add, Nat.add_zero, Nat.reduceAdd, Nat.reduceMul, Nat.reduceSub, Nat.reduceEqDiff, Nat.reduceLT, Nat.reduceLeDiff, litd_t, litd_f, decide_true, decide_false, Bool.not_true, Bool.not_false, not_true_eq_false, not_false_eq_true, true_and, and_true, false_and, and_false, true_or, or_true, false_or, or_false, Int.toNat_natCast, cond_true, cond_false, List.map_cons, List.map_nil, Option.map_some, Option.map_none, datL, encSn0, encSn1, encSn3, hxL, eN, e1, g0, g1, g2, kind1, kind2]
        exact finb true (seen ++ [x]) w1 _ _ (by simp only [bel]; rw [if_neg (by omega), if_neg h5, if_pos ⟨h6, h7⟩]) hR1 hKa rfl rfl
      · simp -failIfUnchanged (disch := first | assumption | omega | (refine room_i _ _ ?_ ?_ <;> omega) | (refine @_root_.id _ ?_; with_unfolding_all exact Eq.refl _) | (simp only [List.length_take, List.length_drop, List.length_append, List.length_cons, List.length_nil, List.length_replicate, List.length_map] <;> omega) | fail) only [rnL, opL, ruL, hpL, rsL, natL, outL, Nat.add_sub_cancel_left, Nat.mul_one, List.length_cons, List.length_nil, Nat.zero_add, Nat.add_zero, Nat.reduceAdd, Nat.reduceMul, Nat.reduceSub, Nat.reduceEqDiff, Nat.reduceLT, Nat.reduceLeDiff, litd_t, litd_f, decide_true, decide_false, Bool.not_true, Bool.not_false, not_true_eq_false, not_false_eq_true, true_and, and_true, false_and, and_false, true_or, or_true, false_or, or_false, Int.toNat_natCast, cond_true, cond_false, List.map_cons, List.map_nil, Option.map_some, Option.map_none, datL, encSn0, encSn1, encSn3, hxL, eN, e1, g0, g1, g2, kind1, kind2, h6, k12]
        exact finb false (seen ++ [x]) w1 _ _ (by simp only [bel]; rw [if_neg (by omega), if_neg h5, if_neg (fun h => h7 h.2), if_pos (.inl (by rw [h6]; decide))]) hR1 hKa rfl rfl
    simp -failIfUnchanged (disch := first | assumption | omega | (refine room_i _ _ ?_ ?_ <;> omega) | (refine @_root_.id _ ?_; with_unfolding_all exact Eq.refl _) | (simp only [List.length_take, List.length_drop, List.length_append, List.length_cons, List.length_nil, List.length_replicate, List.length_map] <;> omega) | fail) only [rnL, opL, ruL, hpL, rsL, natL, outL, Nat.add_sub_cancel_left, Nat.mul_one, List.length_cons, List.length_nil, Nat.zero_add, Nat.add_zero, Nat.reduceAdd, Nat.reduceMul, Nat.reduceSub, Nat.reduceEqDiff, Nat.reduceLT, Nat.reduceLeDiff, litd_t, litd_f, decide_true, decide_false, Bool.not_true, Bool.not_false, not_true_eq_false, not_false_eq_true, true_and, and_true, false_and, and_false, true_or, or_true, false_or, or_false, Int.toNat_natCast, cond_true, cond_false, List.map_cons, List.map_nil, Option.map_some, Option.map_none, datL, encSn0, encSn1, encSn3, hxL, eN, e1, g0, g1, g2, kind1, kind2, h6]
    by_cases h8 : (nodeAt T x.n).kind ≠ 2 ∨ (nodeAt T x.n).kids.l.length ≠ (nodeAt T x.n).pivots.l.length + 1 ∨ ¬ rightP (nodeAt T x.n).pivots.l x.r
    · have eB : bel T (k + 1) x seen = (seen ++ [x], false) := by
        simp only [bel]; rw [if_neg (by omega), if_neg h5, if_neg (fun h => h6 h.1), if_pos h8]
      by_cases h9 : (nodeAt T x.n).kind = 2
      · by_cases h10 : ((nodeAt T x.n).kids.l.length : Int) = ((nodeAt T x.n).pivots.l.length : Int) + 1
        · have h11 : ¬ rightP (nodeAt T x.n).pivots.l x.r := by
            rcases h8 with h | h | h
            · exact absurd h9 h
            · omega
            · exact h
          simp -failIfUnchanged (disch := first | assumption | omega | (refine room_i _ _ ?_ ?_ <;> omega) | (refine @_root_.id _ ?_; with_unfolding_all exact Eq.refl _) | (simp only [List.length_take, List.length_drop, List.length_append, List.length_cons, List.length_nil, List.length_replicate, List.length_map] <;> omega) | fail) only [rnL, opL, ruL, hpL, rsL, natL, outL, Nat.add_sub_cancel_left, Nat.mul_one, List.length_cons, List.length_nil, Nat.zero_add, Nat.add_zero, Nat.reduceAdd, Nat.reduceMul, Nat.reduceSub, Nat.reduceEqDiff, Nat.reduceLT, Nat.reduceLeDiff, litd_t, litd_f, decide_true, decide_false, Bool.not_true, Bool.not_false, not_true_eq_false, not_false_eq_true, true_and, and_true, false_and, and_false, true_or, or_true, false_or, or_false, Int.toNat_natCast, cond_true, cond_false, List.map_cons, List.map_nil, Option.map_some, Option.map_none, datL, encSn0, encSn1, encSn3, hxL, g0, g1, g2, kind1, kind2, h9, h10, rightRef_p, h11]
          exact finb false (seen ++ [x]) w1 _ _ eB hR1 hKa rfl rfl
        · simp -failIfUnchanged (disch := first | assumption | omega | (refine room_i _ _ ?_ ?_ <;> omega) | (refine @_root_.id _ ?_; with_unfolding_all exact Eq.refl _) | (simp only [List.length_take, List.length_drop, List.length_append, List.length_cons, List.length_nil, List.length_replicate, List.length_map] <;> omega) | fail) only [rnL, opL, ruL, hpL, rsL, natL, outL, Nat.add_sub_cancel_left, Nat.mul_one, List.length_cons, List.length_nil, Nat.zero_add, Nat.add_zero, Nat.reduceAdd, Nat.reduceMul, Nat.reduceSub, Nat.reduceEqDiff, Nat.reduceLT, Nat.reduceLeDiff, litd_t, litd_f, decide_true, decide_false, Bool.not_true, Bool.not_false, not_true_eq_false, not_false_eq_true, true_and, and_true, false_and, and_false, true_or, or_true, false_or, or_false, Int.toNat_natCast, cond_true, cond_false, List.map_cons, List.map_nil, Option.map_some, Option.map_none, datL, encSn0, encSn1, encSn3, hxL, g0, g1, g2, kind1, kind2, h9, h10]
          exact finb false (seen ++ [x]) w1 _ _ eB hR1 hKa rfl rfl
      · simp -failIfUnchanged (disch := first | assumption | omega | (refine room_i _ _ ?_ ?_ <;> omega) | (refine @_root_.id _ ?_; with_unfolding_all exact Eq.refl _) | (simp only [List.length_take, List.length_drop, List.length_append, List.length_cons, List.length_nil, List.length_replicate, List.length_map] <;> omega) | fail) only [rnL, opL, ruL, hpL, rsL, natL, outL, Nat.add_sub_cancel_left, Nat.mul_one, List.length_cons, List.length_nil, Nat.zero_add, Nat.add_zero, Nat.reduceAdd, Nat.reduceMul, Nat.reduceSub, Nat.reduceEqDiff, Nat.reduceLT, Nat.reduceLeDiff, litd_t, litd_f, decide_true, decide_false, Bool.not_true, Bool.not_false, not_true_eq_false, not_false_eq_true, true_and, and_true, false_and, and_false, true_or, or_true, false_or, or_false, Int.toNat_natCast, cond_true, cond_false, List.map_cons, List.map_nil, Option.map_some, Option.map_none, datL, encSn0, encSn1, encSn3, hxL, g0, g1, g2, kind1, kind2, h9]
        exact finb false (seen ++ [x]) w1 _ _ eB hR1 hKa rfl rfl
    · have h9 : (nodeAt T x.n).kind = 2 := Decidable.byContradiction fun h => h8 (.inl h)
      have h10' : (nodeAt T x.n).kids.l.length = (nodeAt T x.n).pivots.l.length + 1 := Decidable.byContradiction fun h => h8 (.inr (.inl h))
      have h10 : ((nodeAt T x.n).kids.l.length : Int) = ((nodeAt T x.n).pivots.l.length : Int) + 1 := by omega
      have h11 : rightP (nodeAt T x.n).pivots.l x.r := Decidable.byContradiction fun h => h8 (.inr (.inr h))
      have eB : bel T (k + 1) x seen = kidsB (bel T k) (nodeAt T x.n).kids.l x.n (spanAt (nodeAt T x.n).pivots.l x.r) (nodeAt T x.n).kids.l.length 0 (seen ++ [x]) := by
        simp only [bel]; rw [if_neg (by omega), if_neg h5, if_neg (fun h => h6 h.1), if_neg h8]
      simp -failIfUnchanged (disch := first | assumption | omega | (refine room_i _ _ ?_ ?_ <;> omega) | (refine @_root_.id _ ?_; with_unfolding_all exact Eq.refl _) | (simp only [List.length_take, List.length_drop, List.length_append, List.length_cons, List.length_nil, List.length_replicate, List.length_map] <;> omega) | fail) only [rnL, opL, ruL, hpL, rsL, natL, outL, Nat.add_sub_cancel_left, Nat.mul_one, List.length_cons, List.length_nil, Nat.zero_add, Nat.add_zero, Nat.reduceAdd, Nat.reduceMul, Nat.reduceSub, Nat.reduceEqDiff, Nat.reduceLT, Nat.reduceLeDiff, litd_t, litd_f, decide_true, decide_false, Bool.not_true, Bool.not_false, not_true_eq_false, not_false_eq_true, true_and, and_true, false_and, and_false, true_or, or_true, false_or, or_false, Int.toNat_natCast, cond_true, cond_false, List.map_cons, List.map_nil, Option.map_some, Option.map_none, datL, encSn0, encSn1, encSn3, hxL, g0, g1, g2, kind1, kind2, h9, h10, rightRef_p, h11, spansRef_is, if_pos h11, if_true]
      refine Run_loop (σ := Nat × List Sn × AV × Heap) (fun q => [(0, AV.agg (Cel.enc T)), (1, AV.agg (Cel.enc x)), (2, q.2.2.1), (3, AV.ptr (List.length H) 1 0), (4, AV.ptr (List.length H + 1) 5 0), (6, AV.imm true 0 0 (some 0) []), (7, AV.bool false),
        (8, AV.int IntKind.i64 ↑seen.length), (9, AV.ptr (List.length H + 2) 5 0), (10, sl false (spl (nodeAt T x.n).pivots.l x.r ((nodeAt T x.n).pivots.l.length + 1))), (11, AV.int IntKind.i64 (q.1 : Nat)), (24, AV.bool false), (58, AV.bool false), (80, AV.bool false)]) (fun q => q.2.2.2 :: S)
        (fun q => q.1 ≤ (nodeAt T x.n).kids.l.length ∧ Row nl q.2.2.2 q.2.2.1 q.2.1 ∧ Keep H1 w1 q.2.2.2 q.2.2.1 ∧ left T q.2.1 < k ∧ q.2.1.length + left T q.2.1 ≤ 2000 ∧ bel T (k + 1) x seen = kidsB (bel T k) (nodeAt T x.n).kids.l x.n (spanAt (nodeAt T x.n).pivots.l x.r) ((nodeAt T x.n).kids.l.length - q.1) q.1 q.2.1)
        (fun q => (nodeAt T x.n).kids.l.length - q.1) (0, seen ++ [x], w1, H1) rfl rfl ⟨Nat.zero_le _, hR1, Keep.refl _ _, ?_, ?_, eB⟩ ?_
      · have := left_add hx1 hx2 h5; show left T (seen ++ [x]) < k; omega
      · have := left_add hx1 hx2 h5; show (seen ++ [x]).length + left T (seen ++ [x]) ≤ 2000; rw [List.length_append, List.length_singleton]; omega
      rintro ⟨i, s1, w2, H2⟩ ⟨hi, hR2, hK2, hl2, hb2, eB2⟩
      simp only at hi hR2 hK2 hl2 hb2 eB2 ⊢
      have j0 : hat H2 H.length = .cells (Cel.enc T) := by rw [hK2.same _ (by omega) hw10, g0]
      have j1 : hat H2 (H.length + 1) = .cells (Cel.enc x) := by rw [hK2.same _ (by omega) hw11, g1]
      have j2 : hat H2 (H.length + 2) = .cells (Cel.enc (nodeAt T x.n)) := by rw [hK2.same _ (by omega) hw12, g2]
      simp -failIfUnchanged (disch := first | assumption | omega | (refine room_i _ _ ?_ ?_ <;> omega) | (refine @_root_.id _ ?_; with_unfolding_all exact Eq.refl _) | (simp only [List.length_take, List.length_drop, List.length_append, List.length_cons, List.length_nil, List.length_replicate, List.length_map] <;> omega) | fail) only [rnL, opL, ruL, hpL, rsL, natL, outL, Nat.add_sub_cancel_left, Nat.mul_one, List.length_cons, List.length_nil, Nat.zero_add, Nat.add_zero, Nat.reduceAdd, Nat.reduceMul, Nat.reduceSub, Nat.reduceEqDiff, Nat.reduceLT, Nat.reduceLeDiff, litd_t, litd_f, decide_true, decide_false, Bool.not_true, Bool.not_false, not_true_eq_false, not_false_eq_true, true_and, and_true, false_and, and_false, true_or, or_true, false_or, or_false, Int.toNat_natCast, cond_true, cond_false, List.map_cons, List.map_nil, Option.map_some, Option.map_none, datL, encSn0, encSn1, encSn3, hxL, j0, j1, j2]
      (first | refine RunB_i (fun h12 => ?_) (fun h12 => ?_) | refine RunG_i (fun h12 => ?_) (fun h12 => ?_) | refine RunB_ib (fun h12 => ?_) (fun h12 => ?_))
      · have hi2 : i < (nodeAt T x.n).kids.l.length := by omega
        have hs := spl_len (nodeAt T x.n).pivots.l x.r ((nodeAt T x.n).pivots.l.length + 1)
        have e2 : (spl (nodeAt T x.n).pivots.l x.r ((nodeAt T x.n).pivots.l.length + 1))[i]'(by omega) = spanAt (nodeAt T x.n).pivots.l x.r i := by simp [spl]
        have e3 : (nodeAt T x.n).kids.l[i] = (nodeAt T x.n).kids.l.getD i 0 := by simp [List.getD_eq_getElem?_getD, hi2]
        simp -failIfUnchanged (disch := first | assumption | omega | (refine room_i _ _ ?_ ?_ <;> omega) | (refine @_root_.id _ ?_; with_unfolding_all exact Eq.refl _) | (simp only [List.length_take, List.length_drop, List.length_append, List.length_cons, List.length_nil, List.length_replicate, List.length_map] <;> omega) | fail) only [rnL, opL, ruL, hpL, rsL, natL, outL, Nat.add_sub_cancel_left, Nat.mul_one, List.length_cons, List.length_nil, Nat.zero_add, Nat.add_zero, Nat.reduceAdd, Nat.reduceMul, Nat.reduceSub, Nat.reduceEqDiff, Nat.reduceLT, Nat.reduceLeDiff, litd_t, litd_f, decide_true, decide_false, Bool.not_true, Bool.not_false, not_true_eq_false, not_false_eq_true, true_and, and_true, false_and, and_false, true_or, or_true, false_or, or_false, Int.toNat_natCast, cond_true, cond_false, List.map_cons, List.map_nil, Option.map_some, Option.map_none, datL, encSn0, encSn1, encSn3, hxL, j0, j1, j2, buildSn, e2, e3]
        obtain ⟨v, S2, hr, w3, H3, rfl, rfl, hR3, hK3⟩ := below_is T hT k ⟨(nodeAt T x.n).kids.l.getD i 0, spanAt (nodeAt T x.n).pivots.l x.r i, x.n, i⟩ s1 H2 S w2 hR2 hl2 hb2
        have hm := bel_m T k ⟨(nodeAt T x.n).kids.l.getD i 0, spanAt (nodeAt T x.n).pivots.l x.r i, x.n, i⟩ s1
        have e4 : (nodeAt T x.n).kids.l.length - i = ((nodeAt T x.n).kids.l.length - (i + 1)) + 1 := by omega
        refine RunC_r hr ?_
        simp -failIfUnchanged (disch := first | assumption | omega | (refine room_i _ _ ?_ ?_ <;> omega) | (refine @_root_.id _ ?_; with_unfolding_all exact Eq.refl _) | (simp only [List.length_take, List.length_drop, List.length_append, List.length_cons, List.length_nil, List.length_replicate, List.length_map] <;> omega) | fail) only [rnL, opL, ruL, hpL, rsL, natL, outL, Nat.add_sub_cancel_left, Nat.mul_one, List.length_cons, List.length_nil, Nat.zero_add, Nat.add_zero, Nat.reduceAdd, Nat.reduceMul, Nat.reduceSub, Nat.reduceEqDiff, Nat.reduceLT, Nat.reduceLeDiff, litd_t, litd_f, decide_true, decide_false, Bool.not_true, Bool.not_false, not_true_eq_false, not_false_eq_true, true_and, and_true, false_and, and_false, true_or, or_true, false_or, or_false, Int.toNat_natCast, cond_true, cond_false, List.map_cons, List.map_nil, Option.map_some, Option.map_none]
        (first | refine RunB_i (fun h13 => ?_) (fun h13 => ?_) | refine RunG_i (fun h13 => ?_) (fun h13 => ?_) | refine RunB_ib (fun h13 => ?_) (fun h13 => ?_))
        · simp -failIfUnchanged (disch := first | assumption | omega | (refine room_i _ _ ?_ ?_ <;> omega) | (refine @_root_.id _ ?_; with_unfolding_all exact Eq.refl _) | (simp only [List.length_take, List.length_drop, List.length_append, List.length_cons, List.length_nil, List.length_replicate, List.length_map] <;> omega) | fail) only [rnL, opL, ruL, hpL, rsL, natL, outL, Nat.add_sub_cancel_left, Nat.mul_one, List.length_cons, List.length_nil, Nat.zero_add, Nat.add_zero, Nat.reduceAdd, Nat.reduceMul, Nat.reduceSub, Nat.reduceEqDiff, Nat.reduceLT, Nat.reduceLeDiff, litd_t, litd_f, decide_true, decide_false, Bool.not_true, Bool.not_false, not_true_eq_false, not_false_eq_true, true_and, and_true, false_and, and_false, true_or, or_true, false_or, or_false, Int.toNat_natCast, cond_true, cond_false, List.map_cons, List.map_nil, Option.map_some, Option.map_none]
          have h13 : (bel T k ⟨(nodeAt T x.n).kids.l.getD i 0, spanAt (nodeAt T x.n).pivots.l x.r i, x.n, i⟩ s1).2 = false := by simpa using h13
          refine finb false _ w3 H3 _ ?_ hR3 ((hKa.trans hK2).trans hK3) rfl rfl
          rw [eB2, e4, kidsB, if_neg (by rw [h13]; simp)]
        · simp -failIfUnchanged (disch := first | assumption | omega | (refine room_i _ _ ?_ ?_ <;> omega) | (refine @_root_.id _ ?_; with_unfolding_all exact Eq.refl _) | (simp only [List.length_take, List.length_drop, List.length_append, List.length_cons, List.length_nil, List.length_replicate, List.length_map] <;> omega) | fail) only [rnL, opL, ruL, hpL, rsL, natL, outL, Nat.add_sub_cancel_left, Nat.mul_one, List.length_cons, List.length_nil, Nat.zero_add, Nat.add_zero, Nat.reduceAdd, Nat.reduceMul, Nat.reduceSub, Nat.reduceEqDiff, Nat.reduceLT, Nat.reduceLeDiff, litd_t, litd_f, decide_true, decide_false, Bool.not_true, Bool.not_false, not_true_eq_false, not_false_eq_true, true_and, and_true, false_and, and_false, true_or, or_true, false_or, or_false, Int.toNat_natCast, cond_true, cond_false, List.map_cons, List.map_nil, Option.map_some, Option.map_none]
          have h13 : (bel T k ⟨(nodeAt T x.n).kids.l.getD i 0, spanAt (nodeAt T x.n).pivots.l x.r i, x.n, i⟩ s1).2 = true := by simpa using h13
          refine Next.i (i + 1, _, w3, H3) rfl rfl ⟨hi2, hR3, hK2.trans hK3, Nat.lt_of_le_of_lt hm.1 hl2, Nat.le_trans hm.2 hb2, ?_⟩ (by simp only; omega)
          rw [eB2, e4, kidsB, if_pos h13]
      · have : i = (nodeAt T x.n).kids.l.length := by omega
        subst this
        simp -failIfUnchanged (disch := first | assumption | omega | (refine room_i _ _ ?_ ?_ <;> omega) | (refine @_root_.id _ ?_; with_unfolding_all exact Eq.refl _) | (simp only [List.length_take, List.length_drop, List.length_append, List.length_cons, List.length_nil, List.length_replicate, List.length_map] <;> omega) | fail) only [rnL, opL, ruL, hpL, rsL, natL, outL, Nat.add_sub_cancel_left, Nat.mul_one, List.length_cons, List.length_nil, Nat.zero_add, Nat.add_zero, Nat.reduceAdd, Nat.reduceMul, Nat.reduceSub, Nat.reduceEqDiff, Nat.reduceLT, Nat.reduceLeDiff, litd_t, litd_f, decide_true, decide_false, Bool.not_true, Bool.not_false, not_true_eq_false, not_false_eq_true, true_and, and_true, false_and, and_false, true_or, or_true, false_or, or_false, Int.toNat_natCast, cond_true, cond_false, List.map_cons, List.map_nil, Option.map_some, Option.map_none, datL, encSn0, encSn1, encSn3, hxL, j0, j1, j2]
        rw [Nat.sub_self] at eB2
        exact finb true s1 w2 _ _ eB2 hR2 (hKa.trans hK2) rfl rfl
end Go.AS.Th
