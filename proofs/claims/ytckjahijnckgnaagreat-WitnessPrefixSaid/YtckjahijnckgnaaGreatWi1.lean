import Derived.Test.YtckjahijnckgnaaGreatWi0
import Derived.Test.YtckjahijnckgnaaGreatRn0
set_option linter.all false
namespace Go.AS.Wi
open Go Go.AS Go.Proofs
set_option maxHeartbeats 1000000
set_option maxRecDepth 4000
theorem opV_faddr2 {α : Type} [Cel α] {H : Heap} {l : List α} {i k o : Nat} : opV H (.faddr o (.c (flp l i k))) = some (flp l i (k + o), H) := by
  unfold flp
  simp only [opV, evOp, Opd.ev, Nat.add_assoc]
  rfl
/-- A history that is not too long. -/
def few1 (d : Don) : Prop := d.op.batch.l.length ≤ 20 ∧ d.reply.entries.l.length ≤ 40
def few (h : List Don) : Prop := h.length ≤ 40 ∧ ∀ d ∈ h, few1 d
instance (d : Don) : Decidable (few1 d) := by unfold few1; infer_instance
instance (h : List Don) : Decidable (few h) := by unfold few; infer_instance
theorem few_gives (nl : Bool) (h : List Don) : Gives F 6 [sl nl h] (.bool (decide (few h))) := by
  refine Gives.of fn_r30_Few rfl rfl (args' := [sl nl h]) (by simp only [mapO_nil, mapO_c2, consO_some, upf_v]) ?_
  simp only [ir_r30_Few]
  simp -failIfUnchanged (disch := first | assumption | omega | (refine room_i _ _ ?_ ?_ <;> omega) | (refine @_root_.id _ ?_; with_unfolding_all exact Eq.refl _) | (simp only [List.length_take, List.length_drop, List.length_append, List.length_cons, List.length_nil, List.length_replicate, List.length_map] <;> omega) | fail) only [rnL, opL, ruL, hpL, rsL, natL, outL, Nat.add_sub_cancel_left, Nat.mul_one, List.length_cons, List.length_nil, Nat.zero_add, Nat.add_zero, Nat.reduceAdd, Nat.reduceMul, Nat.reduceSub, Nat.reduceEqDiff, Nat.reduceLT, Nat.reduceLeDiff, litd_t, litd_f, decide_true, decide_false, Bool.not_true, Bool.not_false, not_true_eq_false, not_false_eq_true, true_and, and_true, false_and, and_false, true_or, or_true, false_or, or_false, Int.toNat_natCast, cond_true, cond_false, List.map_cons, List.map_nil, Option.map_some, Option.map_none]
  (first | refine RunB_i (fun h1 => ?_) (fun h1 => ?_) | refine RunG_i (fun h1 => ?_) (fun h1 => ?_) | refine RunB_ib (fun h1 => ?_) (fun h1 => ?_))
  · simp -failIfUnchanged (disch := first | assumption | omega | (refine room_i _ _ ?_ ?_ <;> omega) | (refine @_root_.id _ ?_; with_unfolding_all exact Eq.refl _) | (simp only [List.length_take, List.length_drop, List.length_append, List.length_cons, List.length_nil, List.length_replicate, List.length_map] <;> omega) | fail) only [rnL, opL, ruL, hpL, rsL, natL, outL, Nat.add_sub_cancel_left, Nat.mul_one, List.length_cons, List.length_nil, Nat.zero_add, Nat.add_zero, Nat.reduceAdd, Nat.reduceMul, Nat.reduceSub, Nat.reduceEqDiff, Nat.reduceLT, Nat.reduceLeDiff, litd_t, litd_f, decide_true, decide_false, Bool.not_true, Bool.not_false, not_true_eq_false, not_false_eq_true, true_and, and_true, false_and, and_false, true_or, or_true, false_or, or_false, Int.toNat_natCast, cond_true, cond_false, List.map_cons, List.map_nil, Option.map_some, Option.map_none]
    (refine Fin_g (.inr rfl) (by simp -failIfUnchanged (disch := first | assumption | omega | (refine room_i _ _ ?_ ?_ <;> omega) | (refine @_root_.id _ ?_; with_unfolding_all exact Eq.refl _) | (simp only [List.length_take, List.length_drop, List.length_append, List.length_cons, List.length_nil, List.length_replicate, List.length_map] <;> omega) | fail) only [rnL, opL, ruL, hpL, rsL, natL, outL, Nat.add_sub_cancel_left, Nat.mul_one, List.length_cons, List.length_nil, Nat.zero_add, Nat.add_zero, Nat.reduceAdd, Nat.reduceMul, Nat.reduceSub, Nat.reduceEqDiff, Nat.reduceLT, Nat.reduceLeDiff, litd_t, litd_f, decide_true, decide_false, Bool.not_true, Bool.not_false, not_true_eq_false, not_false_eq_true, true_and, and_true, false_and, and_false, true_or, or_true, false_or, or_false, Int.toNat_natCast, cond_true, cond_false, List.map_cons, List.map_nil, Option.map_some, Option.map_none]; rfl) ?_; simp -failIfUnchanged (disch := first | assumption | omega | (refine room_i _ _ ?_ ?_ <;> omega) | (refine @_root_.id _ ?_; with_unfolding_all exact Eq.refl _) | (simp only [List.length_take, List.length_drop, List.length_append, List.length_cons, List.length_nil, List.length_replicate, List.length_map] <;> omega) | fail) only [rnL, opL, ruL, hpL, rsL, natL, outL, Nat.add_sub_cancel_left, Nat.mul_one, List.length_cons, List.length_nil, Nat.zero_add, Nat.add_zero, Nat.reduceAdd, Nat.reduceMul, Nat.reduceSub, Nat.reduceEqDiff, Nat.reduceLT, Nat.reduceLeDiff, litd_t, litd_f, decide_true, decide_false, Bool.not_true, Bool.not_false, not_true_eq_false, not_false_eq_true, true_and, and_true, false_and, and_false, true_or, or_true, false_or, or_false, Int.toNat_natCast, cond_true, cond_false, List.map_cons, List.map_nil, Option.map_some, Option.map_none])
    rw [decide_eq_false]
    exact fun hf => by have := hf.1; omega
  · simp -failIfUnchanged (disch := first | assumption | omega | (refine room_i _ _ ?_ ?_ <;> omega) | (refine @_root_.id _ ?_; with_unfolding_all exact Eq.refl _) | (simp only [List.length_take, List.length_drop, List.length_append, List.length_cons, List.length_nil, List.length_replicate, List.length_map] <;> omega) | fail) only [rnL, opL, ruL, hpL, rsL, natL, outL, Nat.add_sub_cancel_left, Nat.mul_one, List.length_cons, List.length_nil, Nat.zero_add, Nat.add_zero, Nat.reduceAdd, Nat.reduceMul, Nat.reduceSub, Nat.reduceEqDiff, Nat.reduceLT, Nat.reduceLeDiff, litd_t, litd_f, decide_true, decide_false, Bool.not_true, Bool.not_false, not_true_eq_false, not_false_eq_true, true_and, and_true, false_and, and_false, true_or, or_true, false_or, or_false, Int.toNat_natCast, cond_true, cond_false, List.map_cons, List.map_nil, Option.map_some, Option.map_none]
    refine Run_upto h.length (fun i => [(0, sl nl h), (2, .bool false), (3, AV.int IntKind.i64 (i : Nat)), (6, .bool false)]) (fun _ => [[]]) (fun i => ∀ j (hj : j < h.length), j < i → few1 h[j]) rfl rfl (fun j _ hj => by omega) ?_
    intro i hi hP
    simp -failIfUnchanged (disch := first | assumption | omega | (refine room_i _ _ ?_ ?_ <;> omega) | (refine @_root_.id _ ?_; with_unfolding_all exact Eq.refl _) | (simp only [List.length_take, List.length_drop, List.length_append, List.length_cons, List.length_nil, List.length_replicate, List.length_map] <;> omega) | fail) only [rnL, opL, ruL, hpL, rsL, natL, outL, Nat.add_sub_cancel_left, Nat.mul_one, List.length_cons, List.length_nil, Nat.zero_add, Nat.add_zero, Nat.reduceAdd, Nat.reduceMul, Nat.reduceSub, Nat.reduceEqDiff, Nat.reduceLT, Nat.reduceLeDiff, litd_t, litd_f, decide_true, decide_false, Bool.not_true, Bool.not_false, not_true_eq_false, not_false_eq_true, true_and, and_true, false_and, and_false, true_or, or_true, false_or, or_false, Int.toNat_natCast, cond_true, cond_false, List.map_cons, List.map_nil, Option.map_some, Option.map_none]
    (first | refine RunB_i (fun h2 => ?_) (fun h2 => ?_) | refine RunG_i (fun h2 => ?_) (fun h2 => ?_) | refine RunB_ib (fun h2 => ?_) (fun h2 => ?_))
    · have hlt : i < h.length := by omega
      simp -failIfUnchanged (disch := first | assumption | omega | (refine room_i _ _ ?_ ?_ <;> omega) | (refine @_root_.id _ ?_; with_unfolding_all exact Eq.refl _) | (simp only [List.length_take, List.length_drop, List.length_append, List.length_cons, List.length_nil, List.length_replicate, List.length_map] <;> omega) | fail) only [rnL, opL, ruL, hpL, rsL, natL, outL, Nat.add_sub_cancel_left, Nat.mul_one, List.length_cons, List.length_nil, Nat.zero_add, Nat.add_zero, Nat.reduceAdd, Nat.reduceMul, Nat.reduceSub, Nat.reduceEqDiff, Nat.reduceLT, Nat.reduceLeDiff, litd_t, litd_f, decide_true, decide_false, Bool.not_true, Bool.not_false, not_true_eq_false, not_false_eq_true, true_and, and_true, false_and, and_false, true_or, or_true, false_or, or_false, Int.toNat_natCast, cond_true, cond_false, List.map_cons, List.map_nil, Option.map_some, Option.map_none, datL, opV_faddr2]
      (first | refine RunB_i (fun h3 => ?_) (fun h3 => ?_) | refine RunG_i (fun h3 => ?_) (fun h3 => ?_) | refine RunB_ib (fun h3 => ?_) (fun h3 => ?_))
      · simp -failIfUnchanged (disch := first | assumption | omega | (refine room_i _ _ ?_ ?_ <;> omega) | (refine @_root_.id _ ?_; with_unfolding_all exact Eq.refl _) | (simp only [List.length_take, List.length_drop, List.length_append, List.length_cons, List.length_nil, List.length_replicate, List.length_map] <;> omega) | fail) only [rnL, opL, ruL, hpL, rsL, natL, outL, Nat.add_sub_cancel_left, Nat.mul_one, List.length_cons, List.length_nil, Nat.zero_add, Nat.add_zero, Nat.reduceAdd, Nat.reduceMul, Nat.reduceSub, Nat.reduceEqDiff, Nat.reduceLT, Nat.reduceLeDiff, litd_t, litd_f, decide_true, decide_false, Bool.not_true, Bool.not_false, not_true_eq_false, not_false_eq_true, true_and, and_true, false_and, and_false, true_or, or_true, false_or, or_false, Int.toNat_natCast, cond_true, cond_false, List.map_cons, List.map_nil, Option.map_some, Option.map_none, datL, opV_faddr2]
        (refine Fin_g (.inr rfl) (by simp -failIfUnchanged (disch := first | assumption | omega | (refine room_i _ _ ?_ ?_ <;> omega) | (refine @_root_.id _ ?_; with_unfolding_all exact Eq.refl _) | (simp only [List.length_take, List.length_drop, List.length_append, List.length_cons, List.length_nil, List.length_replicate, List.length_map] <;> omega) | fail) only [rnL, opL, ruL, hpL, rsL, natL, outL, Nat.add_sub_cancel_left, Nat.mul_one, List.length_cons, List.length_nil, Nat.zero_add, Nat.add_zero, Nat.reduceAdd, Nat.reduceMul, Nat.reduceSub, Nat.reduceEqDiff, Nat.reduceLT, Nat.reduceLeDiff, litd_t, litd_f, decide_true, decide_false, Bool.not_true, Bool.not_false, not_true_eq_false, not_false_eq_true, true_and, and_true, false_and, and_false, true_or, or_true, false_or, or_false, Int.toNat_natCast, cond_true, cond_false, List.map_cons, List.map_nil, Option.map_some, Option.map_none]; rfl) ?_; simp -failIfUnchanged (disch := first | assumption | omega | (refine room_i _ _ ?_ ?_ <;> omega) | (refine @_root_.id _ ?_; with_unfolding_all exact Eq.refl _) | (simp only [List.length_take, List.length_drop, List.length_append, List.length_cons, List.length_nil, List.length_replicate, List.length_map] <;> omega) | fail) only [rnL, opL, ruL, hpL, rsL, natL, outL, Nat.add_sub_cancel_left, Nat.mul_one, List.length_cons, List.length_nil, Nat.zero_add, Nat.add_zero, Nat.reduceAdd, Nat.reduceMul, Nat.reduceSub, Nat.reduceEqDiff, Nat.reduceLT, Nat.reduceLeDiff, litd_t, litd_f, decide_true, decide_false, Bool.not_true, Bool.not_false, not_true_eq_false, not_false_eq_true, true_and, and_true, false_and, and_false, true_or, or_true, false_or, or_false, Int.toNat_natCast, cond_true, cond_false, List.map_cons, List.map_nil, Option.map_some, Option.map_none])
        rw [decide_eq_false]
        exact fun hf => by have := (hf.2 h[i] (List.getElem_mem hlt)).1; omega
      · simp -failIfUnchanged (disch := first | assumption | omega | (refine room_i _ _ ?_ ?_ <;> omega) | (refine @_root_.id _ ?_; with_unfolding_all exact Eq.refl _) | (simp only [List.length_take, List.length_drop, List.length_append, List.length_cons, List.length_nil, List.length_replicate, List.length_map] <;> omega) | fail) only [rnL, opL, ruL, hpL, rsL, natL, outL, Nat.add_sub_cancel_left, Nat.mul_one, List.length_cons, List.length_nil, Nat.zero_add, Nat.add_zero, Nat.reduceAdd, Nat.reduceMul, Nat.reduceSub, Nat.reduceEqDiff, Nat.reduceLT, Nat.reduceLeDiff, litd_t, litd_f, decide_true, decide_false, Bool.not_true, Bool.not_false, not_true_eq_false, not_false_eq_true, true_and, and_true, false_and, and_false, true_or, or_true, false_or, or_false, Int.toNat_natCast, cond_true, cond_false, List.map_cons, List.map_nil, Option.map_some, Option.map_none, datL, opV_faddr2]
        (first | refine RunB_i (fun h4 => ?_) (fun h4 => ?_) | refine RunG_i (fun h4 => ?_) (fun h4 => ?_) | refine RunB_ib (fun h4 => ?_) (fun h4 => ?_))
        · simp -failIfUnchanged (disch := first | assumption | omega | (refine room_i _ _ ?_ ?_ <;> omega) | (refine @_root_.id _ ?_; with_unfolding_all exact Eq.refl _) | (simp only [List.length_take, List.length_drop, List.length_append, List.length_cons, List.length_nil, List.length_replicate, List.length_map] <;> omega) | fail) only [rnL, opL, ruL, hpL, rsL, natL, outL, Nat.add_sub_cancel_left, Nat.mul_one, List.length_cons, List.length_nil, Nat.zero_add, Nat.add_zero, Nat.reduceAdd, Nat.reduceMul, Nat.reduceSub, Nat.reduceEqDiff, Nat.reduceLT, Nat.reduceLeDiff, litd_t, litd_f, decide_true, decide_false, Bool.not_true, Bool.not_false, not_true_eq_false, not_false_eq_true, true_and, and_true, false_and, and_false, true_or, or_true, false_or, or_false, Int.toNat_natCast, cond_true, cond_false, List.map_cons, List.map_nil, Option.map_some, Option.map_none, datL, opV_faddr2]
          (refine Fin_g (.inr rfl) (by simp -failIfUnchanged (disch := first | assumption | omega | (refine room_i _ _ ?_ ?_ <;> omega) | (refine @_root_.id _ ?_; with_unfolding_all exact Eq.refl _) | (simp only [List.length_take, List.length_drop, List.length_append, List.length_cons, List.length_nil, List.length_replicate, List.length_map] <;> omega) | fail) only [rnL, opL, ruL, hpL, rsL, natL, outL, Nat.add_sub_cancel_left, Nat.mul_one, List.length_cons, List.length_nil, Nat.zero_add, Nat.add_zero, Nat.reduceAdd, Nat.reduceMul, Nat.reduceSub, Nat.reduceEqDiff, Nat.reduceLT, Nat.reduceLeDiff, litd_t, litd_f, decide_true, decide_false, Bool.not_true, Bool.not_false, not_true_eq_false, not_false_eq_true, true_and, and_true, false_and, and_false, true_or, or_true, false_or, or_false, Int.toNat_natCast, cond_true, cond_false, List.map_cons, List.map_nil, Option.map_some, Option.map_none]; rfl) ?_; simp -failIfUnchanged (disch := first | assumption | omega | (refine room_i _ _ ?_ ?_ <;> omega) | (refine @_root_.id _ ?_; with_unfolding_all exact Eq.refl _) | (simp only [List.length_take, List.length_drop, List.length_append, List.length_cons, List.length_nil, List.length_replicate, List.length_map] <;> omega) | fail) only [rnL, opL, ruL, hpL, rsL, natL, outL, Nat.add_sub_cancel_left, Nat.mul_one, List.length_cons, List.length_nil, Nat.zero_add, Nat.add_zero, Nat.reduceAdd, Nat.reduceMul, Nat.reduceSub, Nat.reduceEqDiff, Nat.reduceLT, Nat.reduceLeDiff, litd_t, litd_f, decide_true, decide_false, Bool.not_true, Bool.not_false, not_true_eq_false, not_false_eq_true, true_and, and_true, false_and, and_false, true_or, or_true, false_or, or_false, Int.toNat_natCast, cond_true, cond_false, List.map_cons, List.map_nil, Option.map_some, Option.map_none])
          rw [decide_eq_false]
          exact fun hf => by have := (hf.2 h[i] (List.getElem_mem hlt)).2; omega
        · simp -failIfUnchanged (disch := first | assumption | omega | (refine room_i _ _ ?_ ?_ <;> omega) | (refine @_root_.id _ ?_; with_unfolding_all exact Eq.refl _) | (simp only [List.length_take, List.length_drop, List.length_append, List.length_cons, List.length_nil, List.length_replicate, List.length_map] <;> omega) | fail) only [rnL, opL, ruL, hpL, rsL, natL, outL, Nat.add_sub_cancel_left, Nat.mul_one, List.length_cons, List.length_nil, Nat.zero_add, Nat.add_zero, Nat.reduceAdd, Nat.reduceMul, Nat.reduceSub, Nat.reduceEqDiff, Nat.reduceLT, Nat.reduceLeDiff, litd_t, litd_f, decide_true, decide_false, Bool.not_true, Bool.not_false, not_true_eq_false, not_false_eq_true, true_and, and_true, false_and, and_false, true_or, or_true, false_or, or_false, Int.toNat_natCast, cond_true, cond_false, List.map_cons, List.map_nil, Option.map_some, Option.map_none, datL, opV_faddr2]
          exact .i hlt (by first | exact trivial | rfl) (by first | exact trivial | rfl) (fun j hj hji => by
            rcases Nat.lt_succ_iff_lt_or_eq.mp hji with h6 | rfl
            · exact hP j hj h6
            · exact ⟨by omega, by omega⟩)
    · have : i = h.length := by omega
      subst this
      simp -failIfUnchanged (disch := first | assumption | omega | (refine room_i _ _ ?_ ?_ <;> omega) | (refine @_root_.id _ ?_; with_unfolding_all exact Eq.refl _) | (simp only [List.length_take, List.length_drop, List.length_append, List.length_cons, List.length_nil, List.length_replicate, List.length_map] <;> omega) | fail) only [rnL, opL, ruL, hpL, rsL, natL, outL, Nat.add_sub_cancel_left, Nat.mul_one, List.length_cons, List.length_nil, Nat.zero_add, Nat.add_zero, Nat.reduceAdd, Nat.reduceMul, Nat.reduceSub, Nat.reduceEqDiff, Nat.reduceLT, Nat.reduceLeDiff, litd_t, litd_f, decide_true, decide_false, Bool.not_true, Bool.not_false, not_true_eq_false, not_false_eq_true, true_and, and_true, false_and, and_false, true_or, or_true, false_or, or_false, Int.toNat_natCast, cond_true, cond_false, List.map_cons, List.map_nil, Option.map_some, Option.map_none]
      (refine Fin_g (.inr rfl) (by simp -failIfUnchanged (disch := first | assumption | omega | (refine room_i _ _ ?_ ?_ <;> omega) | (refine @_root_.id _ ?_; with_unfolding_all exact Eq.refl _) | (simp only [List.length_take, List.length_drop, List.length_append, List.length_cons, List.length_nil, List.length_replicate, List.length_map] <;> omega) | fail) only [rnL, opL, ruL, hpL, rsL, natL, outL, Nat.add_sub_cancel_left, Nat.mul_one, List.length_cons, List.length_nil, Nat.zero_add, Nat.add_zero, Nat.reduceAdd, Nat.reduceMul, Nat.reduceSub, Nat.reduceEqDiff, Nat.reduceLT, Nat.reduceLeDiff, litd_t, litd_f, decide_true, decide_false, Bool.not_true, Bool.not_false, not_true_eq_false, not_false_eq_true, true_and, and_true, false_and, and_false, true_or, or_true, false_or, or_false, Int.toNat_natCast, cond_true, cond_false, List.map_cons, List.map_nil, Option.map_some, Option.map_none]; rfl) ?_; simp -failIfUnchanged (disch := first | assumption | omega | (refine room_i _ _ ?_ ?_ <;> omega) | (refine @_root_.id _ ?_; with_unfolding_all exact Eq.refl _) | (simp only [List.length_take, List.length_drop, List.length_append, List.length_cons, List.length_nil, List.length_replicate, List.length_map] <;> omega) | fail) only [rnL, opL, ruL, hpL, rsL, natL, outL, Nat.add_sub_cancel_left, Nat.mul_one, List.length_cons, List.length_nil, Nat.zero_add, Nat.add_zero, Nat.reduceAdd, Nat.reduceMul, Nat.reduceSub, Nat.reduceEqDiff, Nat.reduceLT, Nat.reduceLeDiff, litd_t, litd_f, decide_true, decide_false, Bool.not_true, Bool.not_false, not_true_eq_false, not_false_eq_true, true_and, and_true, false_and, and_false, true_or, or_true, false_or, or_false, Int.toNat_natCast, cond_true, cond_false, List.map_cons, List.map_nil, Option.map_some, Option.map_none])
      rw [decide_eq_true]
      refine ⟨by omega, fun d hd => ?_⟩
      obtain ⟨j, hj, rfl⟩ := List.getElem_of_mem hd
      exact hP j hj hj
theorem cloneM_gives (nl : Bool) (l : List Msg) (hn : nl = true → l = []) (hl : l.length ≤ 20) : Gives F 35 [sl nl l] (sl nl l) := by
  refine Gives.of fn_slices_Clone_api_Msg_api_Msg rfl rfl (args' := [sl nl l]) (by simp only [mapO_nil, mapO_c2, consO_some, upf_v]) ?_
  simp only [ir_slices_Clone_api_Msg_api_Msg]
  cases nl with
  | true =>
    have := hn rfl
    subst this
    simp -failIfUnchanged (disch := first | assumption | omega | (refine room_i _ _ ?_ ?_ <;> omega) | (refine @_root_.id _ ?_; with_unfolding_all exact Eq.refl _) | (simp only [List.length_take, List.length_drop, List.length_append, List.length_cons, List.length_nil, List.length_replicate, List.length_map] <;> omega) | fail) only [rnL, opL, ruL, hpL, rsL, natL, outL, Nat.add_sub_cancel_left, Nat.mul_one, List.length_cons, List.length_nil, Nat.zero_add, Nat.add_zero, Nat.reduceAdd, Nat.reduceMul, Nat.reduceSub, Nat.reduceEqDiff, Nat.reduceLT, Nat.reduceLeDiff, litd_t, litd_f, decide_true, decide_false, Bool.not_true, Bool.not_false, not_true_eq_false, not_false_eq_true, true_and, and_true, false_and, and_false, true_or, or_true, false_or, or_false, Int.toNat_natCast, cond_true, cond_false, List.map_cons, List.map_nil, Option.map_some, Option.map_none]
    refine Fin_g (.inr rfl) (by simp -failIfUnchanged (disch := first | assumption | omega | (refine room_i _ _ ?_ ?_ <;> omega) | (refine @_root_.id _ ?_; with_unfolding_all exact Eq.refl _) | (simp only [List.length_take, List.length_drop, List.length_append, List.length_cons, List.length_nil, List.length_replicate, List.length_map] <;> omega) | fail) only [rnL, opL, ruL, hpL, rsL, natL, outL, Nat.add_sub_cancel_left, Nat.mul_one, List.length_cons, List.length_nil, Nat.zero_add, Nat.add_zero, Nat.reduceAdd, Nat.reduceMul, Nat.reduceSub, Nat.reduceEqDiff, Nat.reduceLT, Nat.reduceLeDiff, litd_t, litd_f, decide_true, decide_false, Bool.not_true, Bool.not_false, not_true_eq_false, not_false_eq_true, true_and, and_true, false_and, and_false, true_or, or_true, false_or, or_false, Int.toNat_natCast, cond_true, cond_false, List.map_cons, List.map_nil, Option.map_some, Option.map_none]; rfl) ?_
    rw [leave_f rfl]; rfl
  | false =>
    simp -failIfUnchanged (disch := first | assumption | omega | (refine room_i _ _ ?_ ?_ <;> omega) | (refine @_root_.id _ ?_; with_unfolding_all exact Eq.refl _) | (simp only [List.length_take, List.length_drop, List.length_append, List.length_cons, List.length_nil, List.length_replicate, List.length_map] <;> omega) | fail) only [rnL, opL, ruL, hpL, rsL, natL, outL, Nat.add_sub_cancel_left, Nat.mul_one, List.length_cons, List.length_nil, Nat.zero_add, Nat.add_zero, Nat.reduceAdd, Nat.reduceMul, Nat.reduceSub, Nat.reduceEqDiff, Nat.reduceLT, Nat.reduceLeDiff, litd_t, litd_f, decide_true, decide_false, Bool.not_true, Bool.not_false, not_true_eq_false, not_false_eq_true, true_and, and_true, false_and, and_false, true_or, or_true, false_or, or_false, Int.toNat_natCast, cond_true, cond_false, List.map_cons, List.map_nil, Option.map_some, Option.map_none]
    refine Fin_g (.inr rfl) (by simp only [mapO, resultA_tmp]; simp -failIfUnchanged (disch := first | assumption | omega | (refine room_i _ _ ?_ ?_ <;> omega) | (refine @_root_.id _ ?_; with_unfolding_all exact Eq.refl _) | (simp only [List.length_take, List.length_drop, List.length_append, List.length_cons, List.length_nil, List.length_replicate, List.length_map] <;> omega) | fail) only [rnL, opL, ruL, hpL, rsL, natL, outL, Nat.add_sub_cancel_left, Nat.mul_one, List.length_cons, List.length_nil, Nat.zero_add, Nat.add_zero, Nat.reduceAdd, Nat.reduceMul, Nat.reduceSub, Nat.reduceEqDiff, Nat.reduceLT, Nat.reduceLeDiff, litd_t, litd_f, decide_true, decide_false, Bool.not_true, Bool.not_false, not_true_eq_false, not_false_eq_true, true_and, and_true, false_and, and_false, true_or, or_true, false_or, or_false, Int.toNat_natCast, cond_true, cond_false, List.map_cons, List.map_nil, Option.map_some, Option.map_none, tmpV_bv]; rfl) ?_
    have e : sl false l = sl (false && l.isEmpty) l := by rw [Bool.false_and]
    rw [e]
    exact leave_bv' rfl
theorem cloneE_gives (nl : Bool) (l : List Ent) (hn : nl = true → l = []) (hl : l.length ≤ 40) : Gives F 36 [sl nl l] (sl nl l) := by
  refine Gives.of fn_slices_Clone_api_Entry_api_Entry rfl rfl (args' := [sl nl l]) (by simp only [mapO_nil, mapO_c2, consO_some, upf_v]) ?_
  simp only [ir_slices_Clone_api_Entry_api_Entry]
  cases nl with
  | true =>
    have := hn rfl
    subst this
    simp -failIfUnchanged (disch := first | assumption | omega | (refine room_i _ _ ?_ ?_ <;> omega) | (refine @_root_.id _ ?_; with_unfolding_all exact Eq.refl _) | (simp only [List.length_take, List.length_drop, List.length_append, List.length_cons, List.length_nil, List.length_replicate, List.length_map] <;> omega) | fail) only [rnL, opL, ruL, hpL, rsL, natL, outL, Nat.add_sub_cancel_left, Nat.mul_one, List.length_cons, List.length_nil, Nat.zero_add, Nat.add_zero, Nat.reduceAdd, Nat.reduceMul, Nat.reduceSub, Nat.reduceEqDiff, Nat.reduceLT, Nat.reduceLeDiff, litd_t, litd_f, decide_true, decide_false, Bool.not_true, Bool.not_false, not_true_eq_false, not_false_eq_true, true_and, and_true, false_and, and_false, true_or, or_true, false_or, or_false, Int.toNat_natCast, cond_true, cond_false, List.map_cons, List.map_nil, Option.map_some, Option.map_none]
    refine Fin_g (.inr rfl) (by simp -failIfUnchanged (disch := first | assumption | omega | (refine room_i _ _ ?_ ?_ <;> omega) | (refine @_root_.id _ ?_; with_unfolding_all exact Eq.refl _) | (simp only [List.length_take, List.length_drop, List.length_append, List.length_cons, List.length_nil, List.length_replicate, List.length_map] <;> omega) | fail) only [rnL, opL, ruL, hpL, rsL, natL, outL, Nat.add_sub_cancel_left, Nat.mul_one, List.length_cons, List.length_nil, Nat.zero_add, Nat.add_zero, Nat.reduceAdd, Nat.reduceMul, Nat.reduceSub, Nat.reduceEqDiff, Nat.reduceLT, Nat.reduceLeDiff, litd_t, litd_f, decide_true, decide_false, Bool.not_true, Bool.not_false, not_true_eq_false, not_false_eq_true, true_and, and_true, false_and, and_false, true_or, or_true, false_or, or_false, Int.toNat_natCast, cond_true, cond_false, List.map_cons, List.map_nil, Option.map_some, Option.map_none]; rfl) ?_
    rw [leave_f rfl]; rfl
  | false =>
    simp -failIfUnchanged (disch := first | assumption | omega | (refine room_i _ _ ?_ ?_ <;> omega) | (refine @_root_.id _ ?_; with_unfolding_all exact Eq.refl _) | (simp only [List.length_take, List.length_drop, List.length_append, List.length_cons, List.length_nil, List.length_replicate, List.length_map] <;> omega) | fail) only [rnL, opL, ruL, hpL, rsL, natL, outL, Nat.add_sub_cancel_left, Nat.mul_one, List.length_cons, List.length_nil, Nat.zero_add, Nat.add_zero, Nat.reduceAdd, Nat.reduceMul, Nat.reduceSub, Nat.reduceEqDiff, Nat.reduceLT, Nat.reduceLeDiff, litd_t, litd_f, decide_true, decide_false, Bool.not_true, Bool.not_false, not_true_eq_false, not_false_eq_true, true_and, and_true, false_and, and_false, true_or, or_true, false_or, or_false, Int.toNat_natCast, cond_true, cond_false, List.map_cons, List.map_nil, Option.map_some, Option.map_none]
    refine Fin_g (.inr rfl) (by simp only [mapO, resultA_tmp]; simp -failIfUnchanged (disch := first | assumption | omega | (refine room_i _ _ ?_ ?_ <;> omega) | (refine @_root_.id _ ?_; with_unfolding_all exact Eq.refl _) | (simp only [List.length_take, List.length_drop, List.length_append, List.length_cons, List.length_nil, List.length_replicate, List.length_map] <;> omega) | fail) only [rnL, opL, ruL, hpL, rsL, natL, outL, Nat.add_sub_cancel_left, Nat.mul_one, List.length_cons, List.length_nil, Nat.zero_add, Nat.add_zero, Nat.reduceAdd, Nat.reduceMul, Nat.reduceSub, Nat.reduceEqDiff, Nat.reduceLT, Nat.reduceLeDiff, litd_t, litd_f, decide_true, decide_false, Bool.not_true, Bool.not_false, not_true_eq_false, not_false_eq_true, true_and, and_true, false_and, and_false, true_or, or_true, false_or, or_false, Int.toNat_natCast, cond_true, cond_false, List.map_cons, List.map_nil, Option.map_some, Option.map_none, tmpV_bv]; rfl) ?_
    have e : sl false l = sl (false && l.isEmpty) l := by rw [Bool.false_and]
    rw [e]
    exact leave_bv' rfl
def rep0 : Rep := ⟨0, false, [], ⟨true, []⟩, 0, false⟩
/-- An operation as it was behind k picks. -/
def prefD (k : Int) (d : Don) : Don := { d with back := if k < d.back then 0 else d.back, reply := if k < d.back then rep0 else d.reply, point := if k < d.point then 0 else d.point }
def preL (l : List Don) (k : Int) : Nat → List Don
  | 0 => []
  | i + 1 => if h : i < l.length then (if k < l[i].call then preL l k i else preL l k i ++ [prefD k l[i]]) else preL l k i
theorem preL_len (l : List Don) (k : Int) : ∀ i, (preL l k i).length ≤ i
  | 0 => Nat.le_refl _
  | i + 1 => by
    have := preL_len l k i
    unfold preL
    split
    · split
      · omega
      · simp; omega
    · omega
def okN (d : Don) : Prop := (d.op.batch.nil = true → d.op.batch.l = []) ∧ (d.reply.entries.nil = true → d.reply.entries.l = [])
theorem encDon7 (d : Don) : one none (Cel.enc d) 7 = some (.int .i64 d.call) := rfl
theorem encDon8 (d : Don) : one none (Cel.enc d) 8 = some (.int .i64 d.point) := rfl
theorem sp8_1 (a0 a1 a2 a3 a4 a5 a6 a7 a8 a9 a10 a11 a12 a13 a14 a15 x0 : AV) : splice [a0, a1, a2, a3, a4, a5, a6, a7, a8, a9, a10, a11, a12, a13, a14, a15] 8 [x0] = [a0, a1, a2, a3, a4, a5, a6, a7, x0, a9, a10, a11, a12, a13, a14, a15] := rfl
theorem sp9_1 (a0 a1 a2 a3 a4 a5 a6 a7 a8 a9 a10 a11 a12 a13 a14 a15 x0 : AV) : splice [a0, a1, a2, a3, a4, a5, a6, a7, a8, a9, a10, a11, a12, a13, a14, a15] 9 [x0] = [a0, a1, a2, a3, a4, a5, a6, a7, a8, x0, a10, a11, a12, a13, a14, a15] := rfl
theorem sp10_6 (a0 a1 a2 a3 a4 a5 a6 a7 a8 a9 a10 a11 a12 a13 a14 a15 x0 x1 x2 x3 x4 x5 : AV) : splice [a0, a1, a2, a3, a4, a5, a6, a7, a8, a9, a10, a11, a12, a13, a14, a15] 10 [x0, x1, x2, x3, x4, x5] = [a0, a1, a2, a3, a4, a5, a6, a7, a8, a9, x0, x1, x2, x3, x4, x5] := rfl
theorem sp6_1 (a0 a1 a2 a3 a4 a5 a6 a7 a8 a9 a10 a11 a12 a13 a14 a15 x0 : AV) : splice [a0, a1, a2, a3, a4, a5, a6, a7, a8, a9, a10, a11, a12, a13, a14, a15] 6 [x0] = [a0, a1, a2, a3, a4, a5, x0, a7, a8, a9, a10, a11, a12, a13, a14, a15] := rfl
theorem sp13_1 (a0 a1 a2 a3 a4 a5 a6 a7 a8 a9 a10 a11 a12 a13 a14 a15 x0 : AV) : splice [a0, a1, a2, a3, a4, a5, a6, a7, a8, a9, a10, a11, a12, a13, a14, a15] 13 [x0] = [a0, a1, a2, a3, a4, a5, a6, a7, a8, a9, a10, a11, a12, x0, a14, a15] := rfl
theorem sp0_16 (a0 a1 a2 a3 a4 a5 a6 a7 a8 a9 a10 a11 a12 a13 a14 a15 x0 x1 x2 x3 x4 x5 x6 x7 x8 x9 x10 x11 x12 x13 x14 x15 : AV) : splice [a0, a1, a2, a3, a4, a5, a6, a7, a8, a9, a10, a11, a12, a13, a14, a15] 0 [x0, x1, x2, x3, x4, x5, x6, x7, x8, x9, x10, x11, x12, x13, x14, x15] = [x0, x1, x2, x3, x4, x5, x6, x7, x8, x9, x10, x11, x12, x13, x14, x15] := rfl
theorem on6 (a0 a1 a2 a3 a4 a5 a6 a7 a8 a9 a10 a11 a12 a13 a14 a15 : AV) : one none [a0, a1, a2, a3, a4, a5, a6, a7, a8, a9, a10, a11, a12, a13, a14, a15] 6 = some a6 := rfl
theorem on7 (a0 a1 a2 a3 a4 a5 a6 a7 a8 a9 a10 a11 a12 a13 a14 a15 : AV) : one none [a0, a1, a2, a3, a4, a5, a6, a7, a8, a9, a10, a11, a12, a13, a14, a15] 7 = some a7 := rfl
theorem on8 (a0 a1 a2 a3 a4 a5 a6 a7 a8 a9 a10 a11 a12 a13 a14 a15 : AV) : one none [a0, a1, a2, a3, a4, a5, a6, a7, a8, a9, a10, a11, a12, a13, a14, a15] 8 = some a8 := rfl
theorem on9 (a0 a1 a2 a3 a4 a5 a6 a7 a8 a9 a10 a11 a12 a13 a14 a15 : AV) : one none [a0, a1, a2, a3, a4, a5, a6, a7, a8, a9, a10, a11, a12, a13, a14, a15] 9 = some a9 := rfl
theorem on13 (a0 a1 a2 a3 a4 a5 a6 a7 a8 a9 a10 a11 a12 a13 a14 a15 : AV) : one none [a0, a1, a2, a3, a4, a5, a6, a7, a8, a9, a10, a11, a12, a13, a14, a15] 13 = some a13 := rfl
theorem on16 (a0 a1 a2 a3 a4 a5 a6 a7 a8 a9 a10 a11 a12 a13 a14 a15 : AV) : one (some 16) [a0, a1, a2, a3, a4, a5, a6, a7, a8, a9, a10, a11, a12, a13, a14, a15] 0 = some (.agg [a0, a1, a2, a3, a4, a5, a6, a7, a8, a9, a10, a11, a12, a13, a14, a15]) := rfl
theorem opV_buildR {H : Heap} : opV H (.build [AV.int IntKind.i64 0, AV.bool false, AV.str [], AV.imm true 0 0 (some 0) [], AV.int IntKind.i64 0, AV.bool false] []) = some (.agg [AV.int IntKind.i64 0, AV.bool false, AV.str [], AV.imm true 0 0 (some 0) [], AV.int IntKind.i64 0, AV.bool false], H) := rfl
theorem cloneE0 : Gives F 36 [.imm true 0 0 (some 0) []] (sl true ([] : List Ent)) := by
  refine Gives.of fn_slices_Clone_api_Entry_api_Entry rfl rfl (args' := [sl true ([] : List Ent)]) rfl ?_
  simp only [ir_slices_Clone_api_Entry_api_Entry]
  simp -failIfUnchanged (disch := first | assumption | omega | (refine room_i _ _ ?_ ?_ <;> omega) | (refine @_root_.id _ ?_; with_unfolding_all exact Eq.refl _) | (simp only [List.length_take, List.length_drop, List.length_append, List.length_cons, List.length_nil, List.length_replicate, List.length_map] <;> omega) | fail) only [rnL, opL, ruL, hpL, rsL, natL, outL, Nat.add_sub_cancel_left, Nat.mul_one, List.length_cons, List.length_nil, Nat.zero_add, Nat.add_zero, Nat.reduceAdd, Nat.reduceMul, Nat.reduceSub, Nat.reduceEqDiff, Nat.reduceLT, Nat.reduceLeDiff, litd_t, litd_f, decide_true, decide_false, Bool.not_true, Bool.not_false, not_true_eq_false, not_false_eq_true, true_and, and_true, false_and, and_false, true_or, or_true, false_or, or_false, Int.toNat_natCast, cond_true, cond_false, List.map_cons, List.map_nil, Option.map_some, Option.map_none]
  refine Fin_g (.inr rfl) (by simp -failIfUnchanged (disch := first | assumption | omega | (refine room_i _ _ ?_ ?_ <;> omega) | (refine @_root_.id _ ?_; with_unfolding_all exact Eq.refl _) | (simp only [List.length_take, List.length_drop, List.length_append, List.length_cons, List.length_nil, List.length_replicate, List.length_map] <;> omega) | fail) only [rnL, opL, ruL, hpL, rsL, natL, outL, Nat.add_sub_cancel_left, Nat.mul_one, List.length_cons, List.length_nil, Nat.zero_add, Nat.add_zero, Nat.reduceAdd, Nat.reduceMul, Nat.reduceSub, Nat.reduceEqDiff, Nat.reduceLT, Nat.reduceLeDiff, litd_t, litd_f, decide_true, decide_false, Bool.not_true, Bool.not_false, not_true_eq_false, not_false_eq_true, true_and, and_true, false_and, and_false, true_or, or_true, false_or, or_false, Int.toNat_natCast, cond_true, cond_false, List.map_cons, List.map_nil, Option.map_some, Option.map_none]; rfl) ?_
  rw [leave_f rfl]; rfl
theorem ge6 (a0 a1 a2 a3 a4 a5 a6 a7 a8 a9 a10 a11 a12 a13 a14 a15 : AV) : [a0, a1, a2, a3, a4, a5, a6, a7, a8, a9, a10, a11, a12, a13, a14, a15][6]? = some a6 := rfl
theorem ge7 (a0 a1 a2 a3 a4 a5 a6 a7 a8 a9 a10 a11 a12 a13 a14 a15 : AV) : [a0, a1, a2, a3, a4, a5, a6, a7, a8, a9, a10, a11, a12, a13, a14, a15][7]? = some a7 := rfl
theorem ge8 (a0 a1 a2 a3 a4 a5 a6 a7 a8 a9 a10 a11 a12 a13 a14 a15 : AV) : [a0, a1, a2, a3, a4, a5, a6, a7, a8, a9, a10, a11, a12, a13, a14, a15][8]? = some a8 := rfl
theorem ge9 (a0 a1 a2 a3 a4 a5 a6 a7 a8 a9 a10 a11 a12 a13 a14 a15 : AV) : [a0, a1, a2, a3, a4, a5, a6, a7, a8, a9, a10, a11, a12, a13, a14, a15][9]? = some a9 := rfl
theorem ge13 (a0 a1 a2 a3 a4 a5 a6 a7 a8 a9 a10 a11 a12 a13 a14 a15 : AV) : [a0, a1, a2, a3, a4, a5, a6, a7, a8, a9, a10, a11, a12, a13, a14, a15][13]? = some a13 := rfl
theorem tk16 (a0 a1 a2 a3 a4 a5 a6 a7 a8 a9 a10 a11 a12 a13 a14 a15 : AV) : List.take 16 [a0, a1, a2, a3, a4, a5, a6, a7, a8, a9, a10, a11, a12, a13, a14, a15] = [a0, a1, a2, a3, a4, a5, a6, a7, a8, a9, a10, a11, a12, a13, a14, a15] := rfl
/-- An operation's cells. -/
def celD (d : Don) (point back : Int) (batch err found value ent n ended : AV) : List AV := [.int .i64 d.session, .int .i64 d.n, .int .u8 d.op.kind.toNat, .str d.op.key, .str d.op.to, .int .i64 d.op.n, batch, .int .i64 d.call, .int .i64 point, .int .i64 back, err, found, value, ent, n, ended]
theorem prefixP_gives (nl : Bool) (l : List Don) (k : Int) (hf : few l) (ho : ∀ d ∈ l, okN d) : Gives F 17 [sl nl l, .int .i64 k] (sl (true && (preL l k l.length).isEmpty) (preL l k l.length)) := by
  refine Gives.of fn_witness_Prefix rfl rfl (args' := [sl nl l, .int .i64 k]) (by simp only [mapO_nil, mapO_c2, consO_some, upf_v]) ?_
  simp only [ir_witness_Prefix]
  have hl := hf.1
  simp -failIfUnchanged (disch := first | assumption | omega | (refine room_i _ _ ?_ ?_ <;> omega) | (refine @_root_.id _ ?_; with_unfolding_all exact Eq.refl _) | (simp only [List.length_take, List.length_drop, List.length_append, List.length_cons, List.length_nil, List.length_replicate, List.length_map] <;> omega) | fail) only [rnL, opL, ruL, hpL, rsL, natL, outL, Nat.add_sub_cancel_left, Nat.mul_one, List.length_cons, List.length_nil, Nat.zero_add, Nat.add_zero, Nat.reduceAdd, Nat.reduceMul, Nat.reduceSub, Nat.reduceEqDiff, Nat.reduceLT, Nat.reduceLeDiff, litd_t, litd_f, decide_true, decide_false, Bool.not_true, Bool.not_false, not_true_eq_false, not_false_eq_true, true_and, and_true, false_and, and_false, true_or, or_true, false_or, or_false, Int.toNat_natCast, cond_true, cond_false, List.map_cons, List.map_nil, Option.map_some, Option.map_none]
  refine Run_loop (σ := Nat × Heap × AV) (fun σ => [(0, sl nl l), (1, AV.int IntKind.i64 k), (4, AV.imm true 0 0 (some 0) []), (5, σ.2.2), (8, sl nl l), (9, AV.int IntKind.i64 (l.length : Nat)), (10, AV.int IntKind.i64 (σ.1 : Nat))])
    (fun σ => [σ.2.1]) (fun σ => σ.1 ≤ l.length ∧ Row true σ.2.1 σ.2.2 (preL l k σ.1)) (fun σ => l.length - σ.1) (0, [], .imm true 0 0 (some 0) []) ?_ ?_ ?_ ?_
  · rfl
  · rfl
  · exact ⟨Nat.zero_le _, .inl ⟨rfl, rfl⟩⟩
  · rintro ⟨i, G, w⟩ ⟨h1, h2⟩
    simp only at h1 h2 ⊢
    by_cases hi : i < l.length
    · have hi' : (i : Int) < (l.length : Int) := by omega
      have hz : splice [AV.int IntKind.i64 0, AV.int IntKind.i64 0, AV.int IntKind.u8 0, AV.str [], AV.str [], AV.int IntKind.i64 0, AV.imm true 0 0 (some 0) [], AV.int IntKind.i64 0, AV.int IntKind.i64 0, AV.int IntKind.i64 0, AV.int IntKind.i64 0, AV.bool false, AV.str [], AV.imm true 0 0 (some 0) [], AV.int IntKind.i64 0, AV.bool false] 0 (Cel.enc l[i]) = [.int .i64 l[i].session, .int .i64 l[i].n, .int .u8 l[i].op.kind.toNat, .str l[i].op.key, .str l[i].op.to, .int .i64 l[i].op.n, sl l[i].op.batch.nil l[i].op.batch.l, .int .i64 l[i].call, .int .i64 l[i].point, .int .i64 l[i].back, .int .i64 l[i].reply.err, .bool l[i].reply.found, .str l[i].reply.value, sl l[i].reply.entries.nil l[i].reply.entries.l, .int .i64 l[i].reply.n, .bool l[i].reply.ended] := rfl
      obtain ⟨hof, hoe⟩ := ho l[i] (List.getElem_mem hi)
      have hfi := hf.2 l[i] (List.getElem_mem hi)
      have g1 : CallpIs F 35 [sl l[i].op.batch.nil l[i].op.batch.l] (sl l[i].op.batch.nil l[i].op.batch.l) := (cloneM_gives _ _ hof hfi.1).isp (by rw [hfrees_cons, sl_free]; rfl) (sl_free _ _)
      have g2 : CallpIs F 36 [sl l[i].reply.entries.nil l[i].reply.entries.l] (sl l[i].reply.entries.nil l[i].reply.entries.l) := (cloneE_gives _ _ hoe hfi.2).isp (by rw [hfrees_cons, sl_free]; rfl) (sl_free _ _)
      have g3 : CallpIs F 36 [.imm true 0 0 (some 0) []] (sl true ([] : List Ent)) := cloneE0.isp rfl rfl
      have hpl := preL_len l k i
      have hp : preL l k (i + 1) = if k < l[i].call then preL l k i else preL l k i ++ [prefD k l[i]] := by rw [preL, dif_pos hi]
      by_cases hc : k < l[i].call
      · have hp1 : preL l k (i + 1) = preL l k i := by rw [hp, if_pos hc]
        simp -failIfUnchanged (disch := first | assumption | omega | (refine room_i _ _ ?_ ?_ <;> omega) | (refine @_root_.id _ ?_; with_unfolding_all exact Eq.refl _) | (simp only [List.length_take, List.length_drop, List.length_append, List.length_cons, List.length_nil, List.length_replicate, List.length_map] <;> omega) | fail) only [rnL, opL, ruL, hpL, rsL, natL, outL, Nat.add_sub_cancel_left, Nat.mul_one, List.length_cons, List.length_nil, Nat.zero_add, Nat.add_zero, Nat.reduceAdd, Nat.reduceMul, Nat.reduceSub, Nat.reduceEqDiff, Nat.reduceLT, Nat.reduceLeDiff, litd_t, litd_f, decide_true, decide_false, Bool.not_true, Bool.not_false, not_true_eq_false, not_false_eq_true, true_and, and_true, false_and, and_false, true_or, or_true, false_or, or_false, Int.toNat_natCast, cond_true, cond_false, List.map_cons, List.map_nil, Option.map_some, Option.map_none, hxL, datL, hi', hz, encDon7, on7, hc]
        refine Next.i (i + 1, _, w) rfl rfl ⟨hi, ?_⟩ (by show l.length - (i + 1) < l.length - i; omega)
        show Row true (G ++ _) w (preL l k (i + 1))
        rw [hp1]; exact h2.app
      · have hp1 : preL l k (i + 1) = preL l k i ++ [prefD k l[i]] := by rw [hp, if_neg hc]
        obtain ⟨X, hXe⟩ : ∃ X, X = G ++ [AObj.cells (Cel.enc (prefD k l[i]))] := ⟨_, rfl⟩
        have hRX : Row true X w (preL l k i) := by rw [hXe]; exact h2.app
        obtain ⟨w', G3, ha, hR3, hK3⟩ := Row.append (es := 16) (bytes := 184) (prefD k l[i]) hRX rfl rfl (by refine room_i _ _ ?_ ?_ <;> omega)
        have nxt : Next (σ := Nat × Heap × AV) (fun σ => [(0, sl nl l), (1, AV.int IntKind.i64 k), (4, AV.imm true 0 0 (some 0) []), (5, σ.2.2), (8, sl nl l), (9, AV.int IntKind.i64 (l.length : Nat)), (10, AV.int IntKind.i64 (σ.1 : Nat))])
            (fun σ => [σ.2.1]) (fun σ => σ.1 ≤ l.length ∧ Row true σ.2.1 σ.2.2 (preL l k σ.1)) (fun σ => l.length - σ.1) (l.length - i)
            [(0, sl nl l), (1, AV.int IntKind.i64 k), (4, AV.imm true 0 0 (some 0) []), (5, w'), (8, sl nl l), (9, AV.int IntKind.i64 (l.length : Nat)), (10, AV.int IntKind.i64 (i + 1 : Nat))] [G3] := by
          refine Next.i (i + 1, G3, w') rfl rfl ⟨hi, ?_⟩ (by show l.length - (i + 1) < l.length - i; omega)
          show Row true G3 w' (preL l k (i + 1))
          rw [hp1]; exact hR3
        by_cases hb : k < l[i].back
        · by_cases hq : k < l[i].point
          · have hE : Cel.enc (prefD k l[i]) = [.int .i64 l[i].session, .int .i64 l[i].n, .int .u8 l[i].op.kind.toNat, .str l[i].op.key, .str l[i].op.to, .int .i64 l[i].op.n, sl l[i].op.batch.nil l[i].op.batch.l, .int .i64 l[i].call, .int .i64 0, .int .i64 0, .int .i64 0, .bool false, .str [], sl true ([] : List Ent), .int .i64 0, .bool false] := by
              have e : prefD k l[i] = { l[i] with back := 0, reply := rep0, point := 0 } := by
                simp only [prefD, hb, hq, if_true, if_false]
              rw [e]; rfl
            rw [hXe, hE] at ha
            simp -failIfUnchanged (disch := first | assumption | omega | (refine room_i _ _ ?_ ?_ <;> omega) | (refine @_root_.id _ ?_; with_unfolding_all exact Eq.refl _) | (simp only [List.length_take, List.length_drop, List.length_append, List.length_cons, List.length_nil, List.length_replicate, List.length_map] <;> omega) | fail) only [rnL, opL, ruL, hpL, rsL, natL, outL, Nat.add_sub_cancel_left, Nat.mul_one, List.length_cons, List.length_nil, Nat.zero_add, Nat.add_zero, Nat.reduceAdd, Nat.reduceMul, Nat.reduceSub, Nat.reduceEqDiff, Nat.reduceLT, Nat.reduceLeDiff, litd_t, litd_f, decide_true, decide_false, Bool.not_true, Bool.not_false, not_true_eq_false, not_false_eq_true, true_and, and_true, false_and, and_false, true_or, or_true, false_or, or_false, Int.toNat_natCast, cond_true, cond_false, List.map_cons, List.map_nil, Option.map_some, Option.map_none, hxL, datL, hi', hz, sp8_1, sp9_1, sp10_6, sp6_1, sp13_1, sp0_16, on6, on7, on8, on9, on13, on16, opV_buildR, ge6, ge7, ge8, ge9, ge13, tk16, List.drop_zero, hc, hb, hq, g1, g2, g3, ha]
            exact nxt
          · have hE : Cel.enc (prefD k l[i]) = [.int .i64 l[i].session, .int .i64 l[i].n, .int .u8 l[i].op.kind.toNat, .str l[i].op.key, .str l[i].op.to, .int .i64 l[i].op.n, sl l[i].op.batch.nil l[i].op.batch.l, .int .i64 l[i].call, .int .i64 l[i].point, .int .i64 0, .int .i64 0, .bool false, .str [], sl true ([] : List Ent), .int .i64 0, .bool false] := by
              have e : prefD k l[i] = { l[i] with back := 0, reply := rep0, point := l[i].point } := by
                simp only [prefD, hb, hq, if_true, if_false]
              rw [e]; rfl
            rw [hXe, hE] at ha
            simp -failIfUnchanged (disch := first | assumption | omega | (refine room_i _ _ ?_ ?_ <;> omega) | (refine @_root_.id _ ?_; with_unfolding_all exact Eq.refl _) | (simp only [List.length_take, List.length_drop, List.length_append, List.length_cons, List.length_nil, List.length_replicate, List.length_map] <;> omega) | fail) only [rnL, opL, ruL, hpL, rsL, natL, outL, Nat.add_sub_cancel_left, Nat.mul_one, List.length_cons, List.length_nil, Nat.zero_add, Nat.add_zero, Nat.reduceAdd, Nat.reduceMul, Nat.reduceSub, Nat.reduceEqDiff, Nat.reduceLT, Nat.reduceLeDiff, litd_t, litd_f, decide_true, decide_false, Bool.not_true, Bool.not_false, not_true_eq_false, not_false_eq_true, true_and, and_true, false_and, and_false, true_or, or_true, false_or, or_false, Int.toNat_natCast, cond_true, cond_false, List.map_cons, List.map_nil, Option.map_some, Option.map_none, hxL, datL, hi', hz, sp8_1, sp9_1, sp10_6, sp6_1, sp13_1, sp0_16, on6, on7, on8, on9, on13, on16, opV_buildR, ge6, ge7, ge8, ge9, ge13, tk16, List.drop_zero, hc, hb, hq, g1, g2, g3, ha]
            exact nxt
        · by_cases hq : k < l[i].point
          · have hE : Cel.enc (prefD k l[i]) = [.int .i64 l[i].session, .int .i64 l[i].n, .int .u8 l[i].op.kind.toNat, .str l[i].op.key, .str l[i].op.to, .int .i64 l[i].op.n, sl l[i].op.batch.nil l[i].op.batch.l, .int .i64 l[i].call, .int .i64 0, .int .i64 l[i].back, .int .i64 l[i].reply.err, .bool l[i].reply.found, .str l[i].reply.value, sl l[i].reply.entries.nil l[i].reply.entries.l, .int .i64 l[i].reply.n, .bool l[i].reply.ended] := by
              have e : prefD k l[i] = { l[i] with back := l[i].back, reply := l[i].reply, point := 0 } := by
                simp only [prefD, hb, hq, if_true, if_false]
              rw [e]; rfl
            rw [hXe, hE] at ha
            simp -failIfUnchanged (disch := first | assumption | omega | (refine room_i _ _ ?_ ?_ <;> omega) | (refine @_root_.id _ ?_; with_unfolding_all exact Eq.refl _) | (simp only [List.length_take, List.length_drop, List.length_append, List.length_cons, List.length_nil, List.length_replicate, List.length_map] <;> omega) | fail) only [rnL, opL, ruL, hpL, rsL, natL, outL, Nat.add_sub_cancel_left, Nat.mul_one, List.length_cons, List.length_nil, Nat.zero_add, Nat.add_zero, Nat.reduceAdd, Nat.reduceMul, Nat.reduceSub, Nat.reduceEqDiff, Nat.reduceLT, Nat.reduceLeDiff, litd_t, litd_f, decide_true, decide_false, Bool.not_true, Bool.not_false, not_true_eq_false, not_false_eq_true, true_and, and_true, false_and, and_false, true_or, or_true, false_or, or_false, Int.toNat_natCast, cond_true, cond_false, List.map_cons, List.map_nil, Option.map_some, Option.map_none, hxL, datL, hi', hz, sp8_1, sp9_1, sp10_6, sp6_1, sp13_1, sp0_16, on6, on7, on8, on9, on13, on16, opV_buildR, ge6, ge7, ge8, ge9, ge13, tk16, List.drop_zero, hc, hb, hq, g1, g2, g3, ha]
            exact nxt
          · have hE : Cel.enc (prefD k l[i]) = [.int .i64 l[i].session, .int .i64 l[i].n, .int .u8 l[i].op.kind.toNat, .str l[i].op.key, .str l[i].op.to, .int .i64 l[i].op.n, sl l[i].op.batch.nil l[i].op.batch.l, .int .i64 l[i].call, .int .i64 l[i].point, .int .i64 l[i].back, .int .i64 l[i].reply.err, .bool l[i].reply.found, .str l[i].reply.value, sl l[i].reply.entries.nil l[i].reply.entries.l, .int .i64 l[i].reply.n, .bool l[i].reply.ended] := by
              have e : prefD k l[i] = { l[i] with back := l[i].back, reply := l[i].reply, point := l[i].point } := by
                simp only [prefD, hb, hq, if_true, if_false]
              rw [e]; rfl
            rw [hXe, hE] at ha
            simp -failIfUnchanged (disch := first | assumption | omega | (refine room_i _ _ ?_ ?_ <;> omega) | (refine @_root_.id _ ?_; with_unfolding_all exact Eq.refl _) | (simp only [List.length_take, List.length_drop, List.length_append, List.length_cons, List.length_nil, List.length_replicate, List.length_map] <;> omega) | fail) only [rnL, opL, ruL, hpL, rsL, natL, outL, Nat.add_sub_cancel_left, Nat.mul_one, List.length_cons, List.length_nil, Nat.zero_add, Nat.add_zero, Nat.reduceAdd, Nat.reduceMul, Nat.reduceSub, Nat.reduceEqDiff, Nat.reduceLT, Nat.reduceLeDiff, litd_t, litd_f, decide_true, decide_false, Bool.not_true, Bool.not_false, not_true_eq_false, not_false_eq_true, true_and, and_true, false_and, and_false, true_or, or_true, false_or, or_false, Int.toNat_natCast, cond_true, cond_false, List.map_cons, List.map_nil, Option.map_some, Option.map_none, hxL, datL, hi', hz, sp8_1, sp9_1, sp10_6, sp6_1, sp13_1, sp0_16, on6, on7, on8, on9, on13, on16, opV_buildR, ge6, ge7, ge8, ge9, ge13, tk16, List.drop_zero, hc, hb, hq, g1, g2, g3, ha]
            exact nxt
    · have : i = l.length := by omega
      subst this
      simp -failIfUnchanged (disch := first | assumption | omega | (refine room_i _ _ ?_ ?_ <;> omega) | (refine @_root_.id _ ?_; with_unfolding_all exact Eq.refl _) | (simp only [List.length_take, List.length_drop, List.length_append, List.length_cons, List.length_nil, List.length_replicate, List.length_map] <;> omega) | fail) only [rnL, opL, ruL, hpL, rsL, natL, outL, Nat.add_sub_cancel_left, Nat.mul_one, List.length_cons, List.length_nil, Nat.zero_add, Nat.add_zero, Nat.reduceAdd, Nat.reduceMul, Nat.reduceSub, Nat.reduceEqDiff, Nat.reduceLT, Nat.reduceLeDiff, litd_t, litd_f, decide_true, decide_false, Bool.not_true, Bool.not_false, not_true_eq_false, not_false_eq_true, true_and, and_true, false_and, and_false, true_or, or_true, false_or, or_false, Int.toNat_natCast, cond_true, cond_false, List.map_cons, List.map_nil, Option.map_some, Option.map_none]
      refine Fin_g (.inr rfl) (by simp only [mapO, resultA_tmp]; simp -failIfUnchanged (disch := first | assumption | omega | (refine room_i _ _ ?_ ?_ <;> omega) | (refine @_root_.id _ ?_; with_unfolding_all exact Eq.refl _) | (simp only [List.length_take, List.length_drop, List.length_append, List.length_cons, List.length_nil, List.length_replicate, List.length_map] <;> omega) | fail) only [rnL, opL, ruL, hpL, rsL, natL, outL, Nat.add_sub_cancel_left, Nat.mul_one, List.length_cons, List.length_nil, Nat.zero_add, Nat.add_zero, Nat.reduceAdd, Nat.reduceMul, Nat.reduceSub, Nat.reduceEqDiff, Nat.reduceLT, Nat.reduceLeDiff, litd_t, litd_f, decide_true, decide_false, Bool.not_true, Bool.not_false, not_true_eq_false, not_false_eq_true, true_and, and_true, false_and, and_false, true_or, or_true, false_or, or_false, Int.toNat_natCast, cond_true, cond_false, List.map_cons, List.map_nil, Option.map_some, Option.map_none, h2.tmp]; rfl) ?_
      exact h2.leave
end Go.AS.Wi

namespace Go.AS
open Go
section
variable {α : Type} [Cel α] {nl : Bool}
/-- A list that is being built by appends, whose cells are as a level's border would leave them, but for slices' capacities. -/
def RowF (nl : Bool) (H : Heap) (w : AV) (l : List α) : Prop :=
  (l = [] ∧ w = .imm nl 0 0 (some 0) []) ∨ ∃ id cs, id < H.length ∧ l ≠ [] ∧ w = .ref id (l.length * Cel.n α) 0 (Cel.n α) l.length l.length false ∧ hat H id = .cells cs ∧ cs.length = l.length * Cel.n α ∧ hfrees cs = true ∧ fgs cs = cellsL l
theorem RowF.app {H L : Heap} {w : AV} {l : List α} (h : RowF nl H w l) : RowF nl (H ++ L) w l := by
  rcases h with h | ⟨id, cs, h1, h2, h3, h4, h5⟩
  · exact .inl h
  · exact .inr ⟨id, cs, by simp; omega, h2, h3, by rw [hat_app_lt h1, h4], h5⟩
theorem RowF.tmp {H : Heap} {w : AV} {l : List α} (h : RowF nl H w l) : tmpV w = some w := by
  rcases h with ⟨_, rfl⟩ | ⟨id, cs, h1, h2, rfl, h4⟩ <;> rfl
theorem fgs_app (a b : List AV) : fgs (a ++ b) = fgs a ++ fgs b := by
  induction a with
  | nil => rfl
  | cons x a ih => simp only [List.cons_append, fgs, ih]
theorem hfrees_app {a b : List AV} (ha : hfrees a = true) (hb : hfrees b = true) : hfrees (a ++ b) = true := by
  induction a with
  | nil => exact hb
  | cons x a ih =>
    simp only [hfrees, Bool.and_eq_true] at ha
    simp only [List.cons_append, hfrees, ha.1, ih ha.2, Bool.and_self]
theorem RowF.leave {H : Heap} {w : AV} {l : List α} (h : RowF nl H w l) : Go.AS.leave H w = some (sl (nl && l.isEmpty) l) := by
  rcases h with ⟨rfl, rfl⟩ | ⟨id, cs, h1, h2, rfl, h4, h5, h6, h7⟩
  · cases nl <;> rfl
  · have hg : H[id]? = some (.cells cs) := hat_lt (by intro h; cases h) h4
    have e1 : Nat.beq cs.length (l.length * Cel.n α) = true := by rw [h5]; simp
    have e2 : Nat.ble (0 + l.length * Cel.n α) (l.length * Cel.n α) = true := by simp
    have e3 : (cs.drop 0).take (l.length * Cel.n α) = cs := by rw [List.drop_zero, ← h5, List.take_length]
    have e4 : Go.AS.frz H 1000 (.ref id (l.length * Cel.n α) 0 (Cel.n α) l.length l.length false) = some (.imm false (Cel.n α) l.length none cs) := by
      rw [show (1000 : Nat) = 998 + 2 from rfl, Go.AS.frz]
      simp only [hfree, cond_false, hg, e1, e2, e3, mapO_frz _ _ h6, Bool.and_self, cond_true, Option.map_some]
    unfold Go.AS.leave
    rw [e4]
    simp only [down_f (show hfree (.imm false (Cel.n α) l.length none cs) = true from h6), Option.map_some]
    cases l with
    | nil => exact absurd rfl h2
    | cons a r =>
      have e5 : Nat.beq (a :: r).length 0 = false := rfl
      simp only [fg, e5, cond_false, h7, List.isEmpty, Bool.and_false, sl, imm0]
theorem RowF.append {H : Heap} {w : AV} {l : List α} {es bytes : Nat} (x : α) (xs : List AV) (h : RowF nl H w l) (he : es = Cel.n α) (hp : Nat.blt 0 (Cel.n α) = true) (hr : room bytes (l.length + 1) = true)
    (hx1 : xs.length = Cel.n α) (hx2 : hfrees xs = true) (hx3 : fgs xs = Cel.enc x) :
    ∃ w' H', opV H (.append es bytes (.c w) (.c (.imm false es 1 (some 1) xs))) = some (w', H') ∧ RowF nl H' w' (l ++ [x]) := by
  subst he
  have hp0 : 0 < Cel.n α := Nat.le_of_ble_eq_true hp
  have e0 : Nat.beq (Cel.n α) (Cel.n α) = true := by simp
  have e1 : srcCells (.imm false (Cel.n α) 1 (some 1) xs) H (Cel.n α) = some xs := by
    show (bif Nat.beq (Cel.n α) (Cel.n α) || Nat.beq 1 0 then some xs else none) = _
    rw [e0]; rfl
  have e2 : srcLen (.imm false (Cel.n α) 1 (some 1) xs) = some 1 := rfl
  rcases h with ⟨rfl, rfl⟩ | ⟨id, cs, h2, h3, rfl, h4, h5, h6, h7⟩
  · have e3 : opV H (.append (Cel.n α) bytes (.c (.imm nl 0 0 (some 0) [])) (.c (.imm false (Cel.n α) 1 (some 1) xs))) = some (.ref H.length (1 * Cel.n α) 0 (Cel.n α) 1 1 false, H ++ [.cells xs]) := by
      simp only [opV, evOp, Opd.ev, appendA, e1, e2]
      have e4 : (!(Nat.beq (Cel.n α) 0 || Nat.beq 0 0)) = false := by cases Nat.beq (Cel.n α) 0 <;> rfl
      have e5 : room bytes (0 + 1) = true := by simpa using hr
      rw [e4, e5]
      rfl
    refine ⟨_, _, e3, .inr ⟨H.length, xs, by simp, by simp, rfl, ?_, by simp [hx1], hx2, ?_⟩⟩
    · rw [hat_end0]; simp [hat_0]
    · rw [hx3]; simp [cellsL]
  · have hg : H[id]? = some (.cells cs) := hat_lt (by intro h; cases h) h4
    have e4 : Nat.beq cs.length (l.length * Cel.n α) = true := by rw [h5]; simp
    have e5 : Nat.ble (l.length + 1) l.length = false := by rw [nble, litd, decide_eq_false]; omega
    have e6 : Nat.beq (l.length * Cel.n α) (l.length * Cel.n α) = true := by simp
    have e7 : cs.take (l.length * Cel.n α) = cs := by rw [← h5, List.take_length]
    have e3 : opV H (.append (Cel.n α) bytes (.c (.ref id (l.length * Cel.n α) 0 (Cel.n α) l.length l.length false)) (.c (.imm false (Cel.n α) 1 (some 1) xs))) =
        some (.ref id ((l.length + 1) * Cel.n α) 0 (Cel.n α) (l.length + 1) (l.length + 1) false, Go.AS.hset H id (.cells (cs ++ xs))) := by
      simp only [opV, evOp, Opd.ev, appendA, e1, e2, hg, e4, e0, e5, hr, e6, hp, e7, hset_eq, Bool.not_true, Bool.or_self, cond_false, Bool.and_self, cond_true]
      rfl
    refine ⟨_, _, e3, .inr ⟨id, cs ++ xs, by rw [hset_len]; exact h2, by simp, by simp, ?_, ?_, hfrees_app h6 hx2, ?_⟩⟩
    · rw [hat_hset_eq _ h2]
    · rw [List.length_append, h5, hx1, List.length_append, List.length_singleton, Nat.add_mul, Nat.one_mul]
    · rw [fgs_app, h7, hx3, cellsL_append]; simp [cellsL]
end
end Go.AS

namespace Go.AS.Wi
open Go Go.AS Go.Proofs
set_option maxHeartbeats 2000000
set_option maxRecDepth 4000
theorem ge0 (a0 a1 a2 a3 a4 a5 a6 a7 a8 a9 a10 a11 a12 a13 a14 a15 : AV) : [a0, a1, a2, a3, a4, a5, a6, a7, a8, a9, a10, a11, a12, a13, a14, a15][0]? = some a0 := rfl
theorem ge1 (a0 a1 a2 a3 a4 a5 a6 a7 a8 a9 a10 a11 a12 a13 a14 a15 : AV) : [a0, a1, a2, a3, a4, a5, a6, a7, a8, a9, a10, a11, a12, a13, a14, a15][1]? = some a1 := rfl
theorem on5_2 (a0 a1 a2 a3 a4 a5 a6 a7 a8 a9 a10 a11 a12 a13 a14 a15 : AV) : one (some 5) [a0, a1, a2, a3, a4, a5, a6, a7, a8, a9, a10, a11, a12, a13, a14, a15] 2 = some (.agg [a2, a3, a4, a5, a6]) := rfl
theorem on6_10 (a0 a1 a2 a3 a4 a5 a6 a7 a8 a9 a10 a11 a12 a13 a14 a15 : AV) : one (some 6) [a0, a1, a2, a3, a4, a5, a6, a7, a8, a9, a10, a11, a12, a13, a14, a15] 10 = some (.agg [a10, a11, a12, a13, a14, a15]) := rfl
theorem tkd5 (a0 a1 a2 a3 a4 a5 a6 a7 a8 a9 a10 a11 a12 a13 a14 a15 : AV) : List.take 5 (List.drop 2 [a0, a1, a2, a3, a4, a5, a6, a7, a8, a9, a10, a11, a12, a13, a14, a15]) = [a2, a3, a4, a5, a6] := rfl
theorem tkd6 (a0 a1 a2 a3 a4 a5 a6 a7 a8 a9 a10 a11 a12 a13 a14 a15 : AV) : List.take 6 (List.drop 10 [a0, a1, a2, a3, a4, a5, a6, a7, a8, a9, a10, a11, a12, a13, a14, a15]) = [a10, a11, a12, a13, a14, a15] := rfl
theorem opV_bd1 {H : Heap} (s n c p : Int) (x0 x1 x2 x3 x4 : AV) : opV H (.build [AV.int IntKind.i64 0, AV.int IntKind.i64 0, AV.int IntKind.u8 0, AV.str [], AV.str [], AV.int IntKind.i64 0, AV.imm true 0 0 (some 0) [], AV.int IntKind.i64 0, AV.int IntKind.i64 0, AV.int IntKind.i64 0, AV.int IntKind.i64 0, AV.bool false, AV.str [], AV.imm true 0 0 (some 0) [], AV.int IntKind.i64 0, AV.bool false] [(0, 1, .c (.int .i64 s)), (1, 1, .c (.int .i64 n)), (2, 5, .c (.agg [x0, x1, x2, x3, x4])), (7, 1, .c (.int .i64 c)), (8, 1, .c (.int .i64 p))]) =
    some (.agg [.int .i64 s, .int .i64 n, x0, x1, x2, x3, x4, .int .i64 c, .int .i64 p, .int .i64 0, .int .i64 0, .bool false, .str [], .imm true 0 0 (some 0) [], .int .i64 0, .bool false], H) := rfl
theorem opV_bd2 {H : Heap} (s n c b : Int) (x0 x1 x2 x3 x4 y0 y1 y2 y3 y4 y5 : AV) : opV H (.build [AV.int IntKind.i64 0, AV.int IntKind.i64 0, AV.int IntKind.u8 0, AV.str [], AV.str [], AV.int IntKind.i64 0, AV.imm true 0 0 (some 0) [], AV.int IntKind.i64 0, AV.int IntKind.i64 0, AV.int IntKind.i64 0, AV.int IntKind.i64 0, AV.bool false, AV.str [], AV.imm true 0 0 (some 0) [], AV.int IntKind.i64 0, AV.bool false] [(0, 1, .c (.int .i64 s)), (1, 1, .c (.int .i64 n)), (2, 5, .c (.agg [x0, x1, x2, x3, x4])), (7, 1, .c (.int .i64 c)), (9, 1, .c (.int .i64 b)), (10, 6, .c (.agg [y0, y1, y2, y3, y4, y5]))]) =
    some (.agg [.int .i64 s, .int .i64 n, x0, x1, x2, x3, x4, .int .i64 c, .int .i64 0, .int .i64 b, y0, y1, y2, y3, y4, y5], H) := rfl
theorem prefixR_gives (nl : Bool) (l : List Don) (k : Int) (hf : few l) : Gives F 18 [sl nl l, .int .i64 k] (sl (false && (preL l k l.length).isEmpty) (preL l k l.length)) := by
  refine Gives.of fn_r30_Prefix rfl rfl (args' := [sl nl l, .int .i64 k]) (by simp only [mapO_nil, mapO_c2, consO_some, upf_v]) ?_
  simp only [ir_r30_Prefix]
  have hl := hf.1
  simp -failIfUnchanged (disch := first | assumption | omega | (refine room_i _ _ ?_ ?_ <;> omega) | (refine @_root_.id _ ?_; with_unfolding_all exact Eq.refl _) | (simp only [List.length_take, List.length_drop, List.length_append, List.length_cons, List.length_nil, List.length_replicate, List.length_map] <;> omega) | fail) only [rnL, opL, ruL, hpL, rsL, natL, outL, Nat.add_sub_cancel_left, Nat.mul_one, List.length_cons, List.length_nil, Nat.zero_add, Nat.add_zero, Nat.reduceAdd, Nat.reduceMul, Nat.reduceSub, Nat.reduceEqDiff, Nat.reduceLT, Nat.reduceLeDiff, litd_t, litd_f, decide_true, decide_false, Bool.not_true, Bool.not_false, not_true_eq_false, not_false_eq_true, true_and, and_true, false_and, and_false, true_or, or_true, false_or, or_false, Int.toNat_natCast, cond_true, cond_false, List.map_cons, List.map_nil, Option.map_some, Option.map_none]
  refine Run_loop (σ := Nat × Heap × AV) (fun σ => [(0, sl nl l), (1, AV.int IntKind.i64 k), (4, AV.imm true 0 0 (some 0) []), (5, σ.2.2), (6, AV.int IntKind.i64 (σ.1 : Nat))])
    (fun σ => [σ.2.1]) (fun σ => σ.1 ≤ l.length ∧ RowF false σ.2.1 σ.2.2 (preL l k σ.1)) (fun σ => l.length - σ.1) (0, [], .imm false 0 0 (some 0) []) ?_ ?_ ?_ ?_
  · rfl
  · rfl
  · exact ⟨Nat.zero_le _, .inl ⟨rfl, rfl⟩⟩
  · rintro ⟨i, G, w⟩ ⟨h1, h2⟩
    simp only at h1 h2 ⊢
    by_cases hi : i < l.length
    · have hi' : (i : Int) < (l.length : Int) := by omega
      have hz : splice [AV.int IntKind.i64 0, AV.int IntKind.i64 0, AV.int IntKind.u8 0, AV.str [], AV.str [], AV.int IntKind.i64 0, AV.imm true 0 0 (some 0) [], AV.int IntKind.i64 0, AV.int IntKind.i64 0, AV.int IntKind.i64 0, AV.int IntKind.i64 0, AV.bool false, AV.str [], AV.imm true 0 0 (some 0) [], AV.int IntKind.i64 0, AV.bool false] 0 (Cel.enc l[i]) = [.int .i64 l[i].session, .int .i64 l[i].n, .int .u8 l[i].op.kind.toNat, .str l[i].op.key, .str l[i].op.to, .int .i64 l[i].op.n, sl l[i].op.batch.nil l[i].op.batch.l, .int .i64 l[i].call, .int .i64 l[i].point, .int .i64 l[i].back, .int .i64 l[i].reply.err, .bool l[i].reply.found, .str l[i].reply.value, sl l[i].reply.entries.nil l[i].reply.entries.l, .int .i64 l[i].reply.n, .bool l[i].reply.ended] := rfl
      have hpl := preL_len l k i
      have hp : preL l k (i + 1) = if k < l[i].call then preL l k i else preL l k i ++ [prefD k l[i]] := by rw [preL, dif_pos hi]
      by_cases hc : k < l[i].call
      · have hp1 : preL l k (i + 1) = preL l k i := by rw [hp, if_pos hc]
        simp -failIfUnchanged (disch := first | assumption | omega | (refine room_i _ _ ?_ ?_ <;> omega) | (refine @_root_.id _ ?_; with_unfolding_all exact Eq.refl _) | (simp only [List.length_take, List.length_drop, List.length_append, List.length_cons, List.length_nil, List.length_replicate, List.length_map] <;> omega) | fail) only [rnL, opL, ruL, hpL, rsL, natL, outL, Nat.add_sub_cancel_left, Nat.mul_one, List.length_cons, List.length_nil, Nat.zero_add, Nat.add_zero, Nat.reduceAdd, Nat.reduceMul, Nat.reduceSub, Nat.reduceEqDiff, Nat.reduceLT, Nat.reduceLeDiff, litd_t, litd_f, decide_true, decide_false, Bool.not_true, Bool.not_false, not_true_eq_false, not_false_eq_true, true_and, and_true, false_and, and_false, true_or, or_true, false_or, or_false, Int.toNat_natCast, cond_true, cond_false, List.map_cons, List.map_nil, Option.map_some, Option.map_none, hxL, datL, hi', hz, encDon7, on7, ge7, hc]
        refine Next.i (i + 1, _, w) rfl rfl ⟨hi, ?_⟩ (by show l.length - (i + 1) < l.length - i; omega)
        show RowF false (G ++ _) w (preL l k (i + 1))
        rw [hp1]; exact h2.app
      · have hp1 : preL l k (i + 1) = preL l k i ++ [prefD k l[i]] := by rw [hp, if_neg hc]
        have key : ∀ xs : List AV, xs.length = 16 → hfrees xs = true → fgs xs = Cel.enc (prefD k l[i]) → ∃ w' G3, opV (G ++ [.cells xs]) (.append 16 184 (.c w) (.c (.imm false 16 1 (some 1) xs))) = some (w', G3) ∧
            Next (σ := Nat × Heap × AV) (fun σ => [(0, sl nl l), (1, AV.int IntKind.i64 k), (4, AV.imm true 0 0 (some 0) []), (5, σ.2.2), (6, AV.int IntKind.i64 (σ.1 : Nat))]) (fun σ => [σ.2.1]) (fun σ => σ.1 ≤ l.length ∧ RowF false σ.2.1 σ.2.2 (preL l k σ.1)) (fun σ => l.length - σ.1) (l.length - i) [(0, sl nl l), (1, AV.int IntKind.i64 k), (4, AV.imm true 0 0 (some 0) []), (5, w'), (6, AV.int IntKind.i64 (i + 1 : Nat))] [G3] := by
          intro xs x1 x2 x3
          obtain ⟨w', G3, ha, hR3⟩ := RowF.append (es := 16) (bytes := 184) (prefD k l[i]) xs (h2.app (L := [.cells xs])) rfl rfl (by refine room_i _ _ ?_ ?_ <;> omega) x1 x2 x3
          refine ⟨w', G3, ha, Next.i (i + 1, G3, w') rfl rfl ⟨hi, ?_⟩ (by show l.length - (i + 1) < l.length - i; omega)⟩
          show RowF false G3 w' (preL l k (i + 1))
          rw [hp1]; exact hR3
        by_cases hb : k < l[i].back
        · by_cases hq : k < l[i].point
          · obtain ⟨w', G3, ha, nxt⟩ := key [.int .i64 l[i].session, .int .i64 l[i].n, .int .u8 l[i].op.kind.toNat, .str l[i].op.key, .str l[i].op.to, .int .i64 l[i].op.n, sl l[i].op.batch.nil l[i].op.batch.l, .int .i64 l[i].call, .int .i64 0, .int .i64 0, .int .i64 0, .bool false, .str [], .imm true 0 0 (some 0) [], .int .i64 0, .bool false] rfl (by simp only [hfrees_cons, sl_free]; rfl) (by
              have e : prefD k l[i] = { l[i] with back := 0, reply := rep0, point := 0 } := by
                simp only [prefD, hb, hq, if_true, if_false]
              rw [e]
              simp only [fgs_cons, sl_canon]
              rfl)
            simp -failIfUnchanged (disch := first | assumption | omega | (refine room_i _ _ ?_ ?_ <;> omega) | (refine @_root_.id _ ?_; with_unfolding_all exact Eq.refl _) | (simp only [List.length_take, List.length_drop, List.length_append, List.length_cons, List.length_nil, List.length_replicate, List.length_map] <;> omega) | fail) only [rnL, opL, ruL, hpL, rsL, natL, outL, Nat.add_sub_cancel_left, Nat.mul_one, List.length_cons, List.length_nil, Nat.zero_add, Nat.add_zero, Nat.reduceAdd, Nat.reduceMul, Nat.reduceSub, Nat.reduceEqDiff, Nat.reduceLT, Nat.reduceLeDiff, litd_t, litd_f, decide_true, decide_false, Bool.not_true, Bool.not_false, not_true_eq_false, not_false_eq_true, true_and, and_true, false_and, and_false, true_or, or_true, false_or, or_false, Int.toNat_natCast, cond_true, cond_false, List.map_cons, List.map_nil, Option.map_some, Option.map_none, hxL, datL, hi', hz, sp8_1, sp9_1, sp10_6, sp6_1, sp13_1, sp0_16, on6, on7, on8, on9, on13, on16, ge6, ge7, ge8, ge9, ge13, tk16, List.drop_zero, ge0, ge1, on5_2, on6_10, opV_bd1, opV_bd2, tkd5, tkd6, hc, hb, hq, ha]
            exact nxt
          · obtain ⟨w', G3, ha, nxt⟩ := key [.int .i64 l[i].session, .int .i64 l[i].n, .int .u8 l[i].op.kind.toNat, .str l[i].op.key, .str l[i].op.to, .int .i64 l[i].op.n, sl l[i].op.batch.nil l[i].op.batch.l, .int .i64 l[i].call, .int .i64 l[i].point, .int .i64 0, .int .i64 0, .bool false, .str [], .imm true 0 0 (some 0) [], .int .i64 0, .bool false] rfl (by simp only [hfrees_cons, sl_free]; rfl) (by
              have e : prefD k l[i] = { l[i] with back := 0, reply := rep0, point := l[i].point } := by
                simp only [prefD, hb, hq, if_true, if_false]
              rw [e]
              simp only [fgs_cons, sl_canon]
              rfl)
            simp -failIfUnchanged (disch := first | assumption | omega | (refine room_i _ _ ?_ ?_ <;> omega) | (refine @_root_.id _ ?_; with_unfolding_all exact Eq.refl _) | (simp only [List.length_take, List.length_drop, List.length_append, List.length_cons, List.length_nil, List.length_replicate, List.length_map] <;> omega) | fail) only [rnL, opL, ruL, hpL, rsL, natL, outL, Nat.add_sub_cancel_left, Nat.mul_one, List.length_cons, List.length_nil, Nat.zero_add, Nat.add_zero, Nat.reduceAdd, Nat.reduceMul, Nat.reduceSub, Nat.reduceEqDiff, Nat.reduceLT, Nat.reduceLeDiff, litd_t, litd_f, decide_true, decide_false, Bool.not_true, Bool.not_false, not_true_eq_false, not_false_eq_true, true_and, and_true, false_and, and_false, true_or, or_true, false_or, or_false, Int.toNat_natCast, cond_true, cond_false, List.map_cons, List.map_nil, Option.map_some, Option.map_none, hxL, datL, hi', hz, sp8_1, sp9_1, sp10_6, sp6_1, sp13_1, sp0_16, on6, on7, on8, on9, on13, on16, ge6, ge7, ge8, ge9, ge13, tk16, List.drop_zero, ge0, ge1, on5_2, on6_10, opV_bd1, opV_bd2, tkd5, tkd6, hc, hb, hq, ha]
            exact nxt
        · by_cases hq : k < l[i].point
          · obtain ⟨w', G3, ha, nxt⟩ := key [.int .i64 l[i].session, .int .i64 l[i].n, .int .u8 l[i].op.kind.toNat, .str l[i].op.key, .str l[i].op.to, .int .i64 l[i].op.n, sl l[i].op.batch.nil l[i].op.batch.l, .int .i64 l[i].call, .int .i64 0, .int .i64 l[i].back, .int .i64 l[i].reply.err, .bool l[i].reply.found, .str l[i].reply.value, sl l[i].reply.entries.nil l[i].reply.entries.l, .int .i64 l[i].reply.n, .bool l[i].reply.ended] rfl (by simp only [hfrees_cons, sl_free]; rfl) (by
              have e : prefD k l[i] = { l[i] with back := l[i].back, reply := l[i].reply, point := 0 } := by
                simp only [prefD, hb, hq, if_true, if_false]
              rw [e]
              simp only [fgs_cons, sl_canon]
              rfl)
            simp -failIfUnchanged (disch := first | assumption | omega | (refine room_i _ _ ?_ ?_ <;> omega) | (refine @_root_.id _ ?_; with_unfolding_all exact Eq.refl _) | (simp only [List.length_take, List.length_drop, List.length_append, List.length_cons, List.length_nil, List.length_replicate, List.length_map] <;> omega) | fail) only [rnL, opL, ruL, hpL, rsL, natL, outL, Nat.add_sub_cancel_left, Nat.mul_one, List.length_cons, List.length_nil, Nat.zero_add, Nat.add_zero, Nat.reduceAdd, Nat.reduceMul, Nat.reduceSub, Nat.reduceEqDiff, Nat.reduceLT, Nat.reduceLeDiff, litd_t, litd_f, decide_true, decide_false, Bool.not_true, Bool.not_false, not_true_eq_false, not_false_eq_true, true_and, and_true, false_and, and_false, true_or, or_true, false_or, or_false, Int.toNat_natCast, cond_true, cond_false, List.map_cons, List.map_nil, Option.map_some, Option.map_none, hxL, datL, hi', hz, sp8_1, sp9_1, sp10_6, sp6_1, sp13_1, sp0_16, on6, on7, on8, on9, on13, on16, ge6, ge7, ge8, ge9, ge13, tk16, List.drop_zero, ge0, ge1, on5_2, on6_10, opV_bd1, opV_bd2, tkd5, tkd6, hc, hb, hq, ha]
            exact nxt
          · obtain ⟨w', G3, ha, nxt⟩ := key [.int .i64 l[i].session, .int .i64 l[i].n, .int .u8 l[i].op.kind.toNat, .str l[i].op.key, .str l[i].op.to, .int .i64 l[i].op.n, sl l[i].op.batch.nil l[i].op.batch.l, .int .i64 l[i].call, .int .i64 l[i].point, .int .i64 l[i].back, .int .i64 l[i].reply.err, .bool l[i].reply.found, .str l[i].reply.value, sl l[i].reply.entries.nil l[i].reply.entries.l, .int .i64 l[i].reply.n, .bool l[i].reply.ended] rfl (by simp only [hfrees_cons, sl_free]; rfl) (by
              have e : prefD k l[i] = { l[i] with back := l[i].back, reply := l[i].reply, point := l[i].point } := by
                simp only [prefD, hb, hq, if_true, if_false]
              rw [e]
              simp only [fgs_cons, sl_canon]
              rfl)
            simp -failIfUnchanged (disch := first | assumption | omega | (refine room_i _ _ ?_ ?_ <;> omega) | (refine @_root_.id _ ?_; with_unfolding_all exact Eq.refl _) | (simp only [List.length_take, List.length_drop, List.length_append, List.length_cons, List.length_nil, List.length_replicate, List.length_map] <;> omega) | fail) only [rnL, opL, ruL, hpL, rsL, natL, outL, Nat.add_sub_cancel_left, Nat.mul_one, List.length_cons, List.length_nil, Nat.zero_add, Nat.add_zero, Nat.reduceAdd, Nat.reduceMul, Nat.reduceSub, Nat.reduceEqDiff, Nat.reduceLT, Nat.reduceLeDiff, litd_t, litd_f, decide_true, decide_false, Bool.not_true, Bool.not_false, not_true_eq_false, not_false_eq_true, true_and, and_true, false_and, and_false, true_or, or_true, false_or, or_false, Int.toNat_natCast, cond_true, cond_false, List.map_cons, List.map_nil, Option.map_some, Option.map_none, hxL, datL, hi', hz, sp8_1, sp9_1, sp10_6, sp6_1, sp13_1, sp0_16, on6, on7, on8, on9, on13, on16, ge6, ge7, ge8, ge9, ge13, tk16, List.drop_zero, ge0, ge1, on5_2, on6_10, opV_bd1, opV_bd2, tkd5, tkd6, hc, hb, hq, ha]
            exact nxt
    · have : i = l.length := by omega
      subst this
      simp -failIfUnchanged (disch := first | assumption | omega | (refine room_i _ _ ?_ ?_ <;> omega) | (refine @_root_.id _ ?_; with_unfolding_all exact Eq.refl _) | (simp only [List.length_take, List.length_drop, List.length_append, List.length_cons, List.length_nil, List.length_replicate, List.length_map] <;> omega) | fail) only [rnL, opL, ruL, hpL, rsL, natL, outL, Nat.add_sub_cancel_left, Nat.mul_one, List.length_cons, List.length_nil, Nat.zero_add, Nat.add_zero, Nat.reduceAdd, Nat.reduceMul, Nat.reduceSub, Nat.reduceEqDiff, Nat.reduceLT, Nat.reduceLeDiff, litd_t, litd_f, decide_true, decide_false, Bool.not_true, Bool.not_false, not_true_eq_false, not_false_eq_true, true_and, and_true, false_and, and_false, true_or, or_true, false_or, or_false, Int.toNat_natCast, cond_true, cond_false, List.map_cons, List.map_nil, Option.map_some, Option.map_none]
      refine Fin_g (.inr rfl) (by simp only [mapO, resultA_tmp]; simp -failIfUnchanged (disch := first | assumption | omega | (refine room_i _ _ ?_ ?_ <;> omega) | (refine @_root_.id _ ?_; with_unfolding_all exact Eq.refl _) | (simp only [List.length_take, List.length_drop, List.length_append, List.length_cons, List.length_nil, List.length_replicate, List.length_map] <;> omega) | fail) only [rnL, opL, ruL, hpL, rsL, natL, outL, Nat.add_sub_cancel_left, Nat.mul_one, List.length_cons, List.length_nil, Nat.zero_add, Nat.add_zero, Nat.reduceAdd, Nat.reduceMul, Nat.reduceSub, Nat.reduceEqDiff, Nat.reduceLT, Nat.reduceLeDiff, litd_t, litd_f, decide_true, decide_false, Bool.not_true, Bool.not_false, not_true_eq_false, not_false_eq_true, true_and, and_true, false_and, and_false, true_or, or_true, false_or, or_false, Int.toNat_natCast, cond_true, cond_false, List.map_cons, List.map_nil, Option.map_some, Option.map_none, h2.tmp]; rfl) ?_
      exact h2.leave
end Go.AS.Wi

namespace Go.AS.Wi
open Go Go.AS Go.Proofs
set_option maxHeartbeats 2000000
set_option maxRecDepth 4000
theorem encRep0 (r : Rep) : one none (Cel.enc r) 0 = some (.int .i64 r.err) := rfl
theorem encRep1 (r : Rep) : one none (Cel.enc r) 1 = some (.bool r.found) := rfl
theorem encRep2 (r : Rep) : one none (Cel.enc r) 2 = some (.str r.value) := rfl
theorem encRep3 (r : Rep) : one none (Cel.enc r) 3 = some (sl r.entries.nil r.entries.l) := rfl
theorem encRep4 (r : Rep) : one none (Cel.enc r) 4 = some (.int .i64 r.n) := rfl
theorem encRep5 (r : Rep) : one none (Cel.enc r) 5 = some (.bool r.ended) := rfl
theorem opV_eqaE {H : Heap} (a : Ent) : opV H (.eqa true [(0, 1), (1, 1)] (.c (.agg (Cel.enc a))) (.c (.agg (Cel.enc a)))) = some (.bool false, H) := by
  have h : primEqs (Cel.enc a) (Cel.enc a) [(0, 1), (1, 1)] = some true := by
    show primEqs [.str a.key, .str a.value] [.str a.key, .str a.value] [(0, 1), (1, 1)] = some true
    simp [primEqs, primEq]
  simp only [opV, evOp, Opd.ev, h]
  rfl
theorem sameR_gives (r : Rep) (hl : r.entries.l.length ≤ 40) : Gives F 29 [.agg (Cel.enc r), .agg (Cel.enc r)] (.bool true) := by
  refine Gives.of fn_r24_Same rfl rfl (args' := [.agg (Cel.enc r), .agg (Cel.enc r)]) (by simp only [mapO_nil, mapO_c2, consO_some, upf_v]) ?_
  simp only [ir_r24_Same]
  simp -failIfUnchanged (disch := first | assumption | omega | (refine room_i _ _ ?_ ?_ <;> omega) | (refine @_root_.id _ ?_; with_unfolding_all exact Eq.refl _) | (simp only [List.length_take, List.length_drop, List.length_append, List.length_cons, List.length_nil, List.length_replicate, List.length_map] <;> omega) | fail) only [rnL, opL, ruL, hpL, rsL, natL, outL, Nat.add_sub_cancel_left, Nat.mul_one, List.length_cons, List.length_nil, Nat.zero_add, Nat.add_zero, Nat.reduceAdd, Nat.reduceMul, Nat.reduceSub, Nat.reduceEqDiff, Nat.reduceLT, Nat.reduceLeDiff, litd_t, litd_f, decide_true, decide_false, Bool.not_true, Bool.not_false, not_true_eq_false, not_false_eq_true, true_and, and_true, false_and, and_false, true_or, or_true, false_or, or_false, Int.toNat_natCast, cond_true, cond_false, List.map_cons, List.map_nil, Option.map_some, Option.map_none, datL, encRep0, encRep1, encRep2, encRep3, encRep4, encRep5]
  refine Run_upto r.entries.l.length (fun j => [(0, AV.agg (Cel.enc r)), (1, AV.agg (Cel.enc r)), (2, AV.ptr 0 6 0), (3, AV.ptr 1 6 0), (4, AV.bool false), (5, AV.int IntKind.i64 (j : Nat)), (47, AV.bool false)]) (fun _ => [[AObj.cells (Cel.enc r), AObj.cells (Cel.enc r)]]) (fun _ => True) rfl rfl trivial ?_
  intro j hj _
  by_cases h : j < r.entries.l.length
  · have h' : (j : Int) < (r.entries.l.length : Int) := by omega
    simp -failIfUnchanged (disch := first | assumption | omega | (refine room_i _ _ ?_ ?_ <;> omega) | (refine @_root_.id _ ?_; with_unfolding_all exact Eq.refl _) | (simp only [List.length_take, List.length_drop, List.length_append, List.length_cons, List.length_nil, List.length_replicate, List.length_map] <;> omega) | fail) only [rnL, opL, ruL, hpL, rsL, natL, outL, Nat.add_sub_cancel_left, Nat.mul_one, List.length_cons, List.length_nil, Nat.zero_add, Nat.add_zero, Nat.reduceAdd, Nat.reduceMul, Nat.reduceSub, Nat.reduceEqDiff, Nat.reduceLT, Nat.reduceLeDiff, litd_t, litd_f, decide_true, decide_false, Bool.not_true, Bool.not_false, not_true_eq_false, not_false_eq_true, true_and, and_true, false_and, and_false, true_or, or_true, false_or, or_false, Int.toNat_natCast, cond_true, cond_false, List.map_cons, List.map_nil, Option.map_some, Option.map_none, datL, encRep3, h', opV_eqaE]
    exact .i h (by first | exact trivial | rfl) (by first | exact trivial | rfl) trivial
  · have : j = r.entries.l.length := by omega
    subst this
    simp -failIfUnchanged (disch := first | assumption | omega | (refine room_i _ _ ?_ ?_ <;> omega) | (refine @_root_.id _ ?_; with_unfolding_all exact Eq.refl _) | (simp only [List.length_take, List.length_drop, List.length_append, List.length_cons, List.length_nil, List.length_replicate, List.length_map] <;> omega) | fail) only [rnL, opL, ruL, hpL, rsL, natL, outL, Nat.add_sub_cancel_left, Nat.mul_one, List.length_cons, List.length_nil, Nat.zero_add, Nat.add_zero, Nat.reduceAdd, Nat.reduceMul, Nat.reduceSub, Nat.reduceEqDiff, Nat.reduceLT, Nat.reduceLeDiff, litd_t, litd_f, decide_true, decide_false, Bool.not_true, Bool.not_false, not_true_eq_false, not_false_eq_true, true_and, and_true, false_and, and_false, true_or, or_true, false_or, or_false, Int.toNat_natCast, cond_true, cond_false, List.map_cons, List.map_nil, Option.map_some, Option.map_none, datL, encRep3]
    (refine Fin_g (.inr rfl) (by simp -failIfUnchanged (disch := first | assumption | omega | (refine room_i _ _ ?_ ?_ <;> omega) | (refine @_root_.id _ ?_; with_unfolding_all exact Eq.refl _) | (simp only [List.length_take, List.length_drop, List.length_append, List.length_cons, List.length_nil, List.length_replicate, List.length_map] <;> omega) | fail) only [rnL, opL, ruL, hpL, rsL, natL, outL, Nat.add_sub_cancel_left, Nat.mul_one, List.length_cons, List.length_nil, Nat.zero_add, Nat.add_zero, Nat.reduceAdd, Nat.reduceMul, Nat.reduceSub, Nat.reduceEqDiff, Nat.reduceLT, Nat.reduceLeDiff, litd_t, litd_f, decide_true, decide_false, Bool.not_true, Bool.not_false, not_true_eq_false, not_false_eq_true, true_and, and_true, false_and, and_false, true_or, or_true, false_or, or_false, Int.toNat_natCast, cond_true, cond_false, List.map_cons, List.map_nil, Option.map_some, Option.map_none]; rfl) ?_; simp -failIfUnchanged (disch := first | assumption | omega | (refine room_i _ _ ?_ ?_ <;> omega) | (refine @_root_.id _ ?_; with_unfolding_all exact Eq.refl _) | (simp only [List.length_take, List.length_drop, List.length_append, List.length_cons, List.length_nil, List.length_replicate, List.length_map] <;> omega) | fail) only [rnL, opL, ruL, hpL, rsL, natL, outL, Nat.add_sub_cancel_left, Nat.mul_one, List.length_cons, List.length_nil, Nat.zero_add, Nat.add_zero, Nat.reduceAdd, Nat.reduceMul, Nat.reduceSub, Nat.reduceEqDiff, Nat.reduceLT, Nat.reduceLeDiff, litd_t, litd_f, decide_true, decide_false, Bool.not_true, Bool.not_false, not_true_eq_false, not_false_eq_true, true_and, and_true, false_and, and_false, true_or, or_true, false_or, or_false, Int.toNat_natCast, cond_true, cond_false, List.map_cons, List.map_nil, Option.map_some, Option.map_none])
theorem encDon0 (d : Don) : one none (Cel.enc d) 0 = some (.int .i64 d.session) := rfl
theorem encDon1 (d : Don) : one none (Cel.enc d) 1 = some (.int .i64 d.n) := rfl
theorem encDonR (d : Don) : one (some 6) (Cel.enc d) 10 = some (.agg (Cel.enc d.reply)) := rfl
theorem opV_diffE {α : Type} [Cel α] {H : Heap} {l : List α} {i : Nat} {v : AV} : opV H (.diff (.c (elp l i)) (.c v)) = some (.undef, H) := rfl
theorem opV_slots2 {G : Heap} : opV G (.slots 2) = some (.undef, G ++ [.slot, .slot]) := rfl
theorem opV_allocAE {G L : Heap} {d : Nat} {z : List AV} (h : hat L (L.length - d) = .slot) (hd : Nat.ble d L.length = true) : opV (G ++ L) (.allocA d z) = some (.ptr (G.length + (L.length - d)) z.length 0, G ++ hset L (L.length - d) (.cells z)) := by
  have hd2 := Nat.le_of_ble_eq_true hd
  have e : (G ++ L).length - d = G.length + (L.length - d) := by rw [List.length_append]; omega
  have h1 : (G ++ L)[G.length + (L.length - d)]? = some .slot := by
    have : hat (G ++ L) (G.length + (L.length - d)) = .slot := by rw [hat_end, h]
    exact hat_lt (by intro h; cases h) this
  have h2 : Nat.ble d (G ++ L).length = true := Nat.ble_eq_true_of_le (by rw [List.length_append]; omega)
  simp only [opV, evOp, e, h1, h2, cond_true, ok, hset_eq, hset_end]
theorem same_gives (n1 n2 : Bool) (l : List Don) (hl : l.length ≤ 40) (hr : ∀ d ∈ l, d.reply.entries.l.length ≤ 40) : Gives F 16 [sl n1 l, sl n2 l] (.bool true) := by
  refine Gives.of fn_r30_Same rfl rfl (args' := [sl n1 l, sl n2 l]) (by simp only [mapO_nil, mapO_c2, consO_some, upf_v]) ?_
  simp only [ir_r30_Same]
  simp -failIfUnchanged (disch := first | assumption | omega | (refine room_i _ _ ?_ ?_ <;> omega) | (refine @_root_.id _ ?_; with_unfolding_all exact Eq.refl _) | (simp only [List.length_take, List.length_drop, List.length_append, List.length_cons, List.length_nil, List.length_replicate, List.length_map] <;> omega) | fail) only [rnL, opL, ruL, hpL, rsL, natL, outL, Nat.add_sub_cancel_left, Nat.mul_one, List.length_cons, List.length_nil, Nat.zero_add, Nat.add_zero, Nat.reduceAdd, Nat.reduceMul, Nat.reduceSub, Nat.reduceEqDiff, Nat.reduceLT, Nat.reduceLeDiff, litd_t, litd_f, decide_true, decide_false, Bool.not_true, Bool.not_false, not_true_eq_false, not_false_eq_true, true_and, and_true, false_and, and_false, true_or, or_true, false_or, or_false, Int.toNat_natCast, cond_true, cond_false, List.map_cons, List.map_nil, Option.map_some, Option.map_none]
  refine Run_loop (σ := Nat × Heap) (fun σ => [(0, sl n1 l), (1, sl n2 l), (4, AV.bool false), (5, AV.int IntKind.i64 (σ.1 : Nat)), (12, AV.bool false)]) (fun σ => [σ.2]) (fun σ => σ.1 ≤ l.length) (fun σ => l.length - σ.1) (0, []) rfl rfl (Nat.zero_le _) ?_
  rintro ⟨i, G⟩ h1
  simp only at h1 ⊢
  by_cases hi : i < l.length
  · have hi' : (i : Int) < (l.length : Int) := by omega
    have hz : splice [AV.int IntKind.i64 0, AV.int IntKind.i64 0, AV.int IntKind.u8 0, AV.str [], AV.str [], AV.int IntKind.i64 0, AV.imm true 0 0 (some 0) [], AV.int IntKind.i64 0, AV.int IntKind.i64 0, AV.int IntKind.i64 0, AV.int IntKind.i64 0, AV.bool false, AV.str [], AV.imm true 0 0 (some 0) [], AV.int IntKind.i64 0, AV.bool false] 0 (Cel.enc l[i]) = Cel.enc l[i] := rfl
    have g : CallpIs F 29 [.agg (Cel.enc l[i].reply), .agg (Cel.enc l[i].reply)] (.bool true) := (sameR_gives l[i].reply (hr _ (List.getElem_mem hi))).isp (by rw [hfrees_cons, hfrees_cons, hfree_enc]; rfl) rfl
    simp -failIfUnchanged (disch := first | assumption | omega | (refine room_i _ _ ?_ ?_ <;> omega) | (refine @_root_.id _ ?_; with_unfolding_all exact Eq.refl _) | (simp only [List.length_take, List.length_drop, List.length_append, List.length_cons, List.length_nil, List.length_replicate, List.length_map] <;> omega) | fail) only [rnL, opL, ruL, hpL, rsL, natL, outL, Nat.add_sub_cancel_left, Nat.mul_one, List.length_cons, List.length_nil, Nat.zero_add, Nat.add_zero, Nat.reduceAdd, Nat.reduceMul, Nat.reduceSub, Nat.reduceEqDiff, Nat.reduceLT, Nat.reduceLeDiff, litd_t, litd_f, decide_true, decide_false, Bool.not_true, Bool.not_false, not_true_eq_false, not_false_eq_true, true_and, and_true, false_and, and_false, true_or, or_true, false_or, or_false, Int.toNat_natCast, cond_true, cond_false, List.map_cons, List.map_nil, Option.map_some, Option.map_none, hxL, datL, hi', hz, encDon0, encDon1, encDon7, encDon8, encDonR, g, opV_slots2, opV_allocAE, opV_diffE]
    exact Next.i (i + 1, _) rfl rfl hi (by show l.length - (i + 1) < l.length - i; omega)
  · have : i = l.length := by omega
    subst this
    simp -failIfUnchanged (disch := first | assumption | omega | (refine room_i _ _ ?_ ?_ <;> omega) | (refine @_root_.id _ ?_; with_unfolding_all exact Eq.refl _) | (simp only [List.length_take, List.length_drop, List.length_append, List.length_cons, List.length_nil, List.length_replicate, List.length_map] <;> omega) | fail) only [rnL, opL, ruL, hpL, rsL, natL, outL, Nat.add_sub_cancel_left, Nat.mul_one, List.length_cons, List.length_nil, Nat.zero_add, Nat.add_zero, Nat.reduceAdd, Nat.reduceMul, Nat.reduceSub, Nat.reduceEqDiff, Nat.reduceLT, Nat.reduceLeDiff, litd_t, litd_f, decide_true, decide_false, Bool.not_true, Bool.not_false, not_true_eq_false, not_false_eq_true, true_and, and_true, false_and, and_false, true_or, or_true, false_or, or_false, Int.toNat_natCast, cond_true, cond_false, List.map_cons, List.map_nil, Option.map_some, Option.map_none]
    (refine Fin_g (.inr rfl) (by simp -failIfUnchanged (disch := first | assumption | omega | (refine room_i _ _ ?_ ?_ <;> omega) | (refine @_root_.id _ ?_; with_unfolding_all exact Eq.refl _) | (simp only [List.length_take, List.length_drop, List.length_append, List.length_cons, List.length_nil, List.length_replicate, List.length_map] <;> omega) | fail) only [rnL, opL, ruL, hpL, rsL, natL, outL, Nat.add_sub_cancel_left, Nat.mul_one, List.length_cons, List.length_nil, Nat.zero_add, Nat.add_zero, Nat.reduceAdd, Nat.reduceMul, Nat.reduceSub, Nat.reduceEqDiff, Nat.reduceLT, Nat.reduceLeDiff, litd_t, litd_f, decide_true, decide_false, Bool.not_true, Bool.not_false, not_true_eq_false, not_false_eq_true, true_and, and_true, false_and, and_false, true_or, or_true, false_or, or_false, Int.toNat_natCast, cond_true, cond_false, List.map_cons, List.map_nil, Option.map_some, Option.map_none]; rfl) ?_; simp -failIfUnchanged (disch := first | assumption | omega | (refine room_i _ _ ?_ ?_ <;> omega) | (refine @_root_.id _ ?_; with_unfolding_all exact Eq.refl _) | (simp only [List.length_take, List.length_drop, List.length_append, List.length_cons, List.length_nil, List.length_replicate, List.length_map] <;> omega) | fail) only [rnL, opL, ruL, hpL, rsL, natL, outL, Nat.add_sub_cancel_left, Nat.mul_one, List.length_cons, List.length_nil, Nat.zero_add, Nat.add_zero, Nat.reduceAdd, Nat.reduceMul, Nat.reduceSub, Nat.reduceEqDiff, Nat.reduceLT, Nat.reduceLeDiff, litd_t, litd_f, decide_true, decide_false, Bool.not_true, Bool.not_false, not_true_eq_false, not_false_eq_true, true_and, and_true, false_and, and_false, true_or, or_true, false_or, or_false, Int.toNat_natCast, cond_true, cond_false, List.map_cons, List.map_nil, Option.map_some, Option.map_none])
end Go.AS.Wi
