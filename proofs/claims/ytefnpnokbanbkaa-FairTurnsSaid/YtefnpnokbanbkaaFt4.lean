import Derived.Test.YtefnpnokbanbkaaFt3
set_option linter.all false
namespace Go.AS.Ft
open Go Go.AS Go.Proofs
set_option maxHeartbeats 1000000

theorem few_is (nl : Bool) (l : List Int) (hl : l.length ≤ 9223372036854775807) : CallIs F 8 [sl nl l] (sl nl (l.take 60)) := by
  refine Gives.is ?_
  refine Gives.of fn8 rfl rfl (args' := [sl nl l]) (by simp only [mapO_nil, mapO_c2, consO_some, upf_v]) ?_
  simp only [ir8]
  simp -failIfUnchanged (disch := first | assumption | omega | (refine room_i _ _ ?_ ?_ <;> omega) | (refine @id _ ?_; with_unfolding_all exact Eq.refl _) | (simp only [List.length_take, List.length_drop, List.length_append, List.length_cons, List.length_nil, List.length_replicate, List.length_map] <;> omega)) only [rnL, opL, ruL, hpL, natL, outL, Nat.add_sub_cancel_left, Nat.mul_one, Nat.reduceAdd, Nat.reduceMul, Nat.reduceSub, Nat.reduceEqDiff, Nat.reduceLT, Nat.reduceLeDiff, litd_t, litd_f, decide_true, decide_false, Bool.not_true, Bool.not_false, not_true_eq_false, not_false_eq_true, true_and, and_true, false_and, and_false, true_or, or_true, false_or, or_false, Int.toNat_natCast, cond_true, cond_false, List.map_cons, List.map_nil, Option.map_some, Option.map_none]
  (refine Fin_i (.inr rfl) rfl (by simp -failIfUnchanged (disch := first | assumption | omega | (refine room_i _ _ ?_ ?_ <;> omega) | (refine @id _ ?_; with_unfolding_all exact Eq.refl _) | (simp only [List.length_take, List.length_drop, List.length_append, List.length_cons, List.length_nil, List.length_replicate, List.length_map] <;> omega)) only [rnL, opL, ruL, hpL, natL, outL, Nat.add_sub_cancel_left, Nat.mul_one, Nat.reduceAdd, Nat.reduceMul, Nat.reduceSub, Nat.reduceEqDiff, Nat.reduceLT, Nat.reduceLeDiff, litd_t, litd_f, decide_true, decide_false, Bool.not_true, Bool.not_false, not_true_eq_false, not_false_eq_true, true_and, and_true, false_and, and_false, true_or, or_true, false_or, or_false, Int.toNat_natCast, cond_true, cond_false, List.map_cons, List.map_nil, Option.map_some, Option.map_none]) ?_; simp -failIfUnchanged (disch := first | assumption | omega | (refine room_i _ _ ?_ ?_ <;> omega) | (refine @id _ ?_; with_unfolding_all exact Eq.refl _) | (simp only [List.length_take, List.length_drop, List.length_append, List.length_cons, List.length_nil, List.length_replicate, List.length_map] <;> omega)) only [rnL, opL, ruL, hpL, natL, outL, Nat.add_sub_cancel_left, Nat.mul_one, Nat.reduceAdd, Nat.reduceMul, Nat.reduceSub, Nat.reduceEqDiff, Nat.reduceLT, Nat.reduceLeDiff, litd_t, litd_f, decide_true, decide_false, Bool.not_true, Bool.not_false, not_true_eq_false, not_false_eq_true, true_and, and_true, false_and, and_false, true_or, or_true, false_or, or_false, Int.toNat_natCast, cond_true, cond_false, List.map_cons, List.map_nil, Option.map_some, Option.map_none])
  have : (min (l.length : Int) 60).toNat = min l.length 60 := by omega
  rw [this]
  rcases Nat.le_total l.length 60 with h | h
  · rw [Nat.min_eq_left h, List.take_of_length_le (Nat.le_refl _), List.take_of_length_le h]
  · rw [Nat.min_eq_right h]
theorem live_is : CallIs F 13 [] (.bool true) := Gives.is ⟨60, live_gives⟩
theorem tn_flat (p w : List Int) : ∀ i, i ≤ p.length → (tn p w i).1.flatten = p.take (tn p w i).2 := by
  intro i
  induction i with
  | zero => intro _; simp [tn]
  | succ i ih =>
    intro hi
    have h1 := ih (by omega)
    have h2 := tn_le p w i
    by_cases h : w ≠ [] ∧ ∀ y ∈ w, y ∈ seg p (tn p w i).2 (i + 1)
    · rw [tn_pos h, List.flatten_append, h1]
      simp only [List.flatten_cons, List.flatten_nil, List.append_nil, seg]
      rw [← List.take_add, show (tn p w i).2 + (i + 1 - (tn p w i).2) = i + 1 by omega]
    · rw [tn_neg h]; exact h1
theorem part_eq {p : List Int} {L : List (List Int)} {k : Nat} (h : L.flatten = p.take k) (i : Nat) (hi : i < L.length) :
    (L.take i).flatten.length + L[i].length ≤ p.length ∧ (p.drop (L.take i).flatten.length).take L[i].length = L[i] ∧ (L.take (i + 1)).flatten.length = (L.take i).flatten.length + L[i].length := by
  have e : L = L.take i ++ L[i] :: L.drop (i + 1) := by rw [← List.drop_eq_getElem_cons hi, List.take_append_drop]
  have e2 : L.flatten = (L.take i).flatten ++ (L[i] ++ (L.drop (i + 1)).flatten) :=
    (congrArg List.flatten e).trans (by rw [List.flatten_append, List.flatten_cons])
  have e3 : p = (L.take i).flatten ++ (L[i] ++ ((L.drop (i + 1)).flatten ++ p.drop k)) := by
    rw [← List.append_assoc, ← List.append_assoc, List.append_assoc _ L[i], ← e2, h, List.take_append_drop]
  refine ⟨?_, ?_, ?_⟩
  · have := congrArg List.length e3
    simp only [List.length_append] at this
    omega
  · conv => lhs; rw [e3]
    rw [List.drop_left, List.take_left]
  · rw [take_snoc L i hi, List.flatten_append, List.length_append]; simp only [List.flatten_cons, List.flatten_nil, List.append_nil]
theorem same_s (n1 n2 : Bool) (a b : List Int) (ha : a.length ≤ 9223372036854775807) (hb : b.length ≤ 9223372036854775807) : CallsIs F 16 [sl n1 a, sl n2 b] (.bool (decide (a = b))) :=
  (same_gives n1 n2 a b ha hb).iss (by simp [hfrees, sl_free]) rfl
theorem law (n1 n2 : Bool) (p0 w0 : List Int) (n : Int) (hn1 : n1 = true → p0 = []) (hp0 : p0.length ≤ 9223372036854775807) (hw0 : w0.length ≤ 9223372036854775807) (hn : n ≤ 9223372036854775807) : Gives F 4 [sl n1 p0, sl n2 w0, .int .i64 n] (.bool true) := by
  have fp := few_is n1 p0 hp0
  have fw := few_is n2 w0 hw0
  have hp : (p0.take 60).length ≤ 60 := by simp; omega
  have hw : (w0.take 60).length ≤ 60 := by simp; omega
  have hn1 : n1 = true → p0.take 60 = [] := fun h => by rw [hn1 h]; rfl
  refine Gives.of fn4 rfl rfl (args' := [sl n1 p0, sl n2 w0, .int .i64 n]) (by simp only [mapO_nil, mapO_c2, consO_some, upf_v]) ?_
  generalize p0.take 60 = p at *
  generalize w0.take 60 = w at *
  have h1 := turns_is n1 n2 p w hn1 hp hw
  have h2 := ref_turns_is n1 n2 p w hp hw
  have hL := tn_le p w p.length
  have hflat := tn_flat p w p.length (Nat.le_refl _)
  generalize (tn p w p.length).1 = L at *
  generalize (tn p w p.length).2 = at0 at *
  simp only [ir4]
  simp -failIfUnchanged (disch := first | assumption | omega | (refine room_i _ _ ?_ ?_ <;> omega) | (refine @id _ ?_; with_unfolding_all exact Eq.refl _) | (simp only [List.length_take, List.length_drop, List.length_append, List.length_cons, List.length_nil, List.length_replicate, List.length_map] <;> omega)) only [rnL, opL, ruL, hpL, natL, outL, Nat.add_sub_cancel_left, Nat.mul_one, Nat.reduceAdd, Nat.reduceMul, Nat.reduceSub, Nat.reduceEqDiff, Nat.reduceLT, Nat.reduceLeDiff, litd_t, litd_f, decide_true, decide_false, Bool.not_true, Bool.not_false, not_true_eq_false, not_false_eq_true, true_and, and_true, false_and, and_false, true_or, or_true, false_or, or_false, Int.toNat_natCast, cond_true, cond_false, List.map_cons, List.map_nil, Option.map_some, Option.map_none, fp, fw, h1, h2, List.length_map]
  refine Run_upto L.length (fun i => [(0, sl n1 p), (1, sl n2 w), (2, AV.int IntKind.i64 n), (6, AV.bool false), (7, sl L.isEmpty (List.map (Sl.mk n1) L)), (8, sl false (List.map (Sl.mk n1) L)), (9, AV.int IntKind.i64 (L.take i).flatten.length), (10, AV.int IntKind.i64 i), (28, AV.bool false)])
    (fun _ => [[]]) (fun _ => True) rfl rfl trivial ?_
  intro i hi _
  simp -failIfUnchanged (disch := first | assumption | omega | (refine room_i _ _ ?_ ?_ <;> omega) | (refine @id _ ?_; with_unfolding_all exact Eq.refl _) | (simp only [List.length_take, List.length_drop, List.length_append, List.length_cons, List.length_nil, List.length_replicate, List.length_map] <;> omega)) only [rnL, opL, ruL, hpL, natL, outL, Nat.add_sub_cancel_left, Nat.mul_one, Nat.reduceAdd, Nat.reduceMul, Nat.reduceSub, Nat.reduceEqDiff, Nat.reduceLT, Nat.reduceLeDiff, litd_t, litd_f, decide_true, decide_false, Bool.not_true, Bool.not_false, not_true_eq_false, not_false_eq_true, true_and, and_true, false_and, and_false, true_or, or_true, false_or, or_false, Int.toNat_natCast, cond_true, cond_false, List.map_cons, List.map_nil, Option.map_some, Option.map_none, List.length_map]
  (first | refine RunB_i (fun h => ?_) (fun h => ?_) | refine RunG_i (fun h => ?_) (fun h => ?_) | refine RunB_ib (fun h => ?_) (fun h => ?_))
  · have hlt : i < L.length := by omega
    have hlm : i < (L.map (Sl.mk n1)).length := by simpa using hlt
    obtain ⟨q1, q2, q3⟩ := part_eq hflat i hlt
    simp -failIfUnchanged (disch := first | assumption | omega | (refine room_i _ _ ?_ ?_ <;> omega) | (refine @id _ ?_; with_unfolding_all exact Eq.refl _) | (simp only [List.length_take, List.length_drop, List.length_append, List.length_cons, List.length_nil, List.length_replicate, List.length_map] <;> omega)) only [rnL, opL, ruL, hpL, natL, outL, Nat.add_sub_cancel_left, Nat.mul_one, Nat.reduceAdd, Nat.reduceMul, Nat.reduceSub, Nat.reduceEqDiff, Nat.reduceLT, Nat.reduceLeDiff, litd_t, litd_f, decide_true, decide_false, Bool.not_true, Bool.not_false, not_true_eq_false, not_false_eq_true, true_and, and_true, false_and, and_false, true_or, or_true, false_or, or_false, Int.toNat_natCast, cond_true, cond_false, List.map_cons, List.map_nil, Option.map_some, Option.map_none, List.getElem_map, List.length_map, same_s, q2]
    rw [← q3]
    exact .i hlt (by first | exact trivial | rfl) (by first | exact trivial | rfl) trivial
  · have : i = L.length := by omega
    subst this
    simp -failIfUnchanged (disch := first | assumption | omega | (refine room_i _ _ ?_ ?_ <;> omega) | (refine @id _ ?_; with_unfolding_all exact Eq.refl _) | (simp only [List.length_take, List.length_drop, List.length_append, List.length_cons, List.length_nil, List.length_replicate, List.length_map] <;> omega)) only [rnL, opL, ruL, hpL, natL, outL, Nat.add_sub_cancel_left, Nat.mul_one, Nat.reduceAdd, Nat.reduceMul, Nat.reduceSub, Nat.reduceEqDiff, Nat.reduceLT, Nat.reduceLeDiff, litd_t, litd_f, decide_true, decide_false, Bool.not_true, Bool.not_false, not_true_eq_false, not_false_eq_true, true_and, and_true, false_and, and_false, true_or, or_true, false_or, or_false, Int.toNat_natCast, cond_true, cond_false, List.map_cons, List.map_nil, Option.map_some, Option.map_none, List.length_map]
    (first | refine RunB_i (fun h3 => ?_) (fun h3 => ?_) | refine RunG_i (fun h3 => ?_) (fun h3 => ?_) | refine RunB_ib (fun h3 => ?_) (fun h3 => ?_))
    · simp -failIfUnchanged (disch := first | assumption | omega | (refine room_i _ _ ?_ ?_ <;> omega) | (refine @id _ ?_; with_unfolding_all exact Eq.refl _) | (simp only [List.length_take, List.length_drop, List.length_append, List.length_cons, List.length_nil, List.length_replicate, List.length_map] <;> omega)) only [rnL, opL, ruL, hpL, natL, outL, Nat.add_sub_cancel_left, Nat.mul_one, Nat.reduceAdd, Nat.reduceMul, Nat.reduceSub, Nat.reduceEqDiff, Nat.reduceLT, Nat.reduceLeDiff, litd_t, litd_f, decide_true, decide_false, Bool.not_true, Bool.not_false, not_true_eq_false, not_false_eq_true, true_and, and_true, false_and, and_false, true_or, or_true, false_or, or_false, Int.toNat_natCast, cond_true, cond_false, List.map_cons, List.map_nil, Option.map_some, Option.map_none, live_is]
      (refine Fin_i (.inr rfl) rfl (by simp -failIfUnchanged (disch := first | assumption | omega | (refine room_i _ _ ?_ ?_ <;> omega) | (refine @id _ ?_; with_unfolding_all exact Eq.refl _) | (simp only [List.length_take, List.length_drop, List.length_append, List.length_cons, List.length_nil, List.length_replicate, List.length_map] <;> omega)) only [rnL, opL, ruL, hpL, natL, outL, Nat.add_sub_cancel_left, Nat.mul_one, Nat.reduceAdd, Nat.reduceMul, Nat.reduceSub, Nat.reduceEqDiff, Nat.reduceLT, Nat.reduceLeDiff, litd_t, litd_f, decide_true, decide_false, Bool.not_true, Bool.not_false, not_true_eq_false, not_false_eq_true, true_and, and_true, false_and, and_false, true_or, or_true, false_or, or_false, Int.toNat_natCast, cond_true, cond_false, List.map_cons, List.map_nil, Option.map_some, Option.map_none]) ?_; simp -failIfUnchanged (disch := first | assumption | omega | (refine room_i _ _ ?_ ?_ <;> omega) | (refine @id _ ?_; with_unfolding_all exact Eq.refl _) | (simp only [List.length_take, List.length_drop, List.length_append, List.length_cons, List.length_nil, List.length_replicate, List.length_map] <;> omega)) only [rnL, opL, ruL, hpL, natL, outL, Nat.add_sub_cancel_left, Nat.mul_one, Nat.reduceAdd, Nat.reduceMul, Nat.reduceSub, Nat.reduceEqDiff, Nat.reduceLT, Nat.reduceLeDiff, litd_t, litd_f, decide_true, decide_false, Bool.not_true, Bool.not_false, not_true_eq_false, not_false_eq_true, true_and, and_true, false_and, and_false, true_or, or_true, false_or, or_false, Int.toNat_natCast, cond_true, cond_false, List.map_cons, List.map_nil, Option.map_some, Option.map_none])
    · simp -failIfUnchanged (disch := first | assumption | omega | (refine room_i _ _ ?_ ?_ <;> omega) | (refine @id _ ?_; with_unfolding_all exact Eq.refl _) | (simp only [List.length_take, List.length_drop, List.length_append, List.length_cons, List.length_nil, List.length_replicate, List.length_map] <;> omega)) only [rnL, opL, ruL, hpL, natL, outL, Nat.add_sub_cancel_left, Nat.mul_one, Nat.reduceAdd, Nat.reduceMul, Nat.reduceSub, Nat.reduceEqDiff, Nat.reduceLT, Nat.reduceLeDiff, litd_t, litd_f, decide_true, decide_false, Bool.not_true, Bool.not_false, not_true_eq_false, not_false_eq_true, true_and, and_true, false_and, and_false, true_or, or_true, false_or, or_false, Int.toNat_natCast, cond_true, cond_false, List.map_cons, List.map_nil, Option.map_some, Option.map_none, rounds_is]
      refine Run_upto n.toNat (fun i => [(0, sl n1 p), (1, sl n2 w), (2, AV.int IntKind.i64 n), (6, AV.bool false), (7, sl L.isEmpty (List.map (Sl.mk n1) L)), (8, sl false (List.map (Sl.mk n1) L)), (9, AV.int IntKind.i64 (L.take L.length).flatten.length), (10, AV.int IntKind.i64 L.length),
        (11, sl false (List.replicate n.toNat w).flatten), (12, bv 0 false (List.replicate i w).flatten), (13, AV.int IntKind.i64 i), (28, AV.bool false), (83, AV.bool false)])
        (fun i => [bh [] (List.replicate i w).flatten]) (fun _ => True) rfl rfl trivial ?_
      intro i hi2 _
      have hr1 : (List.replicate i w).flatten.length ≤ 6000 := by
        rw [rep_len]
        have := Nat.mul_le_mul hw (show i ≤ 100 by omega)
        omega
      simp -failIfUnchanged (disch := first | assumption | omega | (refine room_i _ _ ?_ ?_ <;> omega) | (refine @id _ ?_; with_unfolding_all exact Eq.refl _) | (simp only [List.length_take, List.length_drop, List.length_append, List.length_cons, List.length_nil, List.length_replicate, List.length_map] <;> omega)) only [rnL, opL, ruL, hpL, natL, outL, Nat.add_sub_cancel_left, Nat.mul_one, Nat.reduceAdd, Nat.reduceMul, Nat.reduceSub, Nat.reduceEqDiff, Nat.reduceLT, Nat.reduceLeDiff, litd_t, litd_f, decide_true, decide_false, Bool.not_true, Bool.not_false, not_true_eq_false, not_false_eq_true, true_and, and_true, false_and, and_false, true_or, or_true, false_or, or_false, Int.toNat_natCast, cond_true, cond_false, List.map_cons, List.map_nil, Option.map_some, Option.map_none]
      (first | refine RunB_i (fun h4 => ?_) (fun h4 => ?_) | refine RunG_i (fun h4 => ?_) (fun h4 => ?_) | refine RunB_ib (fun h4 => ?_) (fun h4 => ?_))
      · simp -failIfUnchanged (disch := first | assumption | omega | (refine room_i _ _ ?_ ?_ <;> omega) | (refine @id _ ?_; with_unfolding_all exact Eq.refl _) | (simp only [List.length_take, List.length_drop, List.length_append, List.length_cons, List.length_nil, List.length_replicate, List.length_map] <;> omega)) only [rnL, opL, ruL, hpL, natL, outL, Nat.add_sub_cancel_left, Nat.mul_one, Nat.reduceAdd, Nat.reduceMul, Nat.reduceSub, Nat.reduceEqDiff, Nat.reduceLT, Nat.reduceLeDiff, litd_t, litd_f, decide_true, decide_false, Bool.not_true, Bool.not_false, not_true_eq_false, not_false_eq_true, true_and, and_true, false_and, and_false, true_or, or_true, false_or, or_false, Int.toNat_natCast, cond_true, cond_false, List.map_cons, List.map_nil, Option.map_some, Option.map_none]
        refine .i (by omega) ?_ ?_ trivial
        · rw [List.replicate_succ', List.flatten_append]; simp
        · rw [List.replicate_succ', List.flatten_append]; simp
      · have : i = n.toNat := by omega
        subst this
        simp -failIfUnchanged (disch := first | assumption | omega | (refine room_i _ _ ?_ ?_ <;> omega) | (refine @id _ ?_; with_unfolding_all exact Eq.refl _) | (simp only [List.length_take, List.length_drop, List.length_append, List.length_cons, List.length_nil, List.length_replicate, List.length_map] <;> omega)) only [rnL, opL, ruL, hpL, natL, outL, Nat.add_sub_cancel_left, Nat.mul_one, Nat.reduceAdd, Nat.reduceMul, Nat.reduceSub, Nat.reduceEqDiff, Nat.reduceLT, Nat.reduceLeDiff, litd_t, litd_f, decide_true, decide_false, Bool.not_true, Bool.not_false, not_true_eq_false, not_false_eq_true, true_and, and_true, false_and, and_false, true_or, or_true, false_or, or_false, Int.toNat_natCast, cond_true, cond_false, List.map_cons, List.map_nil, Option.map_some, Option.map_none, live_is, same_s]
        (refine Fin_i (.inr rfl) rfl (by simp -failIfUnchanged (disch := first | assumption | omega | (refine room_i _ _ ?_ ?_ <;> omega) | (refine @id _ ?_; with_unfolding_all exact Eq.refl _) | (simp only [List.length_take, List.length_drop, List.length_append, List.length_cons, List.length_nil, List.length_replicate, List.length_map] <;> omega)) only [rnL, opL, ruL, hpL, natL, outL, Nat.add_sub_cancel_left, Nat.mul_one, Nat.reduceAdd, Nat.reduceMul, Nat.reduceSub, Nat.reduceEqDiff, Nat.reduceLT, Nat.reduceLeDiff, litd_t, litd_f, decide_true, decide_false, Bool.not_true, Bool.not_false, not_true_eq_false, not_false_eq_true, true_and, and_true, false_and, and_false, true_or, or_true, false_or, or_false, Int.toNat_natCast, cond_true, cond_false, List.map_cons, List.map_nil, Option.map_some, Option.map_none]) ?_; simp -failIfUnchanged (disch := first | assumption | omega | (refine room_i _ _ ?_ ?_ <;> omega) | (refine @id _ ?_; with_unfolding_all exact Eq.refl _) | (simp only [List.length_take, List.length_drop, List.length_append, List.length_cons, List.length_nil, List.length_replicate, List.length_map] <;> omega)) only [rnL, opL, ruL, hpL, natL, outL, Nat.add_sub_cancel_left, Nat.mul_one, Nat.reduceAdd, Nat.reduceMul, Nat.reduceSub, Nat.reduceEqDiff, Nat.reduceLT, Nat.reduceLeDiff, litd_t, litd_f, decide_true, decide_false, Bool.not_true, Bool.not_false, not_true_eq_false, not_false_eq_true, true_and, and_true, false_and, and_false, true_or, or_true, false_or, or_false, Int.toNat_natCast, cond_true, cond_false, List.map_cons, List.map_nil, Option.map_some, Option.map_none])
end Go.AS.Ft
