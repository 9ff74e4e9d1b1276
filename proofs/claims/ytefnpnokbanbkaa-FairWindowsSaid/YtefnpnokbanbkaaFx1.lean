import Derived.Test.YtefnpnokbanbkaaRn2
import Derived.Test.YtefnpnokbanbkaaFw0
set_option linter.all false
namespace Go.AS.Fw
open Go Go.Proofs

/-- The longest row without x, and the row at the end. -/
def rowStep (x : Int) (p : Nat × Nat) (y : Int) : Nat × Nat :=
  let r := if y = x then 0 else p.2 + 1
  (max p.1 r, r)
def rows (x : Int) (l : List Int) : Nat × Nat := l.foldl (rowStep x) (0, 0)
theorem rows_snoc (x : Int) (l : List Int) (y : Int) : rows x (l ++ [y]) = rowStep x (rows x l) y := by simp [rows]
theorem rows_le (x : Int) (l : List Int) : ∀ n, n ≤ l.length → (rows x (l.take n)).1 ≤ n ∧ (rows x (l.take n)).2 ≤ n := by
  intro n
  induction n with
  | zero => intro _; simp [rows]
  | succ n ih =>
    intro hn
    have := ih (by omega)
    rw [List.take_add_one, List.getElem?_eq_getElem (by omega), Option.toList_some, rows_snoc]
    simp only [rowStep]
    split <;> omega

theorem longest_gives (nl : Bool) (l : List Int) (x : Int) (hl : l.length ≤ 1000) : Gives (funsOf Try.prog ann) 43 [sl nl l, .int .i64 x] (.int .i64 ((rows x l).1 : Nat)) := by
  refine Gives.of fn43 rfl rfl (args' := [sl nl l, .int .i64 x]) (by simp only [mapO, upf, up, ioL, hfree, hfrees, cond_true, Option.map_some, fg, fgs]) ?_
  simp only [ir43]
  simp -failIfUnchanged (disch := first | assumption | omega | (with_unfolding_all exact Eq.refl _) | (simp only [List.length_take, List.length_drop, List.length_append, List.length_cons, List.length_nil]; omega)) only [rnL, opL, ruL, natL, Nat.add_sub_cancel_left, Nat.reduceAdd, Nat.reduceMul, Nat.reduceSub, Nat.reduceEqDiff, Nat.reduceLT, Nat.reduceLeDiff, litd_t, litd_f, decide_true, decide_false, Bool.not_true, Bool.not_false, not_true_eq_false, not_false_eq_true, true_and, and_true, false_and, and_false, true_or, or_true, false_or, or_false, Int.toNat_natCast, cond_true, cond_false, List.map_cons, List.map_nil, Option.map_some, Option.map_none]
  refine Run_upto l.length (fun i => [(0, sl nl l), (1, .int .i64 x), (4, .int .i64 0), (5, .int .i64 ((rows x (l.take i)).1 : Nat)), (6, .int .i64 ((rows x (l.take i)).2 : Nat)), (9, sl nl l), (10, .int .i64 l.length), (11, .int .i64 (i : Nat))]) (fun _ => [[]]) (fun _ => True) rfl rfl trivial ?_
  intro i hi _
  have hle := rows_le x l i hi
  simp -failIfUnchanged (disch := first | assumption | omega | (with_unfolding_all exact Eq.refl _) | (simp only [List.length_take, List.length_drop, List.length_append, List.length_cons, List.length_nil]; omega)) only [rnL, opL, ruL, natL, Nat.add_sub_cancel_left, Nat.reduceAdd, Nat.reduceMul, Nat.reduceSub, Nat.reduceEqDiff, Nat.reduceLT, Nat.reduceLeDiff, litd_t, litd_f, decide_true, decide_false, Bool.not_true, Bool.not_false, not_true_eq_false, not_false_eq_true, true_and, and_true, false_and, and_false, true_or, or_true, false_or, or_false, Int.toNat_natCast, cond_true, cond_false, List.map_cons, List.map_nil, Option.map_some, Option.map_none]
  refine RunB_i (fun h => ?_) (fun h => ?_)
  · have hlt : i < l.length := by omega
    have hstep : rows x (l.take (i + 1)) = rowStep x (rows x (l.take i)) l[i] := by
      rw [List.take_add_one, List.getElem?_eq_getElem hlt, Option.toList_some, rows_snoc]
    simp -failIfUnchanged (disch := first | assumption | omega | (with_unfolding_all exact Eq.refl _) | (simp only [List.length_take, List.length_drop, List.length_append, List.length_cons, List.length_nil]; omega)) only [rnL, opL, ruL, natL, Nat.add_sub_cancel_left, Nat.reduceAdd, Nat.reduceMul, Nat.reduceSub, Nat.reduceEqDiff, Nat.reduceLT, Nat.reduceLeDiff, litd_t, litd_f, decide_true, decide_false, Bool.not_true, Bool.not_false, not_true_eq_false, not_false_eq_true, true_and, and_true, false_and, and_false, true_or, or_true, false_or, or_false, Int.toNat_natCast, cond_true, cond_false, List.map_cons, List.map_nil, Option.map_some, Option.map_none]
    refine RunB_i (fun hx => ?_) (fun hx => ?_)
    · simp -failIfUnchanged (disch := first | assumption | omega | (with_unfolding_all exact Eq.refl _) | (simp only [List.length_take, List.length_drop, List.length_append, List.length_cons, List.length_nil]; omega)) only [rnL, opL, ruL, natL, Nat.add_sub_cancel_left, Nat.reduceAdd, Nat.reduceMul, Nat.reduceSub, Nat.reduceEqDiff, Nat.reduceLT, Nat.reduceLeDiff, litd_t, litd_f, decide_true, decide_false, Bool.not_true, Bool.not_false, not_true_eq_false, not_false_eq_true, true_and, and_true, false_and, and_false, true_or, or_true, false_or, or_false, Int.toNat_natCast, cond_true, cond_false, List.map_cons, List.map_nil, Option.map_some, Option.map_none]
      exact .i hlt (by simp [hstep, rowStep, hx]) (by first | exact trivial | rfl) trivial
    · simp -failIfUnchanged (disch := first | assumption | omega | (with_unfolding_all exact Eq.refl _) | (simp only [List.length_take, List.length_drop, List.length_append, List.length_cons, List.length_nil]; omega)) only [rnL, opL, ruL, natL, Nat.add_sub_cancel_left, Nat.reduceAdd, Nat.reduceMul, Nat.reduceSub, Nat.reduceEqDiff, Nat.reduceLT, Nat.reduceLeDiff, litd_t, litd_f, decide_true, decide_false, Bool.not_true, Bool.not_false, not_true_eq_false, not_false_eq_true, true_and, and_true, false_and, and_false, true_or, or_true, false_or, or_false, Int.toNat_natCast, cond_true, cond_false, List.map_cons, List.map_nil, Option.map_some, Option.map_none]
      exact .i hlt (by simp [hstep, rowStep, hx]) (by first | exact trivial | rfl) trivial
  · have : i = l.length := by omega
    subst this
    simp -failIfUnchanged (disch := first | assumption | omega | (with_unfolding_all exact Eq.refl _) | (simp only [List.length_take, List.length_drop, List.length_append, List.length_cons, List.length_nil]; omega)) only [rnL, opL, ruL, natL, Nat.add_sub_cancel_left, Nat.reduceAdd, Nat.reduceMul, Nat.reduceSub, Nat.reduceEqDiff, Nat.reduceLT, Nat.reduceLeDiff, litd_t, litd_f, decide_true, decide_false, Bool.not_true, Bool.not_false, not_true_eq_false, not_false_eq_true, true_and, and_true, false_and, and_false, true_or, or_true, false_or, or_false, Int.toNat_natCast, cond_true, cond_false, List.map_cons, List.map_nil, Option.map_some, Option.map_none]
    (refine Fin_i (.inr rfl) rfl (by simp -failIfUnchanged (disch := first | assumption | omega | (with_unfolding_all exact Eq.refl _) | (simp only [List.length_take, List.length_drop, List.length_append, List.length_cons, List.length_nil]; omega)) only [rnL, opL, ruL, natL, Nat.add_sub_cancel_left, Nat.reduceAdd, Nat.reduceMul, Nat.reduceSub, Nat.reduceEqDiff, Nat.reduceLT, Nat.reduceLeDiff, litd_t, litd_f, decide_true, decide_false, Bool.not_true, Bool.not_false, not_true_eq_false, not_false_eq_true, true_and, and_true, false_and, and_false, true_or, or_true, false_or, or_false, Int.toNat_natCast, cond_true, cond_false, List.map_cons, List.map_nil, Option.map_some, Option.map_none, outL]) ?_; simp -failIfUnchanged (disch := first | assumption | omega | (with_unfolding_all exact Eq.refl _) | (simp only [List.length_take, List.length_drop, List.length_append, List.length_cons, List.length_nil]; omega)) only [rnL, opL, ruL, natL, Nat.add_sub_cancel_left, Nat.reduceAdd, Nat.reduceMul, Nat.reduceSub, Nat.reduceEqDiff, Nat.reduceLT, Nat.reduceLeDiff, litd_t, litd_f, decide_true, decide_false, Bool.not_true, Bool.not_false, not_true_eq_false, not_false_eq_true, true_and, and_true, false_and, and_false, true_or, or_true, false_or, or_false, Int.toNat_natCast, cond_true, cond_false, List.map_cons, List.map_nil, Option.map_some, Option.map_none, outL])
    rw [List.take_length]
end Go.AS.Fw
