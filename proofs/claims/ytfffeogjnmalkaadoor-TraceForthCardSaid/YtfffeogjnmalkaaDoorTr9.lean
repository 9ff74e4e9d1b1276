import Derived.Test.YtfffeogjnmalkaaDoorTr1
set_option linter.all false
/-
  Moves as lines, the program's. By an AI agent.
-/
namespace Go.AS.Tr
open Go Go.AS Go.Proofs
set_option maxHeartbeats 1000000
set_option maxRecDepth 4000
def printS : List Mv → Str
  | [] => []
  | m :: l => lineL m ++ printS l
theorem printS_app (a b : List Mv) : printS (a ++ b) = printS a ++ printS b := by
  induction a with
  | nil => rfl
  | cons m a ih => simp [printS, ih]
theorem printS_snoc (l : List Mv) (i : Nat) (h : i < l.length) : printS (l.take (i + 1)) = printS (l.take i) ++ lineL l[i] := by
  rw [take_snoc l i h, printS_app]; simp [printS]
theorem line_len {m : Mv} (h : okM m = true) : (lineL m).length ≤ 100 := by
  simp only [okM, inB, Bool.and_eq_true, decide_eq_true_eq] at h
  have l0 := word_len m.what
  have l1 := itoa_len (n := m.who) (by omega)
  have l2 := itoa_len (n := m.node) (by omega)
  have l3 := itoa_len (n := m.ver) (by omega)
  have l4 := itoa_len (n := m.err) (by omega)
  rw [lineL, join5]
  simp only [List.length_append, List.length_cons, List.length_nil]
  omega
theorem printS_len {l : List Mv} (h : ∀ m ∈ l, okM m = true) : (printS l).length ≤ 100 * l.length := by
  induction l with
  | nil => simp [printS]
  | cons m l ih =>
    have h1 := line_len (h m (.head _))
    have h2 := ih fun x hx => h x (.tail _ hx)
    simp only [printS, List.length_append, List.length_cons]
    omega
def printV (l : List Mv) : AV := if l.all okM then .tuple [.str (printS l), .int .i64 0] else .tuple [.str [], .int .i64 3]
theorem print_bad {l : List Mv} {i : Nat} (h : i < l.length) (hb : okM l[i] = false) : printV l = .tuple [.str [], .int .i64 3] := by
  have : l.all okM = false := by
    cases hh : l.all okM with
    | false => rfl
    | true => rw [List.all_eq_true] at hh; rw [hh _ (List.getElem_mem h)] at hb; cases hb
  simp [printV, this]
theorem print_good {l : List Mv} (h : ∀ m ∈ l, okM m = true) : printV l = .tuple [.str (printS l), .int .i64 0] := by
  simp [printV, List.all_eq_true.2 h]
theorem hset_suc (a o : AObj) (x : Heap) (k : Nat) : hset (a :: x) (k + 1) o = a :: hset x k o := rfl
theorem hset0 (a o : AObj) (x : Heap) : hset (a :: x) 0 o = o :: x := rfl
theorem print_gives (nl : Bool) (l : List Mv) (hl : l.length ≤ 100000) : Gives F 7 [sl nl l] (printV l) := by
  refine Gives.of fn_trace_Print rfl rfl (args' := [sl nl l]) (by simp only [mapO_nil, mapO_c2, consO_some, upf_v]) ?_
  simp only [ir_trace_Print]
  simp -failIfUnchanged (disch := first | assumption | omega | (refine room_i _ _ ?_ ?_ <;> omega) | (refine @_root_.id _ ?_; with_unfolding_all exact Eq.refl _) | (simp only [List.length_take, List.length_drop, List.length_append, List.length_cons, List.length_nil, List.length_replicate, List.length_map] <;> omega) | fail) only [rnL, opL, ruL, hpL, rsL, natL, outL, Nat.add_sub_cancel_left, Nat.mul_one, List.length_cons, List.length_nil, Nat.zero_add, Nat.add_zero, Nat.reduceAdd, Nat.reduceMul, Nat.reduceSub, Nat.reduceEqDiff, Nat.reduceLT, Nat.reduceLeDiff, litd_t, litd_f, decide_true, decide_false, Bool.not_true, Bool.not_false, not_true_eq_false, not_false_eq_true, true_and, and_true, false_and, and_false, true_or, or_true, false_or, or_false, Int.toNat_natCast, cond_true, cond_false, List.map_cons, List.map_nil, Option.map_some, Option.map_none]
  refine Run_upto l.length (fun i => [(0, sl nl l), (2, .str []), (3, .int .i64 0), (4, .ptr 0 0 0), (9, sl nl l), (10, .int .i64 l.length), (11, .int .i64 (i : Nat))]) (fun i => [[.bld 46 5 (printS (l.take i))] ++ rest l i]) (fun i => ∀ m ∈ l.take i, okM m = true) rfl rfl (fun m hm => by simp at hm) ?_
  intro i hi he
  simp -failIfUnchanged (disch := first | assumption | omega | (refine room_i _ _ ?_ ?_ <;> omega) | (refine @_root_.id _ ?_; with_unfolding_all exact Eq.refl _) | (simp only [List.length_take, List.length_drop, List.length_append, List.length_cons, List.length_nil, List.length_replicate, List.length_map] <;> omega) | fail) only [rnL, opL, ruL, hpL, rsL, natL, outL, Nat.add_sub_cancel_left, Nat.mul_one, List.length_cons, List.length_nil, Nat.zero_add, Nat.add_zero, Nat.reduceAdd, Nat.reduceMul, Nat.reduceSub, Nat.reduceEqDiff, Nat.reduceLT, Nat.reduceLeDiff, litd_t, litd_f, decide_true, decide_false, Bool.not_true, Bool.not_false, not_true_eq_false, not_false_eq_true, true_and, and_true, false_and, and_false, true_or, or_true, false_or, or_false, Int.toNat_natCast, cond_true, cond_false, List.map_cons, List.map_nil, Option.map_some, Option.map_none]
  (first | refine RunB_i (fun h2 => ?_) (fun h2 => ?_) | refine RunG_i (fun h2 => ?_) (fun h2 => ?_) | refine RunB_ib (fun h2 => ?_) (fun h2 => ?_))
  · have h3 : i < l.length := by omega
    have hg := (line_gives l[i]).isp (by simp [hfrees, hfree, Cel.free]) rfl
    simp -failIfUnchanged (disch := first | assumption | omega | (refine room_i _ _ ?_ ?_ <;> omega) | (refine @_root_.id _ ?_; with_unfolding_all exact Eq.refl _) | (simp only [List.length_take, List.length_drop, List.length_append, List.length_cons, List.length_nil, List.length_replicate, List.length_map] <;> omega) | fail) only [rnL, opL, ruL, hpL, rsL, natL, outL, Nat.add_sub_cancel_left, Nat.mul_one, List.length_cons, List.length_nil, Nat.zero_add, Nat.add_zero, Nat.reduceAdd, Nat.reduceMul, Nat.reduceSub, Nat.reduceEqDiff, Nat.reduceLT, Nat.reduceLeDiff, litd_t, litd_f, decide_true, decide_false, Bool.not_true, Bool.not_false, not_true_eq_false, not_false_eq_true, true_and, and_true, false_and, and_false, true_or, or_true, false_or, or_false, Int.toNat_natCast, cond_true, cond_false, List.map_cons, List.map_nil, Option.map_some, Option.map_none, hxL, splMv, hat_suc, hset_suc, hg]
    cases hk : okM l[i] with
    | false =>
      simp -failIfUnchanged (disch := first | assumption | omega | (refine room_i _ _ ?_ ?_ <;> omega) | (refine @_root_.id _ ?_; with_unfolding_all exact Eq.refl _) | (simp only [List.length_take, List.length_drop, List.length_append, List.length_cons, List.length_nil, List.length_replicate, List.length_map] <;> omega) | fail) only [rnL, opL, ruL, hpL, rsL, natL, outL, Nat.add_sub_cancel_left, Nat.mul_one, List.length_cons, List.length_nil, Nat.zero_add, Nat.add_zero, Nat.reduceAdd, Nat.reduceMul, Nat.reduceSub, Nat.reduceEqDiff, Nat.reduceLT, Nat.reduceLeDiff, litd_t, litd_f, decide_true, decide_false, Bool.not_true, Bool.not_false, not_true_eq_false, not_false_eq_true, true_and, and_true, false_and, and_false, true_or, or_true, false_or, or_false, Int.toNat_natCast, cond_true, cond_false, List.map_cons, List.map_nil, Option.map_some, Option.map_none, hk]
      (refine Fin_g (.inr rfl) (by simp -failIfUnchanged (disch := first | assumption | omega | (refine room_i _ _ ?_ ?_ <;> omega) | (refine @_root_.id _ ?_; with_unfolding_all exact Eq.refl _) | (simp only [List.length_take, List.length_drop, List.length_append, List.length_cons, List.length_nil, List.length_replicate, List.length_map] <;> omega) | fail) only [rnL, opL, ruL, hpL, rsL, natL, outL, Nat.add_sub_cancel_left, Nat.mul_one, List.length_cons, List.length_nil, Nat.zero_add, Nat.add_zero, Nat.reduceAdd, Nat.reduceMul, Nat.reduceSub, Nat.reduceEqDiff, Nat.reduceLT, Nat.reduceLeDiff, litd_t, litd_f, decide_true, decide_false, Bool.not_true, Bool.not_false, not_true_eq_false, not_false_eq_true, true_and, and_true, false_and, and_false, true_or, or_true, false_or, or_false, Int.toNat_natCast, cond_true, cond_false, List.map_cons, List.map_nil, Option.map_some, Option.map_none]; rfl) ?_; simp -failIfUnchanged (disch := first | assumption | omega | (refine room_i _ _ ?_ ?_ <;> omega) | (refine @_root_.id _ ?_; with_unfolding_all exact Eq.refl _) | (simp only [List.length_take, List.length_drop, List.length_append, List.length_cons, List.length_nil, List.length_replicate, List.length_map] <;> omega) | fail) only [rnL, opL, ruL, hpL, rsL, natL, outL, Nat.add_sub_cancel_left, Nat.mul_one, List.length_cons, List.length_nil, Nat.zero_add, Nat.add_zero, Nat.reduceAdd, Nat.reduceMul, Nat.reduceSub, Nat.reduceEqDiff, Nat.reduceLT, Nat.reduceLeDiff, litd_t, litd_f, decide_true, decide_false, Bool.not_true, Bool.not_false, not_true_eq_false, not_false_eq_true, true_and, and_true, false_and, and_false, true_or, or_true, false_or, or_false, Int.toNat_natCast, cond_true, cond_false, List.map_cons, List.map_nil, Option.map_some, Option.map_none])
      rw [print_bad h3 hk]
    | true =>
      have p1 := printS_len he
      have p2 := line_len hk
      have p3 : (l.take i).length ≤ 100000 := by rw [List.length_take]; omega
      simp -failIfUnchanged (disch := first | assumption | omega | (refine room_i _ _ ?_ ?_ <;> omega) | (refine @_root_.id _ ?_; with_unfolding_all exact Eq.refl _) | (simp only [List.length_take, List.length_drop, List.length_append, List.length_cons, List.length_nil, List.length_replicate, List.length_map] <;> omega) | fail) only [rnL, opL, ruL, hpL, rsL, natL, outL, Nat.add_sub_cancel_left, Nat.mul_one, List.length_cons, List.length_nil, Nat.zero_add, Nat.add_zero, Nat.reduceAdd, Nat.reduceMul, Nat.reduceSub, Nat.reduceEqDiff, Nat.reduceLT, Nat.reduceLeDiff, litd_t, litd_f, decide_true, decide_false, Bool.not_true, Bool.not_false, not_true_eq_false, not_false_eq_true, true_and, and_true, false_and, and_false, true_or, or_true, false_or, or_false, Int.toNat_natCast, cond_true, cond_false, List.map_cons, List.map_nil, Option.map_some, Option.map_none, hk, if_true]
      refine RunC_r (wstr_r (bs := printS (l.take i)) fn_strings_Builder_WriteString rfl (by simp only [maxText]; omega)) ?_
      simp -failIfUnchanged (disch := first | assumption | omega | (refine room_i _ _ ?_ ?_ <;> omega) | (refine @_root_.id _ ?_; with_unfolding_all exact Eq.refl _) | (simp only [List.length_take, List.length_drop, List.length_append, List.length_cons, List.length_nil, List.length_replicate, List.length_map] <;> omega) | fail) only [rnL, opL, ruL, hpL, rsL, natL, outL, Nat.add_sub_cancel_left, Nat.mul_one, List.length_cons, List.length_nil, Nat.zero_add, Nat.add_zero, Nat.reduceAdd, Nat.reduceMul, Nat.reduceSub, Nat.reduceEqDiff, Nat.reduceLT, Nat.reduceLeDiff, litd_t, litd_f, decide_true, decide_false, Bool.not_true, Bool.not_false, not_true_eq_false, not_false_eq_true, true_and, and_true, false_and, and_false, true_or, or_true, false_or, or_false, Int.toNat_natCast, cond_true, cond_false, List.map_cons, List.map_nil, Option.map_some, Option.map_none, hset0]
      refine .i h3 (by first | exact trivial | rfl) ?_ ?_
      · rw [printS_snoc l i h3, rest_snoc l i h3]
      · intro m hm
        rw [take_snoc l i h3, List.mem_append] at hm
        rcases hm with hm | hm
        · exact he m hm
        · rw [List.mem_singleton.1 hm]; exact hk
  · simp -failIfUnchanged (disch := first | assumption | omega | (refine room_i _ _ ?_ ?_ <;> omega) | (refine @_root_.id _ ?_; with_unfolding_all exact Eq.refl _) | (simp only [List.length_take, List.length_drop, List.length_append, List.length_cons, List.length_nil, List.length_replicate, List.length_map] <;> omega) | fail) only [rnL, opL, ruL, hpL, rsL, natL, outL, Nat.add_sub_cancel_left, Nat.mul_one, List.length_cons, List.length_nil, Nat.zero_add, Nat.add_zero, Nat.reduceAdd, Nat.reduceMul, Nat.reduceSub, Nat.reduceEqDiff, Nat.reduceLT, Nat.reduceLeDiff, litd_t, litd_f, decide_true, decide_false, Bool.not_true, Bool.not_false, not_true_eq_false, not_false_eq_true, true_and, and_true, false_and, and_false, true_or, or_true, false_or, or_false, Int.toNat_natCast, cond_true, cond_false, List.map_cons, List.map_nil, Option.map_some, Option.map_none]
    refine RunC_r (bstr_r fn_strings_Builder_String rfl) ?_
    simp -failIfUnchanged (disch := first | assumption | omega | (refine room_i _ _ ?_ ?_ <;> omega) | (refine @_root_.id _ ?_; with_unfolding_all exact Eq.refl _) | (simp only [List.length_take, List.length_drop, List.length_append, List.length_cons, List.length_nil, List.length_replicate, List.length_map] <;> omega) | fail) only [rnL, opL, ruL, hpL, rsL, natL, outL, Nat.add_sub_cancel_left, Nat.mul_one, List.length_cons, List.length_nil, Nat.zero_add, Nat.add_zero, Nat.reduceAdd, Nat.reduceMul, Nat.reduceSub, Nat.reduceEqDiff, Nat.reduceLT, Nat.reduceLeDiff, litd_t, litd_f, decide_true, decide_false, Bool.not_true, Bool.not_false, not_true_eq_false, not_false_eq_true, true_and, and_true, false_and, and_false, true_or, or_true, false_or, or_false, Int.toNat_natCast, cond_true, cond_false, List.map_cons, List.map_nil, Option.map_some, Option.map_none]
    (refine Fin_g (.inr rfl) (by simp -failIfUnchanged (disch := first | assumption | omega | (refine room_i _ _ ?_ ?_ <;> omega) | (refine @_root_.id _ ?_; with_unfolding_all exact Eq.refl _) | (simp only [List.length_take, List.length_drop, List.length_append, List.length_cons, List.length_nil, List.length_replicate, List.length_map] <;> omega) | fail) only [rnL, opL, ruL, hpL, rsL, natL, outL, Nat.add_sub_cancel_left, Nat.mul_one, List.length_cons, List.length_nil, Nat.zero_add, Nat.add_zero, Nat.reduceAdd, Nat.reduceMul, Nat.reduceSub, Nat.reduceEqDiff, Nat.reduceLT, Nat.reduceLeDiff, litd_t, litd_f, decide_true, decide_false, Bool.not_true, Bool.not_false, not_true_eq_false, not_false_eq_true, true_and, and_true, false_and, and_false, true_or, or_true, false_or, or_false, Int.toNat_natCast, cond_true, cond_false, List.map_cons, List.map_nil, Option.map_some, Option.map_none]; rfl) ?_; simp -failIfUnchanged (disch := first | assumption | omega | (refine room_i _ _ ?_ ?_ <;> omega) | (refine @_root_.id _ ?_; with_unfolding_all exact Eq.refl _) | (simp only [List.length_take, List.length_drop, List.length_append, List.length_cons, List.length_nil, List.length_replicate, List.length_map] <;> omega) | fail) only [rnL, opL, ruL, hpL, rsL, natL, outL, Nat.add_sub_cancel_left, Nat.mul_one, List.length_cons, List.length_nil, Nat.zero_add, Nat.add_zero, Nat.reduceAdd, Nat.reduceMul, Nat.reduceSub, Nat.reduceEqDiff, Nat.reduceLT, Nat.reduceLeDiff, litd_t, litd_f, decide_true, decide_false, Bool.not_true, Bool.not_false, not_true_eq_false, not_false_eq_true, true_and, and_true, false_and, and_false, true_or, or_true, false_or, or_false, Int.toNat_natCast, cond_true, cond_false, List.map_cons, List.map_nil, Option.map_some, Option.map_none])
    have : i = l.length := by omega
    subst this
    rw [List.take_length] at he
    rw [List.take_length, print_good he]
theorem printR_gives (nl : Bool) (l : List Mv) (hl : l.length ≤ 100000) : Gives F 8 [sl nl l] (printV l) := by
  refine Gives.of fn_r36_Print rfl rfl (args' := [sl nl l]) (by simp only [mapO_nil, mapO_c2, consO_some, upf_v]) ?_
  simp only [ir_r36_Print]
  simp -failIfUnchanged (disch := first | assumption | omega | (refine room_i _ _ ?_ ?_ <;> omega) | (refine @_root_.id _ ?_; with_unfolding_all exact Eq.refl _) | (simp only [List.length_take, List.length_drop, List.length_append, List.length_cons, List.length_nil, List.length_replicate, List.length_map] <;> omega) | fail) only [rnL, opL, ruL, hpL, rsL, natL, outL, Nat.add_sub_cancel_left, Nat.mul_one, List.length_cons, List.length_nil, Nat.zero_add, Nat.add_zero, Nat.reduceAdd, Nat.reduceMul, Nat.reduceSub, Nat.reduceEqDiff, Nat.reduceLT, Nat.reduceLeDiff, litd_t, litd_f, decide_true, decide_false, Bool.not_true, Bool.not_false, not_true_eq_false, not_false_eq_true, true_and, and_true, false_and, and_false, true_or, or_true, false_or, or_false, Int.toNat_natCast, cond_true, cond_false, List.map_cons, List.map_nil, Option.map_some, Option.map_none]
  refine Run_upto l.length (fun i => [(0, sl nl l), (2, .str []), (3, .int .i64 0), (4, .str (printS (l.take i))), (5, .int .i64 (i : Nat))]) (fun i => [rest l i]) (fun i => ∀ m ∈ l.take i, okM m = true) rfl rfl (fun m hm => by simp at hm) ?_
  intro i hi he
  simp -failIfUnchanged (disch := first | assumption | omega | (refine room_i _ _ ?_ ?_ <;> omega) | (refine @_root_.id _ ?_; with_unfolding_all exact Eq.refl _) | (simp only [List.length_take, List.length_drop, List.length_append, List.length_cons, List.length_nil, List.length_replicate, List.length_map] <;> omega) | fail) only [rnL, opL, ruL, hpL, rsL, natL, outL, Nat.add_sub_cancel_left, Nat.mul_one, List.length_cons, List.length_nil, Nat.zero_add, Nat.add_zero, Nat.reduceAdd, Nat.reduceMul, Nat.reduceSub, Nat.reduceEqDiff, Nat.reduceLT, Nat.reduceLeDiff, litd_t, litd_f, decide_true, decide_false, Bool.not_true, Bool.not_false, not_true_eq_false, not_false_eq_true, true_and, and_true, false_and, and_false, true_or, or_true, false_or, or_false, Int.toNat_natCast, cond_true, cond_false, List.map_cons, List.map_nil, Option.map_some, Option.map_none]
  (first | refine RunB_i (fun h2 => ?_) (fun h2 => ?_) | refine RunG_i (fun h2 => ?_) (fun h2 => ?_) | refine RunB_ib (fun h2 => ?_) (fun h2 => ?_))
  · have h3 : i < l.length := by omega
    have hw : CallpIs F 19 [.int .u8 l[i].what.toNat] (.str (wordOf l[i].what)) := (wordR_gives l[i].what).isp rfl rfl
    have h1 : CallpIs F 23 [.int .i64 l[i].who, .int .i64 2147483647] (.bool (decide (0 ≤ l[i].who ∧ l[i].who ≤ 2147483647))) := (inR_gives l[i].who 2147483647).isp rfl rfl
    have h2 : CallpIs F 23 [.int .i64 l[i].node, .int .i64 2147483647] (.bool (decide (0 ≤ l[i].node ∧ l[i].node ≤ 2147483647))) := (inR_gives l[i].node 2147483647).isp rfl rfl
    have h5 : CallpIs F 23 [.int .i64 l[i].ver, .int .i64 1099511627776] (.bool (decide (0 ≤ l[i].ver ∧ l[i].ver ≤ 1099511627776))) := (inR_gives l[i].ver 1099511627776).isp rfl rfl
    have h4 : CallpIs F 23 [.int .i64 l[i].err, .int .i64 2147483647] (.bool (decide (0 ≤ l[i].err ∧ l[i].err ≤ 2147483647))) := (inR_gives l[i].err 2147483647).isp rfl rfl
    simp -failIfUnchanged (disch := first | assumption | omega | (refine room_i _ _ ?_ ?_ <;> omega) | (refine @_root_.id _ ?_; with_unfolding_all exact Eq.refl _) | (simp only [List.length_take, List.length_drop, List.length_append, List.length_cons, List.length_nil, List.length_replicate, List.length_map] <;> omega) | fail) only [rnL, opL, ruL, hpL, rsL, natL, outL, Nat.add_sub_cancel_left, Nat.mul_one, List.length_cons, List.length_nil, Nat.zero_add, Nat.add_zero, Nat.reduceAdd, Nat.reduceMul, Nat.reduceSub, Nat.reduceEqDiff, Nat.reduceLT, Nat.reduceLeDiff, litd_t, litd_f, decide_true, decide_false, Bool.not_true, Bool.not_false, not_true_eq_false, not_false_eq_true, true_and, and_true, false_and, and_false, true_or, or_true, false_or, or_false, Int.toNat_natCast, cond_true, cond_false, List.map_cons, List.map_nil, Option.map_some, Option.map_none, hxL, splMv]
    by_cases b0 : wordOf l[i].what = []
    · simp -failIfUnchanged (disch := first | assumption | omega | (refine room_i _ _ ?_ ?_ <;> omega) | (refine @_root_.id _ ?_; with_unfolding_all exact Eq.refl _) | (simp only [List.length_take, List.length_drop, List.length_append, List.length_cons, List.length_nil, List.length_replicate, List.length_map] <;> omega) | fail) only [rnL, opL, ruL, hpL, rsL, natL, outL, Nat.add_sub_cancel_left, Nat.mul_one, List.length_cons, List.length_nil, Nat.zero_add, Nat.add_zero, Nat.reduceAdd, Nat.reduceMul, Nat.reduceSub, Nat.reduceEqDiff, Nat.reduceLT, Nat.reduceLeDiff, litd_t, litd_f, decide_true, decide_false, Bool.not_true, Bool.not_false, not_true_eq_false, not_false_eq_true, true_and, and_true, false_and, and_false, true_or, or_true, false_or, or_false, Int.toNat_natCast, cond_true, cond_false, List.map_cons, List.map_nil, Option.map_some, Option.map_none, hxL, encMv, hw, h1, h2, h5, h4]
      (refine Fin_g (.inr rfl) (by simp -failIfUnchanged (disch := first | assumption | omega | (refine room_i _ _ ?_ ?_ <;> omega) | (refine @_root_.id _ ?_; with_unfolding_all exact Eq.refl _) | (simp only [List.length_take, List.length_drop, List.length_append, List.length_cons, List.length_nil, List.length_replicate, List.length_map] <;> omega) | fail) only [rnL, opL, ruL, hpL, rsL, natL, outL, Nat.add_sub_cancel_left, Nat.mul_one, List.length_cons, List.length_nil, Nat.zero_add, Nat.add_zero, Nat.reduceAdd, Nat.reduceMul, Nat.reduceSub, Nat.reduceEqDiff, Nat.reduceLT, Nat.reduceLeDiff, litd_t, litd_f, decide_true, decide_false, Bool.not_true, Bool.not_false, not_true_eq_false, not_false_eq_true, true_and, and_true, false_and, and_false, true_or, or_true, false_or, or_false, Int.toNat_natCast, cond_true, cond_false, List.map_cons, List.map_nil, Option.map_some, Option.map_none]; rfl) ?_; simp -failIfUnchanged (disch := first | assumption | omega | (refine room_i _ _ ?_ ?_ <;> omega) | (refine @_root_.id _ ?_; with_unfolding_all exact Eq.refl _) | (simp only [List.length_take, List.length_drop, List.length_append, List.length_cons, List.length_nil, List.length_replicate, List.length_map] <;> omega) | fail) only [rnL, opL, ruL, hpL, rsL, natL, outL, Nat.add_sub_cancel_left, Nat.mul_one, List.length_cons, List.length_nil, Nat.zero_add, Nat.add_zero, Nat.reduceAdd, Nat.reduceMul, Nat.reduceSub, Nat.reduceEqDiff, Nat.reduceLT, Nat.reduceLeDiff, litd_t, litd_f, decide_true, decide_false, Bool.not_true, Bool.not_false, not_true_eq_false, not_false_eq_true, true_and, and_true, false_and, and_false, true_or, or_true, false_or, or_false, Int.toNat_natCast, cond_true, cond_false, List.map_cons, List.map_nil, Option.map_some, Option.map_none])
      rw [print_bad h3 (by simp [okM, b0])]
    by_cases b1 : 0 ≤ l[i].who ∧ l[i].who ≤ 2147483647
    · by_cases b2 : 0 ≤ l[i].node ∧ l[i].node ≤ 2147483647
      · by_cases b3 : 0 ≤ l[i].ver ∧ l[i].ver ≤ 1099511627776
        · by_cases b4 : 0 ≤ l[i].err ∧ l[i].err ≤ 2147483647
          · have i1 := (num_gives (n := l[i].who) (by omega) (by omega)).isp rfl rfl
            have i2 := (num_gives (n := l[i].node) (by omega) (by omega)).isp rfl rfl
            have i3 := (num_gives (n := l[i].ver) (by omega) (by omega)).isp rfl rfl
            have i4 := (num_gives (n := l[i].err) (by omega) (by omega)).isp rfl rfl
            have l0 := word_len l[i].what
            have l1 := itoa_len (n := l[i].who) (by omega)
            have l2 := itoa_len (n := l[i].node) (by omega)
            have l3 := itoa_len (n := l[i].ver) (by omega)
            have l4 := itoa_len (n := l[i].err) (by omega)
            have p1 := printS_len he
            have p3 : (l.take i).length ≤ 100000 := by rw [List.length_take]; omega
            have p4 : (printS (l.take i)).length ≤ 10000000 := by omega
            have hk : okM l[i] = true := by simp [okM, inB, b0, b1, b2, b3, b4]
            simp -failIfUnchanged (disch := first | assumption | omega | (refine room_i _ _ ?_ ?_ <;> omega) | (refine @_root_.id _ ?_; with_unfolding_all exact Eq.refl _) | (simp only [List.length_take, List.length_drop, List.length_append, List.length_cons, List.length_nil, List.length_replicate, List.length_map] <;> omega) | fail) only [rnL, opL, ruL, hpL, rsL, natL, outL, Nat.add_sub_cancel_left, Nat.mul_one, List.length_cons, List.length_nil, Nat.zero_add, Nat.add_zero, Nat.reduceAdd, Nat.reduceMul, Nat.reduceSub, Nat.reduceEqDiff, Nat.reduceLT, Nat.reduceLeDiff, litd_t, litd_f, decide_true, decide_false, Bool.not_true, Bool.not_false, not_true_eq_false, not_false_eq_true, true_and, and_true, false_and, and_false, true_or, or_true, false_or, or_false, Int.toNat_natCast, cond_true, cond_false, List.map_cons, List.map_nil, Option.map_some, Option.map_none, hxL, encMv, hw, h1, h2, h5, h4, i1, i2, i3, i4]
            refine .i h3 ?_ ?_ ?_
            · have e : printS (l.take (i + 1)) = printS (l.take i) ++ itoaL l[i].who ++ [UInt8.ofNat 32] ++ wordOf l[i].what ++ [UInt8.ofNat 32] ++ itoaL l[i].node ++ [UInt8.ofNat 32] ++ itoaL l[i].ver ++ [UInt8.ofNat 32] ++ itoaL l[i].err ++ [UInt8.ofNat 10] := by
                rw [printS_snoc l i h3, lineL, join5]
                simp only [List.append_assoc, List.cons_append, List.nil_append]
                rfl
              rw [e]
            · rw [rest_snoc l i h3, encMv]
            · intro m hm
              rw [take_snoc l i h3, List.mem_append] at hm
              rcases hm with hm | hm
              · exact he m hm
              · rw [List.mem_singleton.1 hm]; exact hk
          · simp -failIfUnchanged (disch := first | assumption | omega | (refine room_i _ _ ?_ ?_ <;> omega) | (refine @_root_.id _ ?_; with_unfolding_all exact Eq.refl _) | (simp only [List.length_take, List.length_drop, List.length_append, List.length_cons, List.length_nil, List.length_replicate, List.length_map] <;> omega) | fail) only [rnL, opL, ruL, hpL, rsL, natL, outL, Nat.add_sub_cancel_left, Nat.mul_one, List.length_cons, List.length_nil, Nat.zero_add, Nat.add_zero, Nat.reduceAdd, Nat.reduceMul, Nat.reduceSub, Nat.reduceEqDiff, Nat.reduceLT, Nat.reduceLeDiff, litd_t, litd_f, decide_true, decide_false, Bool.not_true, Bool.not_false, not_true_eq_false, not_false_eq_true, true_and, and_true, false_and, and_false, true_or, or_true, false_or, or_false, Int.toNat_natCast, cond_true, cond_false, List.map_cons, List.map_nil, Option.map_some, Option.map_none, hxL, encMv, hw, h1, h2, h5, h4]
            (refine Fin_g (.inr rfl) (by simp -failIfUnchanged (disch := first | assumption | omega | (refine room_i _ _ ?_ ?_ <;> omega) | (refine @_root_.id _ ?_; with_unfolding_all exact Eq.refl _) | (simp only [List.length_take, List.length_drop, List.length_append, List.length_cons, List.length_nil, List.length_replicate, List.length_map] <;> omega) | fail) only [rnL, opL, ruL, hpL, rsL, natL, outL, Nat.add_sub_cancel_left, Nat.mul_one, List.length_cons, List.length_nil, Nat.zero_add, Nat.add_zero, Nat.reduceAdd, Nat.reduceMul, Nat.reduceSub, Nat.reduceEqDiff, Nat.reduceLT, Nat.reduceLeDiff, litd_t, litd_f, decide_true, decide_false, Bool.not_true, Bool.not_false, not_true_eq_false, not_false_eq_true, true_and, and_true, false_and, and_false, true_or, or_true, false_or, or_false, Int.toNat_natCast, cond_true, cond_false, List.map_cons, List.map_nil, Option.map_some, Option.map_none]; rfl) ?_; simp -failIfUnchanged (disch := first | assumption | omega | (refine room_i _ _ ?_ ?_ <;> omega) | (refine @_root_.id _ ?_; with_unfolding_all exact Eq.refl _) | (simp only [List.length_take, List.length_drop, List.length_append, List.length_cons, List.length_nil, List.length_replicate, List.length_map] <;> omega) | fail) only [rnL, opL, ruL, hpL, rsL, natL, outL, Nat.add_sub_cancel_left, Nat.mul_one, List.length_cons, List.length_nil, Nat.zero_add, Nat.add_zero, Nat.reduceAdd, Nat.reduceMul, Nat.reduceSub, Nat.reduceEqDiff, Nat.reduceLT, Nat.reduceLeDiff, litd_t, litd_f, decide_true, decide_false, Bool.not_true, Bool.not_false, not_true_eq_false, not_false_eq_true, true_and, and_true, false_and, and_false, true_or, or_true, false_or, or_false, Int.toNat_natCast, cond_true, cond_false, List.map_cons, List.map_nil, Option.map_some, Option.map_none])
            rw [print_bad h3 (by simp [okM, inB, b4])]
        · simp -failIfUnchanged (disch := first | assumption | omega | (refine room_i _ _ ?_ ?_ <;> omega) | (refine @_root_.id _ ?_; with_unfolding_all exact Eq.refl _) | (simp only [List.length_take, List.length_drop, List.length_append, List.length_cons, List.length_nil, List.length_replicate, List.length_map] <;> omega) | fail) only [rnL, opL, ruL, hpL, rsL, natL, outL, Nat.add_sub_cancel_left, Nat.mul_one, List.length_cons, List.length_nil, Nat.zero_add, Nat.add_zero, Nat.reduceAdd, Nat.reduceMul, Nat.reduceSub, Nat.reduceEqDiff, Nat.reduceLT, Nat.reduceLeDiff, litd_t, litd_f, decide_true, decide_false, Bool.not_true, Bool.not_false, not_true_eq_false, not_false_eq_true, true_and, and_true, false_and, and_false, true_or, or_true, false_or, or_false, Int.toNat_natCast, cond_true, cond_false, List.map_cons, List.map_nil, Option.map_some, Option.map_none, hxL, encMv, hw, h1, h2, h5, h4]
          (refine Fin_g (.inr rfl) (by simp -failIfUnchanged (disch := first | assumption | omega | (refine room_i _ _ ?_ ?_ <;> omega) | (refine @_root_.id _ ?_; with_unfolding_all exact Eq.refl _) | (simp only [List.length_take, List.length_drop, List.length_append, List.length_cons, List.length_nil, List.length_replicate, List.length_map] <;> omega) | fail) only [rnL, opL, ruL, hpL, rsL, natL, outL, Nat.add_sub_cancel_left, Nat.mul_one, List.length_cons, List.length_nil, Nat.zero_add, Nat.add_zero, Nat.reduceAdd, Nat.reduceMul, Nat.reduceSub, Nat.reduceEqDiff, Nat.reduceLT, Nat.reduceLeDiff, litd_t, litd_f, decide_true, decide_false, Bool.not_true, Bool.not_false, not_true_eq_false, not_false_eq_true, true_and, and_true, false_and, and_false, true_or, or_true, false_or, or_false, Int.toNat_natCast, cond_true, cond_false, List.map_cons, List.map_nil, Option.map_some, Option.map_none]; rfl) ?_; simp -failIfUnchanged (disch := first | assumption | omega | (refine room_i _ _ ?_ ?_ <;> omega) | (refine @_root_.id _ ?_; with_unfolding_all exact Eq.refl _) | (simp only [List.length_take, List.length_drop, List.length_append, List.length_cons, List.length_nil, List.length_replicate, List.length_map] <;> omega) | fail) only [rnL, opL, ruL, hpL, rsL, natL, outL, Nat.add_sub_cancel_left, Nat.mul_one, List.length_cons, List.length_nil, Nat.zero_add, Nat.add_zero, Nat.reduceAdd, Nat.reduceMul, Nat.reduceSub, Nat.reduceEqDiff, Nat.reduceLT, Nat.reduceLeDiff, litd_t, litd_f, decide_true, decide_false, Bool.not_true, Bool.not_false, not_true_eq_false, not_false_eq_true, true_and, and_true, false_and, and_false, true_or, or_true, false_or, or_false, Int.toNat_natCast, cond_true, cond_false, List.map_cons, List.map_nil, Option.map_some, Option.map_none])
          rw [print_bad h3 (by simp [okM, inB, b3])]
      · simp -failIfUnchanged (disch := first | assumption | omega | (refine room_i _ _ ?_ ?_ <;> omega) | (refine @_root_.id _ ?_; with_unfolding_all exact Eq.refl _) | (simp only [List.length_take, List.length_drop, List.length_append, List.length_cons, List.length_nil, List.length_replicate, List.length_map] <;> omega) | fail) only [rnL, opL, ruL, hpL, rsL, natL, outL, Nat.add_sub_cancel_left, Nat.mul_one, List.length_cons, List.length_nil, Nat.zero_add, Nat.add_zero, Nat.reduceAdd, Nat.reduceMul, Nat.reduceSub, Nat.reduceEqDiff, Nat.reduceLT, Nat.reduceLeDiff, litd_t, litd_f, decide_true, decide_false, Bool.not_true, Bool.not_false, not_true_eq_false, not_false_eq_true, true_and, and_true, false_and, and_false, true_or, or_true, false_or, or_false, Int.toNat_natCast, cond_true, cond_false, List.map_cons, List.map_nil, Option.map_some, Option.map_none, hxL, encMv, hw, h1, h2, h5, h4]
        (refine Fin_g (.inr rfl) (by simp -failIfUnchanged (disch := first | assumption | omega | (refine room_i _ _ ?_ ?_ <;> omega) | (refine @_root_.id _ ?_; with_unfolding_all exact Eq.refl _) | (simp only [List.length_take, List.length_drop, List.length_append, List.length_cons, List.length_nil, List.length_replicate, List.length_map] <;> omega) | fail) only [rnL, opL, ruL, hpL, rsL, natL, outL, Nat.add_sub_cancel_left, Nat.mul_one, List.length_cons, List.length_nil, Nat.zero_add, Nat.add_zero, Nat.reduceAdd, Nat.reduceMul, Nat.reduceSub, Nat.reduceEqDiff, Nat.reduceLT, Nat.reduceLeDiff, litd_t, litd_f, decide_true, decide_false, Bool.not_true, Bool.not_false, not_true_eq_false, not_false_eq_true, true_and, and_true, false_and, and_false, true_or, or_true, false_or, or_false, Int.toNat_natCast, cond_true, cond_false, List.map_cons, List.map_nil, Option.map_some, Option.map_none]; rfl) ?_; simp -failIfUnchanged (disch := first | assumption | omega | (refine room_i _ _ ?_ ?_ <;> omega) | (refine @_root_.id _ ?_; with_unfolding_all exact Eq.refl _) | (simp only [List.length_take, List.length_drop, List.length_append, List.length_cons, List.length_nil, List.length_replicate, List.length_map] <;> omega) | fail) only [rnL, opL, ruL, hpL, rsL, natL, outL, Nat.add_sub_cancel_left, Nat.mul_one, List.length_cons, List.length_nil, Nat.zero_add, Nat.add_zero, Nat.reduceAdd, Nat.reduceMul, Nat.reduceSub, Nat.reduceEqDiff, Nat.reduceLT, Nat.reduceLeDiff, litd_t, litd_f, decide_true, decide_false, Bool.not_true, Bool.not_false, not_true_eq_false, not_false_eq_true, true_and, and_true, false_and, and_false, true_or, or_true, false_or, or_false, Int.toNat_natCast, cond_true, cond_false, List.map_cons, List.map_nil, Option.map_some, Option.map_none])
        rw [print_bad h3 (by simp [okM, inB, b2])]
    · simp -failIfUnchanged (disch := first | assumption | omega | (refine room_i _ _ ?_ ?_ <;> omega) | (refine @_root_.id _ ?_; with_unfolding_all exact Eq.refl _) | (simp only [List.length_take, List.length_drop, List.length_append, List.length_cons, List.length_nil, List.length_replicate, List.length_map] <;> omega) | fail) only [rnL, opL, ruL, hpL, rsL, natL, outL, Nat.add_sub_cancel_left, Nat.mul_one, List.length_cons, List.length_nil, Nat.zero_add, Nat.add_zero, Nat.reduceAdd, Nat.reduceMul, Nat.reduceSub, Nat.reduceEqDiff, Nat.reduceLT, Nat.reduceLeDiff, litd_t, litd_f, decide_true, decide_false, Bool.not_true, Bool.not_false, not_true_eq_false, not_false_eq_true, true_and, and_true, false_and, and_false, true_or, or_true, false_or, or_false, Int.toNat_natCast, cond_true, cond_false, List.map_cons, List.map_nil, Option.map_some, Option.map_none, hxL, encMv, hw, h1, h2, h5, h4]
      (refine Fin_g (.inr rfl) (by simp -failIfUnchanged (disch := first | assumption | omega | (refine room_i _ _ ?_ ?_ <;> omega) | (refine @_root_.id _ ?_; with_unfolding_all exact Eq.refl _) | (simp only [List.length_take, List.length_drop, List.length_append, List.length_cons, List.length_nil, List.length_replicate, List.length_map] <;> omega) | fail) only [rnL, opL, ruL, hpL, rsL, natL, outL, Nat.add_sub_cancel_left, Nat.mul_one, List.length_cons, List.length_nil, Nat.zero_add, Nat.add_zero, Nat.reduceAdd, Nat.reduceMul, Nat.reduceSub, Nat.reduceEqDiff, Nat.reduceLT, Nat.reduceLeDiff, litd_t, litd_f, decide_true, decide_false, Bool.not_true, Bool.not_false, not_true_eq_false, not_false_eq_true, true_and, and_true, false_and, and_false, true_or, or_true, false_or, or_false, Int.toNat_natCast, cond_true, cond_false, List.map_cons, List.map_nil, Option.map_some, Option.map_none]; rfl) ?_; simp -failIfUnchanged (disch := first | assumption | omega | (refine room_i _ _ ?_ ?_ <;> omega) | (refine @_root_.id _ ?_; with_unfolding_all exact Eq.refl _) | (simp only [List.length_take, List.length_drop, List.length_append, List.length_cons, List.length_nil, List.length_replicate, List.length_map] <;> omega) | fail) only [rnL, opL, ruL, hpL, rsL, natL, outL, Nat.add_sub_cancel_left, Nat.mul_one, List.length_cons, List.length_nil, Nat.zero_add, Nat.add_zero, Nat.reduceAdd, Nat.reduceMul, Nat.reduceSub, Nat.reduceEqDiff, Nat.reduceLT, Nat.reduceLeDiff, litd_t, litd_f, decide_true, decide_false, Bool.not_true, Bool.not_false, not_true_eq_false, not_false_eq_true, true_and, and_true, false_and, and_false, true_or, or_true, false_or, or_false, Int.toNat_natCast, cond_true, cond_false, List.map_cons, List.map_nil, Option.map_some, Option.map_none])
      rw [print_bad h3 (by simp [okM, inB, b1])]
  · simp -failIfUnchanged (disch := first | assumption | omega | (refine room_i _ _ ?_ ?_ <;> omega) | (refine @_root_.id _ ?_; with_unfolding_all exact Eq.refl _) | (simp only [List.length_take, List.length_drop, List.length_append, List.length_cons, List.length_nil, List.length_replicate, List.length_map] <;> omega) | fail) only [rnL, opL, ruL, hpL, rsL, natL, outL, Nat.add_sub_cancel_left, Nat.mul_one, List.length_cons, List.length_nil, Nat.zero_add, Nat.add_zero, Nat.reduceAdd, Nat.reduceMul, Nat.reduceSub, Nat.reduceEqDiff, Nat.reduceLT, Nat.reduceLeDiff, litd_t, litd_f, decide_true, decide_false, Bool.not_true, Bool.not_false, not_true_eq_false, not_false_eq_true, true_and, and_true, false_and, and_false, true_or, or_true, false_or, or_false, Int.toNat_natCast, cond_true, cond_false, List.map_cons, List.map_nil, Option.map_some, Option.map_none]
    (refine Fin_g (.inr rfl) (by simp -failIfUnchanged (disch := first | assumption | omega | (refine room_i _ _ ?_ ?_ <;> omega) | (refine @_root_.id _ ?_; with_unfolding_all exact Eq.refl _) | (simp only [List.length_take, List.length_drop, List.length_append, List.length_cons, List.length_nil, List.length_replicate, List.length_map] <;> omega) | fail) only [rnL, opL, ruL, hpL, rsL, natL, outL, Nat.add_sub_cancel_left, Nat.mul_one, List.length_cons, List.length_nil, Nat.zero_add, Nat.add_zero, Nat.reduceAdd, Nat.reduceMul, Nat.reduceSub, Nat.reduceEqDiff, Nat.reduceLT, Nat.reduceLeDiff, litd_t, litd_f, decide_true, decide_false, Bool.not_true, Bool.not_false, not_true_eq_false, not_false_eq_true, true_and, and_true, false_and, and_false, true_or, or_true, false_or, or_false, Int.toNat_natCast, cond_true, cond_false, List.map_cons, List.map_nil, Option.map_some, Option.map_none]; rfl) ?_; simp -failIfUnchanged (disch := first | assumption | omega | (refine room_i _ _ ?_ ?_ <;> omega) | (refine @_root_.id _ ?_; with_unfolding_all exact Eq.refl _) | (simp only [List.length_take, List.length_drop, List.length_append, List.length_cons, List.length_nil, List.length_replicate, List.length_map] <;> omega) | fail) only [rnL, opL, ruL, hpL, rsL, natL, outL, Nat.add_sub_cancel_left, Nat.mul_one, List.length_cons, List.length_nil, Nat.zero_add, Nat.add_zero, Nat.reduceAdd, Nat.reduceMul, Nat.reduceSub, Nat.reduceEqDiff, Nat.reduceLT, Nat.reduceLeDiff, litd_t, litd_f, decide_true, decide_false, Bool.not_true, Bool.not_false, not_true_eq_false, not_false_eq_true, true_and, and_true, false_and, and_false, true_or, or_true, false_or, or_false, Int.toNat_natCast, cond_true, cond_false, List.map_cons, List.map_nil, Option.map_some, Option.map_none])
    have : i = l.length := by omega
    subst this
    rw [List.take_length] at he
    rw [List.take_length, print_good he]
end Go.AS.Tr

/-
  Words as numbers, words among words, lines as moves. By an AI agent.
-/
namespace Go.AS.Tr
open Go Go.AS Go.Proofs
set_option maxHeartbeats 1000000
set_option maxRecDepth 4000
theorem merge {X Y : Prop} (f : X → Y) (x : X) : Y := f x
def digB (b : UInt8) : Bool := decide (48 ≤ b.toNat ∧ b.toNat ≤ 57)
def valL (s : Str) : Nat := s.foldl (fun n b => 10 * n + (b.toNat - 48)) 0
def lead : Str → Bool
  | [] => false
  | b :: r => decide (b.toNat = 48) && !r.isEmpty
theorem lead_t {s : Str} (h : 0 < s.length) (h1 : 1 < s.length) (h2 : s[0].toNat = 48) : lead s = true := by
  match s, h, h1, h2 with
  | b :: c :: r, _, _, h2 => simpa [lead] using h2
theorem lead_f {s : Str} (h : 0 < s.length) (h1 : ¬ (1 < s.length ∧ s[0].toNat = 48)) : lead s = false := by
  match s, h, h1 with
  | [b], _, _ => simp [lead]
  | b :: c :: r, _, h1 => simpa [lead] using h1
def goodN (s : Str) : Bool := !decide (s = []) && (decide (s.length ≤ 14) && (!lead s && s.all digB))
theorem good_bad {s : Str} {i : Nat} (h : i < s.length) (hb : ¬ (48 ≤ s[i].toNat ∧ s[i].toNat ≤ 57)) : goodN s = false := by
  have : s.all digB = false := by
    cases hh : s.all digB with
    | false => rfl
    | true =>
      rw [List.all_eq_true] at hh
      have := hh _ (List.getElem_mem h)
      simp only [digB, decide_eq_true_eq] at this
      exact absurd this hb
  simp [goodN, this]
def numV (s : Str) (most : Int) : Int × Bool := if goodN s then ((valL s : Int), decide ((valL s : Int) ≤ most)) else (0, false)
theorem valL_snoc (s : Str) (i : Nat) (h : i < s.length) : valL (s.take (i + 1)) = 10 * valL (s.take i) + (s[i].toNat - 48) := by
  unfold valL
  rw [take_snoc s i h, List.foldl_append]; rfl
theorem valL_lt {s : Str} : ∀ (i : Nat), i ≤ s.length → (∀ b ∈ s.take i, digB b = true) → valL (s.take i) < 10 ^ i
  | 0, _, _ => by simp [valL]
  | i + 1, h, hd => by
    have e := take_snoc s i (show i < s.length by omega)
    have h1 := valL_lt (s := s) i (by omega) (fun b hb => hd b (by rw [e]; exact List.mem_append_left _ hb))
    have h2 := hd s[i] (by rw [e]; exact List.mem_append_right _ (.head _))
    simp only [digB, decide_eq_true_eq] at h2
    rw [valL_snoc s i (by omega), Nat.pow_succ]
    omega
theorem num_bad {s : Str} {most : Int} (h : goodN s = false) : AV.tuple [.int .i64 (numV s most).1, .bool (numV s most).2] = .tuple [.int .i64 0, .bool false] := by simp [numV, h]
theorem number_p (s : Str) (most : Int) : Gives F 41 [.str s, .int .i64 most] (.tuple [.int .i64 (numV s most).1, .bool (numV s most).2]) := by
  refine Gives.of fn_trace_number rfl rfl (args' := [.str s, .int .i64 most]) (by simp only [mapO_nil, mapO_c2, consO_some, upf_v]) ?_
  simp only [ir_trace_number]
  by_cases b0 : s = []
  · subst b0
    simp -failIfUnchanged (disch := first | assumption | omega | (refine room_i _ _ ?_ ?_ <;> omega) | (refine @_root_.id _ ?_; with_unfolding_all exact Eq.refl _) | (simp only [List.length_take, List.length_drop, List.length_append, List.length_cons, List.length_nil, List.length_replicate, List.length_map] <;> omega) | fail) only [rnL, opL, ruL, hpL, rsL, natL, outL, Nat.add_sub_cancel_left, Nat.mul_one, List.length_cons, List.length_nil, Nat.zero_add, Nat.add_zero, Nat.reduceAdd, Nat.reduceMul, Nat.reduceSub, Nat.reduceEqDiff, Nat.reduceLT, Nat.reduceLeDiff, litd_t, litd_f, decide_true, decide_false, Bool.not_true, Bool.not_false, not_true_eq_false, not_false_eq_true, true_and, and_true, false_and, and_false, true_or, or_true, false_or, or_false, Int.toNat_natCast, cond_true, cond_false, List.map_cons, List.map_nil, Option.map_some, Option.map_none]
    (refine Fin_g (.inr rfl) (by simp -failIfUnchanged (disch := first | assumption | omega | (refine room_i _ _ ?_ ?_ <;> omega) | (refine @_root_.id _ ?_; with_unfolding_all exact Eq.refl _) | (simp only [List.length_take, List.length_drop, List.length_append, List.length_cons, List.length_nil, List.length_replicate, List.length_map] <;> omega) | fail) only [rnL, opL, ruL, hpL, rsL, natL, outL, Nat.add_sub_cancel_left, Nat.mul_one, List.length_cons, List.length_nil, Nat.zero_add, Nat.add_zero, Nat.reduceAdd, Nat.reduceMul, Nat.reduceSub, Nat.reduceEqDiff, Nat.reduceLT, Nat.reduceLeDiff, litd_t, litd_f, decide_true, decide_false, Bool.not_true, Bool.not_false, not_true_eq_false, not_false_eq_true, true_and, and_true, false_and, and_false, true_or, or_true, false_or, or_false, Int.toNat_natCast, cond_true, cond_false, List.map_cons, List.map_nil, Option.map_some, Option.map_none]; rfl) ?_; simp -failIfUnchanged (disch := first | assumption | omega | (refine room_i _ _ ?_ ?_ <;> omega) | (refine @_root_.id _ ?_; with_unfolding_all exact Eq.refl _) | (simp only [List.length_take, List.length_drop, List.length_append, List.length_cons, List.length_nil, List.length_replicate, List.length_map] <;> omega) | fail) only [rnL, opL, ruL, hpL, rsL, natL, outL, Nat.add_sub_cancel_left, Nat.mul_one, List.length_cons, List.length_nil, Nat.zero_add, Nat.add_zero, Nat.reduceAdd, Nat.reduceMul, Nat.reduceSub, Nat.reduceEqDiff, Nat.reduceLT, Nat.reduceLeDiff, litd_t, litd_f, decide_true, decide_false, Bool.not_true, Bool.not_false, not_true_eq_false, not_false_eq_true, true_and, and_true, false_and, and_false, true_or, or_true, false_or, or_false, Int.toNat_natCast, cond_true, cond_false, List.map_cons, List.map_nil, Option.map_some, Option.map_none])
    rfl
  have b3 : 0 < s.length := List.length_pos_iff.2 b0
  by_cases b1 : (s.length : Int) > 14
  · simp -failIfUnchanged (disch := first | assumption | omega | (refine room_i _ _ ?_ ?_ <;> omega) | (refine @_root_.id _ ?_; with_unfolding_all exact Eq.refl _) | (simp only [List.length_take, List.length_drop, List.length_append, List.length_cons, List.length_nil, List.length_replicate, List.length_map] <;> omega) | fail) only [rnL, opL, ruL, hpL, rsL, natL, outL, Nat.add_sub_cancel_left, Nat.mul_one, List.length_cons, List.length_nil, Nat.zero_add, Nat.add_zero, Nat.reduceAdd, Nat.reduceMul, Nat.reduceSub, Nat.reduceEqDiff, Nat.reduceLT, Nat.reduceLeDiff, litd_t, litd_f, decide_true, decide_false, Bool.not_true, Bool.not_false, not_true_eq_false, not_false_eq_true, true_and, and_true, false_and, and_false, true_or, or_true, false_or, or_false, Int.toNat_natCast, cond_true, cond_false, List.map_cons, List.map_nil, Option.map_some, Option.map_none]
    (refine Fin_g (.inr rfl) (by simp -failIfUnchanged (disch := first | assumption | omega | (refine room_i _ _ ?_ ?_ <;> omega) | (refine @_root_.id _ ?_; with_unfolding_all exact Eq.refl _) | (simp only [List.length_take, List.length_drop, List.length_append, List.length_cons, List.length_nil, List.length_replicate, List.length_map] <;> omega) | fail) only [rnL, opL, ruL, hpL, rsL, natL, outL, Nat.add_sub_cancel_left, Nat.mul_one, List.length_cons, List.length_nil, Nat.zero_add, Nat.add_zero, Nat.reduceAdd, Nat.reduceMul, Nat.reduceSub, Nat.reduceEqDiff, Nat.reduceLT, Nat.reduceLeDiff, litd_t, litd_f, decide_true, decide_false, Bool.not_true, Bool.not_false, not_true_eq_false, not_false_eq_true, true_and, and_true, false_and, and_false, true_or, or_true, false_or, or_false, Int.toNat_natCast, cond_true, cond_false, List.map_cons, List.map_nil, Option.map_some, Option.map_none]; rfl) ?_; simp -failIfUnchanged (disch := first | assumption | omega | (refine room_i _ _ ?_ ?_ <;> omega) | (refine @_root_.id _ ?_; with_unfolding_all exact Eq.refl _) | (simp only [List.length_take, List.length_drop, List.length_append, List.length_cons, List.length_nil, List.length_replicate, List.length_map] <;> omega) | fail) only [rnL, opL, ruL, hpL, rsL, natL, outL, Nat.add_sub_cancel_left, Nat.mul_one, List.length_cons, List.length_nil, Nat.zero_add, Nat.add_zero, Nat.reduceAdd, Nat.reduceMul, Nat.reduceSub, Nat.reduceEqDiff, Nat.reduceLT, Nat.reduceLeDiff, litd_t, litd_f, decide_true, decide_false, Bool.not_true, Bool.not_false, not_true_eq_false, not_false_eq_true, true_and, and_true, false_and, and_false, true_or, or_true, false_or, or_false, Int.toNat_natCast, cond_true, cond_false, List.map_cons, List.map_nil, Option.map_some, Option.map_none])
    rw [num_bad (by simp [goodN]; omega)]
  by_cases b2 : (s.length : Int) > 1 ∧ ((s[0].toNat : Nat) : Int) = 48
  · have b4 : (((s[Int.toNat 0]'b3).toNat : Nat) : Int) = 48 := b2.2
    have b5 := b2.1
    simp -failIfUnchanged (disch := first | assumption | omega | (refine room_i _ _ ?_ ?_ <;> omega) | (refine @_root_.id _ ?_; with_unfolding_all exact Eq.refl _) | (simp only [List.length_take, List.length_drop, List.length_append, List.length_cons, List.length_nil, List.length_replicate, List.length_map] <;> omega) | fail) only [rnL, opL, ruL, hpL, rsL, natL, outL, Nat.add_sub_cancel_left, Nat.mul_one, List.length_cons, List.length_nil, Nat.zero_add, Nat.add_zero, Nat.reduceAdd, Nat.reduceMul, Nat.reduceSub, Nat.reduceEqDiff, Nat.reduceLT, Nat.reduceLeDiff, litd_t, litd_f, decide_true, decide_false, Bool.not_true, Bool.not_false, not_true_eq_false, not_false_eq_true, true_and, and_true, false_and, and_false, true_or, or_true, false_or, or_false, Int.toNat_natCast, cond_true, cond_false, List.map_cons, List.map_nil, Option.map_some, Option.map_none]
    (refine Fin_g (.inr rfl) (by simp -failIfUnchanged (disch := first | assumption | omega | (refine room_i _ _ ?_ ?_ <;> omega) | (refine @_root_.id _ ?_; with_unfolding_all exact Eq.refl _) | (simp only [List.length_take, List.length_drop, List.length_append, List.length_cons, List.length_nil, List.length_replicate, List.length_map] <;> omega) | fail) only [rnL, opL, ruL, hpL, rsL, natL, outL, Nat.add_sub_cancel_left, Nat.mul_one, List.length_cons, List.length_nil, Nat.zero_add, Nat.add_zero, Nat.reduceAdd, Nat.reduceMul, Nat.reduceSub, Nat.reduceEqDiff, Nat.reduceLT, Nat.reduceLeDiff, litd_t, litd_f, decide_true, decide_false, Bool.not_true, Bool.not_false, not_true_eq_false, not_false_eq_true, true_and, and_true, false_and, and_false, true_or, or_true, false_or, or_false, Int.toNat_natCast, cond_true, cond_false, List.map_cons, List.map_nil, Option.map_some, Option.map_none]; rfl) ?_; simp -failIfUnchanged (disch := first | assumption | omega | (refine room_i _ _ ?_ ?_ <;> omega) | (refine @_root_.id _ ?_; with_unfolding_all exact Eq.refl _) | (simp only [List.length_take, List.length_drop, List.length_append, List.length_cons, List.length_nil, List.length_replicate, List.length_map] <;> omega) | fail) only [rnL, opL, ruL, hpL, rsL, natL, outL, Nat.add_sub_cancel_left, Nat.mul_one, List.length_cons, List.length_nil, Nat.zero_add, Nat.add_zero, Nat.reduceAdd, Nat.reduceMul, Nat.reduceSub, Nat.reduceEqDiff, Nat.reduceLT, Nat.reduceLeDiff, litd_t, litd_f, decide_true, decide_false, Bool.not_true, Bool.not_false, not_true_eq_false, not_false_eq_true, true_and, and_true, false_and, and_false, true_or, or_true, false_or, or_false, Int.toNat_natCast, cond_true, cond_false, List.map_cons, List.map_nil, Option.map_some, Option.map_none])
    have e := lead_t b3 (by omega) (show s[0].toNat = 48 by have := b2.2; omega)
    rw [num_bad (by simp [goodN, e])]
  have hlead : lead s = false := lead_f b3 (fun h => b2 ⟨by omega, by omega⟩)
  apply merge
  · intro rest
    by_cases b5 : (s.length : Int) > 1
    · have b4 : ¬ (((s[Int.toNat 0]'b3).toNat : Nat) : Int) = 48 := fun h => b2 ⟨b5, h⟩
      simp -failIfUnchanged (disch := first | assumption | omega | (refine room_i _ _ ?_ ?_ <;> omega) | (refine @_root_.id _ ?_; with_unfolding_all exact Eq.refl _) | (simp only [List.length_take, List.length_drop, List.length_append, List.length_cons, List.length_nil, List.length_replicate, List.length_map] <;> omega) | fail) only [rnL, opL, ruL, hpL, rsL, natL, outL, Nat.add_sub_cancel_left, Nat.mul_one, List.length_cons, List.length_nil, Nat.zero_add, Nat.add_zero, Nat.reduceAdd, Nat.reduceMul, Nat.reduceSub, Nat.reduceEqDiff, Nat.reduceLT, Nat.reduceLeDiff, litd_t, litd_f, decide_true, decide_false, Bool.not_true, Bool.not_false, not_true_eq_false, not_false_eq_true, true_and, and_true, false_and, and_false, true_or, or_true, false_or, or_false, Int.toNat_natCast, cond_true, cond_false, List.map_cons, List.map_nil, Option.map_some, Option.map_none]
      exact rest
    · simp -failIfUnchanged (disch := first | assumption | omega | (refine room_i _ _ ?_ ?_ <;> omega) | (refine @_root_.id _ ?_; with_unfolding_all exact Eq.refl _) | (simp only [List.length_take, List.length_drop, List.length_append, List.length_cons, List.length_nil, List.length_replicate, List.length_map] <;> omega) | fail) only [rnL, opL, ruL, hpL, rsL, natL, outL, Nat.add_sub_cancel_left, Nat.mul_one, List.length_cons, List.length_nil, Nat.zero_add, Nat.add_zero, Nat.reduceAdd, Nat.reduceMul, Nat.reduceSub, Nat.reduceEqDiff, Nat.reduceLT, Nat.reduceLeDiff, litd_t, litd_f, decide_true, decide_false, Bool.not_true, Bool.not_false, not_true_eq_false, not_false_eq_true, true_and, and_true, false_and, and_false, true_or, or_true, false_or, or_false, Int.toNat_natCast, cond_true, cond_false, List.map_cons, List.map_nil, Option.map_some, Option.map_none]
      exact rest
  refine Run_upto s.length (fun i => [(0, .str s), (1, .int .i64 most), (4, .int .i64 0), (5, .bool false), (6, .int .i64 (valL (s.take i) : Nat)), (24, .bool false), (26, .int .i64 s.length), (27, .int .i64 (i : Nat))]) (fun _ => [[]]) (fun i => ∀ b ∈ s.take i, digB b = true) rfl rfl (fun m hm => by simp at hm) ?_
  intro i hi he
  simp -failIfUnchanged (disch := first | assumption | omega | (refine room_i _ _ ?_ ?_ <;> omega) | (refine @_root_.id _ ?_; with_unfolding_all exact Eq.refl _) | (simp only [List.length_take, List.length_drop, List.length_append, List.length_cons, List.length_nil, List.length_replicate, List.length_map] <;> omega) | fail) only [rnL, opL, ruL, hpL, rsL, natL, outL, Nat.add_sub_cancel_left, Nat.mul_one, List.length_cons, List.length_nil, Nat.zero_add, Nat.add_zero, Nat.reduceAdd, Nat.reduceMul, Nat.reduceSub, Nat.reduceEqDiff, Nat.reduceLT, Nat.reduceLeDiff, litd_t, litd_f, decide_true, decide_false, Bool.not_true, Bool.not_false, not_true_eq_false, not_false_eq_true, true_and, and_true, false_and, and_false, true_or, or_true, false_or, or_false, Int.toNat_natCast, cond_true, cond_false, List.map_cons, List.map_nil, Option.map_some, Option.map_none]
  (first | refine RunB_i (fun h2 => ?_) (fun h2 => ?_) | refine RunG_i (fun h2 => ?_) (fun h2 => ?_) | refine RunB_ib (fun h2 => ?_) (fun h2 => ?_))
  · have h3 : i < s.length := by omega
    have hv := valL_lt i hi he
    have hv2 : 10 ^ i ≤ 10 ^ 13 := Nat.pow_le_pow_right (by decide) (by omega)
    have hb := s[i].toNat_lt
    simp -failIfUnchanged (disch := first | assumption | omega | (refine room_i _ _ ?_ ?_ <;> omega) | (refine @_root_.id _ ?_; with_unfolding_all exact Eq.refl _) | (simp only [List.length_take, List.length_drop, List.length_append, List.length_cons, List.length_nil, List.length_replicate, List.length_map] <;> omega) | fail) only [rnL, opL, ruL, hpL, rsL, natL, outL, Nat.add_sub_cancel_left, Nat.mul_one, List.length_cons, List.length_nil, Nat.zero_add, Nat.add_zero, Nat.reduceAdd, Nat.reduceMul, Nat.reduceSub, Nat.reduceEqDiff, Nat.reduceLT, Nat.reduceLeDiff, litd_t, litd_f, decide_true, decide_false, Bool.not_true, Bool.not_false, not_true_eq_false, not_false_eq_true, true_and, and_true, false_and, and_false, true_or, or_true, false_or, or_false, Int.toNat_natCast, cond_true, cond_false, List.map_cons, List.map_nil, Option.map_some, Option.map_none]
    (first | refine RunB_i (fun g1 => ?_) (fun g1 => ?_) | refine RunG_i (fun g1 => ?_) (fun g1 => ?_) | refine RunB_ib (fun g1 => ?_) (fun g1 => ?_))
    · simp -failIfUnchanged (disch := first | assumption | omega | (refine room_i _ _ ?_ ?_ <;> omega) | (refine @_root_.id _ ?_; with_unfolding_all exact Eq.refl _) | (simp only [List.length_take, List.length_drop, List.length_append, List.length_cons, List.length_nil, List.length_replicate, List.length_map] <;> omega) | fail) only [rnL, opL, ruL, hpL, rsL, natL, outL, Nat.add_sub_cancel_left, Nat.mul_one, List.length_cons, List.length_nil, Nat.zero_add, Nat.add_zero, Nat.reduceAdd, Nat.reduceMul, Nat.reduceSub, Nat.reduceEqDiff, Nat.reduceLT, Nat.reduceLeDiff, litd_t, litd_f, decide_true, decide_false, Bool.not_true, Bool.not_false, not_true_eq_false, not_false_eq_true, true_and, and_true, false_and, and_false, true_or, or_true, false_or, or_false, Int.toNat_natCast, cond_true, cond_false, List.map_cons, List.map_nil, Option.map_some, Option.map_none]
      (refine Fin_g (.inr rfl) (by simp -failIfUnchanged (disch := first | assumption | omega | (refine room_i _ _ ?_ ?_ <;> omega) | (refine @_root_.id _ ?_; with_unfolding_all exact Eq.refl _) | (simp only [List.length_take, List.length_drop, List.length_append, List.length_cons, List.length_nil, List.length_replicate, List.length_map] <;> omega) | fail) only [rnL, opL, ruL, hpL, rsL, natL, outL, Nat.add_sub_cancel_left, Nat.mul_one, List.length_cons, List.length_nil, Nat.zero_add, Nat.add_zero, Nat.reduceAdd, Nat.reduceMul, Nat.reduceSub, Nat.reduceEqDiff, Nat.reduceLT, Nat.reduceLeDiff, litd_t, litd_f, decide_true, decide_false, Bool.not_true, Bool.not_false, not_true_eq_false, not_false_eq_true, true_and, and_true, false_and, and_false, true_or, or_true, false_or, or_false, Int.toNat_natCast, cond_true, cond_false, List.map_cons, List.map_nil, Option.map_some, Option.map_none]; rfl) ?_; simp -failIfUnchanged (disch := first | assumption | omega | (refine room_i _ _ ?_ ?_ <;> omega) | (refine @_root_.id _ ?_; with_unfolding_all exact Eq.refl _) | (simp only [List.length_take, List.length_drop, List.length_append, List.length_cons, List.length_nil, List.length_replicate, List.length_map] <;> omega) | fail) only [rnL, opL, ruL, hpL, rsL, natL, outL, Nat.add_sub_cancel_left, Nat.mul_one, List.length_cons, List.length_nil, Nat.zero_add, Nat.add_zero, Nat.reduceAdd, Nat.reduceMul, Nat.reduceSub, Nat.reduceEqDiff, Nat.reduceLT, Nat.reduceLeDiff, litd_t, litd_f, decide_true, decide_false, Bool.not_true, Bool.not_false, not_true_eq_false, not_false_eq_true, true_and, and_true, false_and, and_false, true_or, or_true, false_or, or_false, Int.toNat_natCast, cond_true, cond_false, List.map_cons, List.map_nil, Option.map_some, Option.map_none])
      rw [num_bad (good_bad h3 (by omega))]
    · simp -failIfUnchanged (disch := first | assumption | omega | (refine room_i _ _ ?_ ?_ <;> omega) | (refine @_root_.id _ ?_; with_unfolding_all exact Eq.refl _) | (simp only [List.length_take, List.length_drop, List.length_append, List.length_cons, List.length_nil, List.length_replicate, List.length_map] <;> omega) | fail) only [rnL, opL, ruL, hpL, rsL, natL, outL, Nat.add_sub_cancel_left, Nat.mul_one, List.length_cons, List.length_nil, Nat.zero_add, Nat.add_zero, Nat.reduceAdd, Nat.reduceMul, Nat.reduceSub, Nat.reduceEqDiff, Nat.reduceLT, Nat.reduceLeDiff, litd_t, litd_f, decide_true, decide_false, Bool.not_true, Bool.not_false, not_true_eq_false, not_false_eq_true, true_and, and_true, false_and, and_false, true_or, or_true, false_or, or_false, Int.toNat_natCast, cond_true, cond_false, List.map_cons, List.map_nil, Option.map_some, Option.map_none]
      (first | refine RunB_i (fun g2 => ?_) (fun g2 => ?_) | refine RunG_i (fun g2 => ?_) (fun g2 => ?_) | refine RunB_ib (fun g2 => ?_) (fun g2 => ?_))
      · simp -failIfUnchanged (disch := first | assumption | omega | (refine room_i _ _ ?_ ?_ <;> omega) | (refine @_root_.id _ ?_; with_unfolding_all exact Eq.refl _) | (simp only [List.length_take, List.length_drop, List.length_append, List.length_cons, List.length_nil, List.length_replicate, List.length_map] <;> omega) | fail) only [rnL, opL, ruL, hpL, rsL, natL, outL, Nat.add_sub_cancel_left, Nat.mul_one, List.length_cons, List.length_nil, Nat.zero_add, Nat.add_zero, Nat.reduceAdd, Nat.reduceMul, Nat.reduceSub, Nat.reduceEqDiff, Nat.reduceLT, Nat.reduceLeDiff, litd_t, litd_f, decide_true, decide_false, Bool.not_true, Bool.not_false, not_true_eq_false, not_false_eq_true, true_and, and_true, false_and, and_false, true_or, or_true, false_or, or_false, Int.toNat_natCast, cond_true, cond_false, List.map_cons, List.map_nil, Option.map_some, Option.map_none]
        (refine Fin_g (.inr rfl) (by simp -failIfUnchanged (disch := first | assumption | omega | (refine room_i _ _ ?_ ?_ <;> omega) | (refine @_root_.id _ ?_; with_unfolding_all exact Eq.refl _) | (simp only [List.length_take, List.length_drop, List.length_append, List.length_cons, List.length_nil, List.length_replicate, List.length_map] <;> omega) | fail) only [rnL, opL, ruL, hpL, rsL, natL, outL, Nat.add_sub_cancel_left, Nat.mul_one, List.length_cons, List.length_nil, Nat.zero_add, Nat.add_zero, Nat.reduceAdd, Nat.reduceMul, Nat.reduceSub, Nat.reduceEqDiff, Nat.reduceLT, Nat.reduceLeDiff, litd_t, litd_f, decide_true, decide_false, Bool.not_true, Bool.not_false, not_true_eq_false, not_false_eq_true, true_and, and_true, false_and, and_false, true_or, or_true, false_or, or_false, Int.toNat_natCast, cond_true, cond_false, List.map_cons, List.map_nil, Option.map_some, Option.map_none]; rfl) ?_; simp -failIfUnchanged (disch := first | assumption | omega | (refine room_i _ _ ?_ ?_ <;> omega) | (refine @_root_.id _ ?_; with_unfolding_all exact Eq.refl _) | (simp only [List.length_take, List.length_drop, List.length_append, List.length_cons, List.length_nil, List.length_replicate, List.length_map] <;> omega) | fail) only [rnL, opL, ruL, hpL, rsL, natL, outL, Nat.add_sub_cancel_left, Nat.mul_one, List.length_cons, List.length_nil, Nat.zero_add, Nat.add_zero, Nat.reduceAdd, Nat.reduceMul, Nat.reduceSub, Nat.reduceEqDiff, Nat.reduceLT, Nat.reduceLeDiff, litd_t, litd_f, decide_true, decide_false, Bool.not_true, Bool.not_false, not_true_eq_false, not_false_eq_true, true_and, and_true, false_and, and_false, true_or, or_true, false_or, or_false, Int.toNat_natCast, cond_true, cond_false, List.map_cons, List.map_nil, Option.map_some, Option.map_none])
        rw [num_bad (good_bad h3 (by omega))]
      · have w1 : IntKind.u8.wrap ((s[i].toNat : Int) - 48) = ((s[i].toNat - 48 : Nat) : Int) := by rw [wrap_u8 (by omega) (by omega)]; omega
        simp -failIfUnchanged (disch := first | assumption | omega | (refine room_i _ _ ?_ ?_ <;> omega) | (refine @_root_.id _ ?_; with_unfolding_all exact Eq.refl _) | (simp only [List.length_take, List.length_drop, List.length_append, List.length_cons, List.length_nil, List.length_replicate, List.length_map] <;> omega) | fail) only [rnL, opL, ruL, hpL, rsL, natL, outL, Nat.add_sub_cancel_left, Nat.mul_one, List.length_cons, List.length_nil, Nat.zero_add, Nat.add_zero, Nat.reduceAdd, Nat.reduceMul, Nat.reduceSub, Nat.reduceEqDiff, Nat.reduceLT, Nat.reduceLeDiff, litd_t, litd_f, decide_true, decide_false, Bool.not_true, Bool.not_false, not_true_eq_false, not_false_eq_true, true_and, and_true, false_and, and_false, true_or, or_true, false_or, or_false, Int.toNat_natCast, cond_true, cond_false, List.map_cons, List.map_nil, Option.map_some, Option.map_none, w1]
        refine .i h3 ?_ (by first | exact trivial | rfl) ?_
        · rw [valL_snoc s i h3]; rfl
        · intro b hb
          rw [take_snoc s i h3, List.mem_append] at hb
          rcases hb with hb | hb
          · exact he b hb
          · rw [List.mem_singleton.1 hb]; simp only [digB, decide_eq_true_eq]; omega
  · simp -failIfUnchanged (disch := first | assumption | omega | (refine room_i _ _ ?_ ?_ <;> omega) | (refine @_root_.id _ ?_; with_unfolding_all exact Eq.refl _) | (simp only [List.length_take, List.length_drop, List.length_append, List.length_cons, List.length_nil, List.length_replicate, List.length_map] <;> omega) | fail) only [rnL, opL, ruL, hpL, rsL, natL, outL, Nat.add_sub_cancel_left, Nat.mul_one, List.length_cons, List.length_nil, Nat.zero_add, Nat.add_zero, Nat.reduceAdd, Nat.reduceMul, Nat.reduceSub, Nat.reduceEqDiff, Nat.reduceLT, Nat.reduceLeDiff, litd_t, litd_f, decide_true, decide_false, Bool.not_true, Bool.not_false, not_true_eq_false, not_false_eq_true, true_and, and_true, false_and, and_false, true_or, or_true, false_or, or_false, Int.toNat_natCast, cond_true, cond_false, List.map_cons, List.map_nil, Option.map_some, Option.map_none]
    (refine Fin_g (.inr rfl) (by simp -failIfUnchanged (disch := first | assumption | omega | (refine room_i _ _ ?_ ?_ <;> omega) | (refine @_root_.id _ ?_; with_unfolding_all exact Eq.refl _) | (simp only [List.length_take, List.length_drop, List.length_append, List.length_cons, List.length_nil, List.length_replicate, List.length_map] <;> omega) | fail) only [rnL, opL, ruL, hpL, rsL, natL, outL, Nat.add_sub_cancel_left, Nat.mul_one, List.length_cons, List.length_nil, Nat.zero_add, Nat.add_zero, Nat.reduceAdd, Nat.reduceMul, Nat.reduceSub, Nat.reduceEqDiff, Nat.reduceLT, Nat.reduceLeDiff, litd_t, litd_f, decide_true, decide_false, Bool.not_true, Bool.not_false, not_true_eq_false, not_false_eq_true, true_and, and_true, false_and, and_false, true_or, or_true, false_or, or_false, Int.toNat_natCast, cond_true, cond_false, List.map_cons, List.map_nil, Option.map_some, Option.map_none]; rfl) ?_; simp -failIfUnchanged (disch := first | assumption | omega | (refine room_i _ _ ?_ ?_ <;> omega) | (refine @_root_.id _ ?_; with_unfolding_all exact Eq.refl _) | (simp only [List.length_take, List.length_drop, List.length_append, List.length_cons, List.length_nil, List.length_replicate, List.length_map] <;> omega) | fail) only [rnL, opL, ruL, hpL, rsL, natL, outL, Nat.add_sub_cancel_left, Nat.mul_one, List.length_cons, List.length_nil, Nat.zero_add, Nat.add_zero, Nat.reduceAdd, Nat.reduceMul, Nat.reduceSub, Nat.reduceEqDiff, Nat.reduceLT, Nat.reduceLeDiff, litd_t, litd_f, decide_true, decide_false, Bool.not_true, Bool.not_false, not_true_eq_false, not_false_eq_true, true_and, and_true, false_and, and_false, true_or, or_true, false_or, or_false, Int.toNat_natCast, cond_true, cond_false, List.map_cons, List.map_nil, Option.map_some, Option.map_none])
    have : i = s.length := by omega
    subst this
    rw [List.take_length] at he
    have hg : goodN s = true := by simp [goodN, b0, hlead, List.all_eq_true.2 he]; omega
    rw [List.take_length]
    simp [numV, hg]
end Go.AS.Tr

/-
  Words among words, lines as moves. By an AI agent.
-/
namespace Go.AS.Tr
open Go Go.AS Go.Proofs
set_option maxHeartbeats 1000000
set_option maxRecDepth 4000
def idxL (l : List Str) (w : Str) : Int := if l.findIdx (fun x => decide (w = x)) < l.length then (l.findIdx fun x => decide (w = x) : Nat) else -1
theorem idx_gives (nl : Bool) (l : List Str) (w : Str) (hl : l.length ≤ 100000) : Gives F 40 [sl nl l, .str w] (.int .i64 (idxL l w)) := by
  refine Gives.of fn_slices_Index_string_string rfl rfl (args' := [sl nl l, .str w]) (by simp only [mapO_nil, mapO_c2, consO_some, upf_v]) ?_
  simp only [ir_slices_Index_string_string]
  simp -failIfUnchanged (disch := first | assumption | omega | (refine room_i _ _ ?_ ?_ <;> omega) | (refine @_root_.id _ ?_; with_unfolding_all exact Eq.refl _) | (simp only [List.length_take, List.length_drop, List.length_append, List.length_cons, List.length_nil, List.length_replicate, List.length_map] <;> omega) | fail) only [rnL, opL, ruL, hpL, rsL, natL, outL, Nat.add_sub_cancel_left, Nat.mul_one, List.length_cons, List.length_nil, Nat.zero_add, Nat.add_zero, Nat.reduceAdd, Nat.reduceMul, Nat.reduceSub, Nat.reduceEqDiff, Nat.reduceLT, Nat.reduceLeDiff, litd_t, litd_f, decide_true, decide_false, Bool.not_true, Bool.not_false, not_true_eq_false, not_false_eq_true, true_and, and_true, false_and, and_false, true_or, or_true, false_or, or_false, Int.toNat_natCast, cond_true, cond_false, List.map_cons, List.map_nil, Option.map_some, Option.map_none]
  refine Run_upto l.length (fun i => [(0, sl nl l), (1, .str w), (4, .int .i64 0), (7, .int .i64 l.length), (8, .int .i64 (i : Nat))]) (fun _ => [[]]) (fun i => ∀ j (h : j < i) (h2 : j < l.length), ¬ w = l[j]) rfl rfl (fun j h => by omega) ?_
  intro i hi he
  simp -failIfUnchanged (disch := first | assumption | omega | (refine room_i _ _ ?_ ?_ <;> omega) | (refine @_root_.id _ ?_; with_unfolding_all exact Eq.refl _) | (simp only [List.length_take, List.length_drop, List.length_append, List.length_cons, List.length_nil, List.length_replicate, List.length_map] <;> omega) | fail) only [rnL, opL, ruL, hpL, rsL, natL, outL, Nat.add_sub_cancel_left, Nat.mul_one, List.length_cons, List.length_nil, Nat.zero_add, Nat.add_zero, Nat.reduceAdd, Nat.reduceMul, Nat.reduceSub, Nat.reduceEqDiff, Nat.reduceLT, Nat.reduceLeDiff, litd_t, litd_f, decide_true, decide_false, Bool.not_true, Bool.not_false, not_true_eq_false, not_false_eq_true, true_and, and_true, false_and, and_false, true_or, or_true, false_or, or_false, Int.toNat_natCast, cond_true, cond_false, List.map_cons, List.map_nil, Option.map_some, Option.map_none]
  (first | refine RunB_i (fun h2 => ?_) (fun h2 => ?_) | refine RunG_i (fun h2 => ?_) (fun h2 => ?_) | refine RunB_ib (fun h2 => ?_) (fun h2 => ?_))
  · have h3 : i < l.length := by omega
    simp -failIfUnchanged (disch := first | assumption | omega | (refine room_i _ _ ?_ ?_ <;> omega) | (refine @_root_.id _ ?_; with_unfolding_all exact Eq.refl _) | (simp only [List.length_take, List.length_drop, List.length_append, List.length_cons, List.length_nil, List.length_replicate, List.length_map] <;> omega) | fail) only [rnL, opL, ruL, hpL, rsL, natL, outL, Nat.add_sub_cancel_left, Nat.mul_one, List.length_cons, List.length_nil, Nat.zero_add, Nat.add_zero, Nat.reduceAdd, Nat.reduceMul, Nat.reduceSub, Nat.reduceEqDiff, Nat.reduceLT, Nat.reduceLeDiff, litd_t, litd_f, decide_true, decide_false, Bool.not_true, Bool.not_false, not_true_eq_false, not_false_eq_true, true_and, and_true, false_and, and_false, true_or, or_true, false_or, or_false, Int.toNat_natCast, cond_true, cond_false, List.map_cons, List.map_nil, Option.map_some, Option.map_none]
    (first | refine RunB_i (fun g => ?_) (fun g => ?_) | refine RunG_i (fun g => ?_) (fun g => ?_) | refine RunB_ib (fun g => ?_) (fun g => ?_))
    · simp -failIfUnchanged (disch := first | assumption | omega | (refine room_i _ _ ?_ ?_ <;> omega) | (refine @_root_.id _ ?_; with_unfolding_all exact Eq.refl _) | (simp only [List.length_take, List.length_drop, List.length_append, List.length_cons, List.length_nil, List.length_replicate, List.length_map] <;> omega) | fail) only [rnL, opL, ruL, hpL, rsL, natL, outL, Nat.add_sub_cancel_left, Nat.mul_one, List.length_cons, List.length_nil, Nat.zero_add, Nat.add_zero, Nat.reduceAdd, Nat.reduceMul, Nat.reduceSub, Nat.reduceEqDiff, Nat.reduceLT, Nat.reduceLeDiff, litd_t, litd_f, decide_true, decide_false, Bool.not_true, Bool.not_false, not_true_eq_false, not_false_eq_true, true_and, and_true, false_and, and_false, true_or, or_true, false_or, or_false, Int.toNat_natCast, cond_true, cond_false, List.map_cons, List.map_nil, Option.map_some, Option.map_none]
      (refine Fin_g (.inr rfl) (by simp -failIfUnchanged (disch := first | assumption | omega | (refine room_i _ _ ?_ ?_ <;> omega) | (refine @_root_.id _ ?_; with_unfolding_all exact Eq.refl _) | (simp only [List.length_take, List.length_drop, List.length_append, List.length_cons, List.length_nil, List.length_replicate, List.length_map] <;> omega) | fail) only [rnL, opL, ruL, hpL, rsL, natL, outL, Nat.add_sub_cancel_left, Nat.mul_one, List.length_cons, List.length_nil, Nat.zero_add, Nat.add_zero, Nat.reduceAdd, Nat.reduceMul, Nat.reduceSub, Nat.reduceEqDiff, Nat.reduceLT, Nat.reduceLeDiff, litd_t, litd_f, decide_true, decide_false, Bool.not_true, Bool.not_false, not_true_eq_false, not_false_eq_true, true_and, and_true, false_and, and_false, true_or, or_true, false_or, or_false, Int.toNat_natCast, cond_true, cond_false, List.map_cons, List.map_nil, Option.map_some, Option.map_none]; rfl) ?_; simp -failIfUnchanged (disch := first | assumption | omega | (refine room_i _ _ ?_ ?_ <;> omega) | (refine @_root_.id _ ?_; with_unfolding_all exact Eq.refl _) | (simp only [List.length_take, List.length_drop, List.length_append, List.length_cons, List.length_nil, List.length_replicate, List.length_map] <;> omega) | fail) only [rnL, opL, ruL, hpL, rsL, natL, outL, Nat.add_sub_cancel_left, Nat.mul_one, List.length_cons, List.length_nil, Nat.zero_add, Nat.add_zero, Nat.reduceAdd, Nat.reduceMul, Nat.reduceSub, Nat.reduceEqDiff, Nat.reduceLT, Nat.reduceLeDiff, litd_t, litd_f, decide_true, decide_false, Bool.not_true, Bool.not_false, not_true_eq_false, not_false_eq_true, true_and, and_true, false_and, and_false, true_or, or_true, false_or, or_false, Int.toNat_natCast, cond_true, cond_false, List.map_cons, List.map_nil, Option.map_some, Option.map_none])
      have : l.findIdx (fun x => decide (w = x)) = i := (List.findIdx_eq h3).2 ⟨by simp [g], fun j hj => by simp [he j hj (by omega)]⟩
      simp [idxL, this, h3]
    · simp -failIfUnchanged (disch := first | assumption | omega | (refine room_i _ _ ?_ ?_ <;> omega) | (refine @_root_.id _ ?_; with_unfolding_all exact Eq.refl _) | (simp only [List.length_take, List.length_drop, List.length_append, List.length_cons, List.length_nil, List.length_replicate, List.length_map] <;> omega) | fail) only [rnL, opL, ruL, hpL, rsL, natL, outL, Nat.add_sub_cancel_left, Nat.mul_one, List.length_cons, List.length_nil, Nat.zero_add, Nat.add_zero, Nat.reduceAdd, Nat.reduceMul, Nat.reduceSub, Nat.reduceEqDiff, Nat.reduceLT, Nat.reduceLeDiff, litd_t, litd_f, decide_true, decide_false, Bool.not_true, Bool.not_false, not_true_eq_false, not_false_eq_true, true_and, and_true, false_and, and_false, true_or, or_true, false_or, or_false, Int.toNat_natCast, cond_true, cond_false, List.map_cons, List.map_nil, Option.map_some, Option.map_none]
      refine .i h3 (by first | exact trivial | rfl) (by first | exact trivial | rfl) ?_
      intro j hj hjl
      rcases Nat.lt_or_ge j i with h | h
      · exact he j h hjl
      · have : j = i := by omega
        subst this
        exact g
  · simp -failIfUnchanged (disch := first | assumption | omega | (refine room_i _ _ ?_ ?_ <;> omega) | (refine @_root_.id _ ?_; with_unfolding_all exact Eq.refl _) | (simp only [List.length_take, List.length_drop, List.length_append, List.length_cons, List.length_nil, List.length_replicate, List.length_map] <;> omega) | fail) only [rnL, opL, ruL, hpL, rsL, natL, outL, Nat.add_sub_cancel_left, Nat.mul_one, List.length_cons, List.length_nil, Nat.zero_add, Nat.add_zero, Nat.reduceAdd, Nat.reduceMul, Nat.reduceSub, Nat.reduceEqDiff, Nat.reduceLT, Nat.reduceLeDiff, litd_t, litd_f, decide_true, decide_false, Bool.not_true, Bool.not_false, not_true_eq_false, not_false_eq_true, true_and, and_true, false_and, and_false, true_or, or_true, false_or, or_false, Int.toNat_natCast, cond_true, cond_false, List.map_cons, List.map_nil, Option.map_some, Option.map_none]
    (refine Fin_g (.inr rfl) (by simp -failIfUnchanged (disch := first | assumption | omega | (refine room_i _ _ ?_ ?_ <;> omega) | (refine @_root_.id _ ?_; with_unfolding_all exact Eq.refl _) | (simp only [List.length_take, List.length_drop, List.length_append, List.length_cons, List.length_nil, List.length_replicate, List.length_map] <;> omega) | fail) only [rnL, opL, ruL, hpL, rsL, natL, outL, Nat.add_sub_cancel_left, Nat.mul_one, List.length_cons, List.length_nil, Nat.zero_add, Nat.add_zero, Nat.reduceAdd, Nat.reduceMul, Nat.reduceSub, Nat.reduceEqDiff, Nat.reduceLT, Nat.reduceLeDiff, litd_t, litd_f, decide_true, decide_false, Bool.not_true, Bool.not_false, not_true_eq_false, not_false_eq_true, true_and, and_true, false_and, and_false, true_or, or_true, false_or, or_false, Int.toNat_natCast, cond_true, cond_false, List.map_cons, List.map_nil, Option.map_some, Option.map_none]; rfl) ?_; simp -failIfUnchanged (disch := first | assumption | omega | (refine room_i _ _ ?_ ?_ <;> omega) | (refine @_root_.id _ ?_; with_unfolding_all exact Eq.refl _) | (simp only [List.length_take, List.length_drop, List.length_append, List.length_cons, List.length_nil, List.length_replicate, List.length_map] <;> omega) | fail) only [rnL, opL, ruL, hpL, rsL, natL, outL, Nat.add_sub_cancel_left, Nat.mul_one, List.length_cons, List.length_nil, Nat.zero_add, Nat.add_zero, Nat.reduceAdd, Nat.reduceMul, Nat.reduceSub, Nat.reduceEqDiff, Nat.reduceLT, Nat.reduceLeDiff, litd_t, litd_f, decide_true, decide_false, Bool.not_true, Bool.not_false, not_true_eq_false, not_false_eq_true, true_and, and_true, false_and, and_false, true_or, or_true, false_or, or_false, Int.toNat_natCast, cond_true, cond_false, List.map_cons, List.map_nil, Option.map_some, Option.map_none])
    have : i = l.length := by omega
    subst this
    have : l.findIdx (fun x => decide (w = x)) = l.length := List.findIdx_eq_length.2 fun x hx => by
      obtain ⟨j, hj, rfl⟩ := List.getElem_of_mem hx
      simp [he j hj hj]
    simp [idxL, this]
theorem immS_sl {l : List Str} (h : l ≠ []) : immS l = sl false l := by
  have : ∀ l : List Str, l.map AV.str = cellsL l := fun l => by
    induction l with
    | nil => rfl
    | cons a l ih => rw [cellsL_cons, ← ih]; rfl
  unfold immS sl
  rw [this]
  cases l with
  | nil => exact absurd rfl h
  | cons a l => rfl
theorem splitL_ne (c : UInt8) : ∀ s : Str, splitL c s ≠ []
  | [] => by simp [splitL]
  | b :: l => by
    unfold splitL
    cases b == c with
    | true => simp
    | false =>
      simp only [cond_false]
      split <;> simp
theorem split_gives {s : Str} (h : s.length ≤ 4000000000) : Gives F 39 [.str s, .str [UInt8.ofNat 32]] (sl false (splitL 32 s)) := by
  refine ⟨1, ?_⟩
  have h1 : Nat.ble s.length 4000000000 = true := by rw [Nat.ble_eq]; exact h
  simp only [callV, fn_strings_Split, ir_strings_Split, List.nil_append, List.append_nil, natV, natS, h1, cond_true]
  rw [← immS_sl (splitL_ne 32 s)]; rfl
theorem cut_gives {s : Str} (h : s.length ≤ 4000000000) : Gives F 26 [.str s, .str [UInt8.ofNat 10]] (.tuple [.str (cutL 10 s).1, .str (cutL 10 s).2.1, .bool (cutL 10 s).2.2]) := by
  refine ⟨1, ?_⟩
  have h1 : Nat.ble s.length 4000000000 = true := by rw [Nat.ble_eq]; exact h
  simp only [callV, fn_strings_Cut, ir_strings_Cut, List.nil_append, List.append_nil, natV, natS, h1, cond_true]
  rfl
theorem splitL_len (c : UInt8) : ∀ s : Str, (splitL c s).length ≤ s.length + 1
  | [] => Nat.le_refl _
  | b :: l => by
    have := splitL_len c l
    unfold splitL
    cases b == c with
    | true => simpa using this
    | false =>
      simp only [cond_false]
      split
      · simp
      · rename_i heq; rw [heq] at this; simp only [List.length_cons] at this ⊢; omega
def zeroM : Mv := ⟨0, 0, 0, 0, 0⟩
def moveV (s : Str) : Mv × Bool := match splitL 32 s with
  | [a, b, c, d, e] => if 0 ≤ idxL wordsL b ∧ (numV a 2147483647).2 = true ∧ (numV c 2147483647).2 = true ∧ (numV d 1099511627776).2 = true ∧ (numV e 2147483647).2 = true
    then (⟨(numV a 2147483647).1, UInt8.ofNat (idxL wordsL b).toNat, (numV c 2147483647).1, (numV d 1099511627776).1, (numV e 2147483647).1⟩, true) else (zeroM, false)
  | _ => (zeroM, false)
theorem build00 {H : Heap} : opV H (.build [.int .i64 0, .int .u8 0, .int .i64 0, .int .i64 0, .int .i64 0] []) = some (.agg [.int .i64 0, .int .u8 0, .int .i64 0, .int .i64 0, .int .i64 0], H) := rfl
theorem build5 {H : Heap} {a c d e : Int} {w : UInt8} : opV H (.build [.int .i64 0, .int .u8 0, .int .i64 0, .int .i64 0, .int .i64 0] [(0, 1, .c (.int .i64 a)), (1, 1, .c (.int .u8 (w.toNat : Nat))), (2, 1, .c (.int .i64 c)), (3, 1, .c (.int .i64 d)), (4, 1, .c (.int .i64 e))]) = some (.agg (Cel.enc (⟨a, w, c, d, e⟩ : Mv)), H) := rfl
theorem idxL_lt (l : List Str) (w : Str) : idxL l w < l.length ∨ l = [] := by
  cases l with
  | nil => exact .inr rfl
  | cons a l =>
    refine .inl ?_
    unfold idxL
    split
    · omega
    · simp only [List.length_cons]; omega
theorem splice5 (a b c d e x y z u v : AV) : splice [a, b, c, d, e] 0 [x, y, z, u, v] = [x, y, z, u, v] := rfl
theorem move_gives (s : Str) (h : s.length ≤ 1000000) : Gives F 27 [.str s] (.tuple [.agg (Cel.enc (moveV s).1), .bool (moveV s).2]) := by
  refine Gives.of fn_trace_move rfl rfl (args' := [.str s]) (by simp only [mapO_nil, mapO_c2, consO_some, upf_v]) ?_
  simp only [ir_trace_move]
  have hs := (split_gives (s := s) (by omega)).isp rfl (sl_free _ _)
  have hlen := splitL_len 32 s
  generalize hq : splitL 32 s = q at hs hlen
  have hw := words_gives.isp rfl (sl_free _ _)
  simp -failIfUnchanged (disch := first | assumption | omega | (refine room_i _ _ ?_ ?_ <;> omega) | (refine @_root_.id _ ?_; with_unfolding_all exact Eq.refl _) | (simp only [List.length_take, List.length_drop, List.length_append, List.length_cons, List.length_nil, List.length_replicate, List.length_map] <;> omega) | fail) only [rnL, opL, ruL, hpL, rsL, natL, outL, Nat.add_sub_cancel_left, Nat.mul_one, List.length_cons, List.length_nil, Nat.zero_add, Nat.add_zero, Nat.reduceAdd, Nat.reduceMul, Nat.reduceSub, Nat.reduceEqDiff, Nat.reduceLT, Nat.reduceLeDiff, litd_t, litd_f, decide_true, decide_false, Bool.not_true, Bool.not_false, not_true_eq_false, not_false_eq_true, true_and, and_true, false_and, and_false, true_or, or_true, false_or, or_false, Int.toNat_natCast, cond_true, cond_false, List.map_cons, List.map_nil, Option.map_some, Option.map_none, hs]
  (first | refine RunB_i (fun h5 => ?_) (fun h5 => ?_) | refine RunG_i (fun h5 => ?_) (fun h5 => ?_) | refine RunB_ib (fun h5 => ?_) (fun h5 => ?_))
  · simp -failIfUnchanged (disch := first | assumption | omega | (refine room_i _ _ ?_ ?_ <;> omega) | (refine @_root_.id _ ?_; with_unfolding_all exact Eq.refl _) | (simp only [List.length_take, List.length_drop, List.length_append, List.length_cons, List.length_nil, List.length_replicate, List.length_map] <;> omega) | fail) only [rnL, opL, ruL, hpL, rsL, natL, outL, Nat.add_sub_cancel_left, Nat.mul_one, List.length_cons, List.length_nil, Nat.zero_add, Nat.add_zero, Nat.reduceAdd, Nat.reduceMul, Nat.reduceSub, Nat.reduceEqDiff, Nat.reduceLT, Nat.reduceLeDiff, litd_t, litd_f, decide_true, decide_false, Bool.not_true, Bool.not_false, not_true_eq_false, not_false_eq_true, true_and, and_true, false_and, and_false, true_or, or_true, false_or, or_false, Int.toNat_natCast, cond_true, cond_false, List.map_cons, List.map_nil, Option.map_some, Option.map_none, build00, splice5]
    (refine Fin_g (.inr rfl) (by simp -failIfUnchanged (disch := first | assumption | omega | (refine room_i _ _ ?_ ?_ <;> omega) | (refine @_root_.id _ ?_; with_unfolding_all exact Eq.refl _) | (simp only [List.length_take, List.length_drop, List.length_append, List.length_cons, List.length_nil, List.length_replicate, List.length_map] <;> omega) | fail) only [rnL, opL, ruL, hpL, rsL, natL, outL, Nat.add_sub_cancel_left, Nat.mul_one, List.length_cons, List.length_nil, Nat.zero_add, Nat.add_zero, Nat.reduceAdd, Nat.reduceMul, Nat.reduceSub, Nat.reduceEqDiff, Nat.reduceLT, Nat.reduceLeDiff, litd_t, litd_f, decide_true, decide_false, Bool.not_true, Bool.not_false, not_true_eq_false, not_false_eq_true, true_and, and_true, false_and, and_false, true_or, or_true, false_or, or_false, Int.toNat_natCast, cond_true, cond_false, List.map_cons, List.map_nil, Option.map_some, Option.map_none]; rfl) ?_; simp -failIfUnchanged (disch := first | assumption | omega | (refine room_i _ _ ?_ ?_ <;> omega) | (refine @_root_.id _ ?_; with_unfolding_all exact Eq.refl _) | (simp only [List.length_take, List.length_drop, List.length_append, List.length_cons, List.length_nil, List.length_replicate, List.length_map] <;> omega) | fail) only [rnL, opL, ruL, hpL, rsL, natL, outL, Nat.add_sub_cancel_left, Nat.mul_one, List.length_cons, List.length_nil, Nat.zero_add, Nat.add_zero, Nat.reduceAdd, Nat.reduceMul, Nat.reduceSub, Nat.reduceEqDiff, Nat.reduceLT, Nat.reduceLeDiff, litd_t, litd_f, decide_true, decide_false, Bool.not_true, Bool.not_false, not_true_eq_false, not_false_eq_true, true_and, and_true, false_and, and_false, true_or, or_true, false_or, or_false, Int.toNat_natCast, cond_true, cond_false, List.map_cons, List.map_nil, Option.map_some, Option.map_none])
    have e : moveV s = (zeroM, false) := by
      unfold moveV
      rw [hq]
      split
      · exact absurd rfl h5
      · rfl
    rw [e]; rfl
  · have hl5 : q.length = 5 := by omega
    clear h5
    match q, hl5 with
    | [a, b, c, d, e], _ =>
      have n1 := (number_p a 2147483647).isp rfl rfl
      have n2 := (number_p c 2147483647).isp rfl rfl
      have n3 := (number_p d 1099511627776).isp rfl rfl
      have n4 := (number_p e 2147483647).isp rfl rfl
      have hi := (idx_gives false wordsL b (by decide)).isp (by simp [hfrees, hfree, sl_free]) rfl
      have k0 : ∀ h, [a, b, c, d, e][Int.toNat 0]'h = a := fun _ => rfl
      have k1 : ∀ h, [a, b, c, d, e][Int.toNat 1]'h = b := fun _ => rfl
      have k2 : ∀ h, [a, b, c, d, e][Int.toNat 2]'h = c := fun _ => rfl
      have k3 : ∀ h, [a, b, c, d, e][Int.toNat 3]'h = d := fun _ => rfl
      have k4 : ∀ h, [a, b, c, d, e][Int.toNat 4]'h = e := fun _ => rfl
      simp -failIfUnchanged (disch := first | assumption | omega | (refine room_i _ _ ?_ ?_ <;> omega) | (refine @_root_.id _ ?_; with_unfolding_all exact Eq.refl _) | (simp only [List.length_take, List.length_drop, List.length_append, List.length_cons, List.length_nil, List.length_replicate, List.length_map] <;> omega) | fail) only [rnL, opL, ruL, hpL, rsL, natL, outL, Nat.add_sub_cancel_left, Nat.mul_one, List.length_cons, List.length_nil, Nat.zero_add, Nat.add_zero, Nat.reduceAdd, Nat.reduceMul, Nat.reduceSub, Nat.reduceEqDiff, Nat.reduceLT, Nat.reduceLeDiff, litd_t, litd_f, decide_true, decide_false, Bool.not_true, Bool.not_false, not_true_eq_false, not_false_eq_true, true_and, and_true, false_and, and_false, true_or, or_true, false_or, or_false, Int.toNat_natCast, cond_true, cond_false, List.map_cons, List.map_nil, Option.map_some, Option.map_none, hw, hi, n1, n2, n3, n4, k0, k1, k2, k3, k4]
      have bad : ¬ (0 ≤ idxL wordsL b ∧ (numV a 2147483647).2 = true ∧ (numV c 2147483647).2 = true ∧ (numV d 1099511627776).2 = true ∧ (numV e 2147483647).2 = true) → moveV s = (zeroM, false) := fun hh => by
        unfold moveV
        rw [hq]
        exact if_neg hh
      by_cases c0 : idxL wordsL b < 0
      · simp -failIfUnchanged (disch := first | assumption | omega | (refine room_i _ _ ?_ ?_ <;> omega) | (refine @_root_.id _ ?_; with_unfolding_all exact Eq.refl _) | (simp only [List.length_take, List.length_drop, List.length_append, List.length_cons, List.length_nil, List.length_replicate, List.length_map] <;> omega) | fail) only [rnL, opL, ruL, hpL, rsL, natL, outL, Nat.add_sub_cancel_left, Nat.mul_one, List.length_cons, List.length_nil, Nat.zero_add, Nat.add_zero, Nat.reduceAdd, Nat.reduceMul, Nat.reduceSub, Nat.reduceEqDiff, Nat.reduceLT, Nat.reduceLeDiff, litd_t, litd_f, decide_true, decide_false, Bool.not_true, Bool.not_false, not_true_eq_false, not_false_eq_true, true_and, and_true, false_and, and_false, true_or, or_true, false_or, or_false, Int.toNat_natCast, cond_true, cond_false, List.map_cons, List.map_nil, Option.map_some, Option.map_none, build00, splice5]
        (refine Fin_g (.inr rfl) (by simp -failIfUnchanged (disch := first | assumption | omega | (refine room_i _ _ ?_ ?_ <;> omega) | (refine @_root_.id _ ?_; with_unfolding_all exact Eq.refl _) | (simp only [List.length_take, List.length_drop, List.length_append, List.length_cons, List.length_nil, List.length_replicate, List.length_map] <;> omega) | fail) only [rnL, opL, ruL, hpL, rsL, natL, outL, Nat.add_sub_cancel_left, Nat.mul_one, List.length_cons, List.length_nil, Nat.zero_add, Nat.add_zero, Nat.reduceAdd, Nat.reduceMul, Nat.reduceSub, Nat.reduceEqDiff, Nat.reduceLT, Nat.reduceLeDiff, litd_t, litd_f, decide_true, decide_false, Bool.not_true, Bool.not_false, not_true_eq_false, not_false_eq_true, true_and, and_true, false_and, and_false, true_or, or_true, false_or, or_false, Int.toNat_natCast, cond_true, cond_false, List.map_cons, List.map_nil, Option.map_some, Option.map_none]; rfl) ?_; simp -failIfUnchanged (disch := first | assumption | omega | (refine room_i _ _ ?_ ?_ <;> omega) | (refine @_root_.id _ ?_; with_unfolding_all exact Eq.refl _) | (simp only [List.length_take, List.length_drop, List.length_append, List.length_cons, List.length_nil, List.length_replicate, List.length_map] <;> omega) | fail) only [rnL, opL, ruL, hpL, rsL, natL, outL, Nat.add_sub_cancel_left, Nat.mul_one, List.length_cons, List.length_nil, Nat.zero_add, Nat.add_zero, Nat.reduceAdd, Nat.reduceMul, Nat.reduceSub, Nat.reduceEqDiff, Nat.reduceLT, Nat.reduceLeDiff, litd_t, litd_f, decide_true, decide_false, Bool.not_true, Bool.not_false, not_true_eq_false, not_false_eq_true, true_and, and_true, false_and, and_false, true_or, or_true, false_or, or_false, Int.toNat_natCast, cond_true, cond_false, List.map_cons, List.map_nil, Option.map_some, Option.map_none])
        rw [bad (fun hh => by have := hh.1; omega)]; rfl
      cases c1 : (numV a 2147483647).2 with
      | false =>
        simp -failIfUnchanged (disch := first | assumption | omega | (refine room_i _ _ ?_ ?_ <;> omega) | (refine @_root_.id _ ?_; with_unfolding_all exact Eq.refl _) | (simp only [List.length_take, List.length_drop, List.length_append, List.length_cons, List.length_nil, List.length_replicate, List.length_map] <;> omega) | fail) only [rnL, opL, ruL, hpL, rsL, natL, outL, Nat.add_sub_cancel_left, Nat.mul_one, List.length_cons, List.length_nil, Nat.zero_add, Nat.add_zero, Nat.reduceAdd, Nat.reduceMul, Nat.reduceSub, Nat.reduceEqDiff, Nat.reduceLT, Nat.reduceLeDiff, litd_t, litd_f, decide_true, decide_false, Bool.not_true, Bool.not_false, not_true_eq_false, not_false_eq_true, true_and, and_true, false_and, and_false, true_or, or_true, false_or, or_false, Int.toNat_natCast, cond_true, cond_false, List.map_cons, List.map_nil, Option.map_some, Option.map_none, c1, build00, splice5]
        (refine Fin_g (.inr rfl) (by simp -failIfUnchanged (disch := first | assumption | omega | (refine room_i _ _ ?_ ?_ <;> omega) | (refine @_root_.id _ ?_; with_unfolding_all exact Eq.refl _) | (simp only [List.length_take, List.length_drop, List.length_append, List.length_cons, List.length_nil, List.length_replicate, List.length_map] <;> omega) | fail) only [rnL, opL, ruL, hpL, rsL, natL, outL, Nat.add_sub_cancel_left, Nat.mul_one, List.length_cons, List.length_nil, Nat.zero_add, Nat.add_zero, Nat.reduceAdd, Nat.reduceMul, Nat.reduceSub, Nat.reduceEqDiff, Nat.reduceLT, Nat.reduceLeDiff, litd_t, litd_f, decide_true, decide_false, Bool.not_true, Bool.not_false, not_true_eq_false, not_false_eq_true, true_and, and_true, false_and, and_false, true_or, or_true, false_or, or_false, Int.toNat_natCast, cond_true, cond_false, List.map_cons, List.map_nil, Option.map_some, Option.map_none]; rfl) ?_; simp -failIfUnchanged (disch := first | assumption | omega | (refine room_i _ _ ?_ ?_ <;> omega) | (refine @_root_.id _ ?_; with_unfolding_all exact Eq.refl _) | (simp only [List.length_take, List.length_drop, List.length_append, List.length_cons, List.length_nil, List.length_replicate, List.length_map] <;> omega) | fail) only [rnL, opL, ruL, hpL, rsL, natL, outL, Nat.add_sub_cancel_left, Nat.mul_one, List.length_cons, List.length_nil, Nat.zero_add, Nat.add_zero, Nat.reduceAdd, Nat.reduceMul, Nat.reduceSub, Nat.reduceEqDiff, Nat.reduceLT, Nat.reduceLeDiff, litd_t, litd_f, decide_true, decide_false, Bool.not_true, Bool.not_false, not_true_eq_false, not_false_eq_true, true_and, and_true, false_and, and_false, true_or, or_true, false_or, or_false, Int.toNat_natCast, cond_true, cond_false, List.map_cons, List.map_nil, Option.map_some, Option.map_none])
        rw [bad (fun hh => by rw [c1] at hh; cases hh.2.1)]; rfl
      | true =>
      cases c2 : (numV c 2147483647).2 with
      | false =>
        simp -failIfUnchanged (disch := first | assumption | omega | (refine room_i _ _ ?_ ?_ <;> omega) | (refine @_root_.id _ ?_; with_unfolding_all exact Eq.refl _) | (simp only [List.length_take, List.length_drop, List.length_append, List.length_cons, List.length_nil, List.length_replicate, List.length_map] <;> omega) | fail) only [rnL, opL, ruL, hpL, rsL, natL, outL, Nat.add_sub_cancel_left, Nat.mul_one, List.length_cons, List.length_nil, Nat.zero_add, Nat.add_zero, Nat.reduceAdd, Nat.reduceMul, Nat.reduceSub, Nat.reduceEqDiff, Nat.reduceLT, Nat.reduceLeDiff, litd_t, litd_f, decide_true, decide_false, Bool.not_true, Bool.not_false, not_true_eq_false, not_false_eq_true, true_and, and_true, false_and, and_false, true_or, or_true, false_or, or_false, Int.toNat_natCast, cond_true, cond_false, List.map_cons, List.map_nil, Option.map_some, Option.map_none, c1, c2, build00, splice5]
        (refine Fin_g (.inr rfl) (by simp -failIfUnchanged (disch := first | assumption | omega | (refine room_i _ _ ?_ ?_ <;> omega) | (refine @_root_.id _ ?_; with_unfolding_all exact Eq.refl _) | (simp only [List.length_take, List.length_drop, List.length_append, List.length_cons, List.length_nil, List.length_replicate, List.length_map] <;> omega) | fail) only [rnL, opL, ruL, hpL, rsL, natL, outL, Nat.add_sub_cancel_left, Nat.mul_one, List.length_cons, List.length_nil, Nat.zero_add, Nat.add_zero, Nat.reduceAdd, Nat.reduceMul, Nat.reduceSub, Nat.reduceEqDiff, Nat.reduceLT, Nat.reduceLeDiff, litd_t, litd_f, decide_true, decide_false, Bool.not_true, Bool.not_false, not_true_eq_false, not_false_eq_true, true_and, and_true, false_and, and_false, true_or, or_true, false_or, or_false, Int.toNat_natCast, cond_true, cond_false, List.map_cons, List.map_nil, Option.map_some, Option.map_none]; rfl) ?_; simp -failIfUnchanged (disch := first | assumption | omega | (refine room_i _ _ ?_ ?_ <;> omega) | (refine @_root_.id _ ?_; with_unfolding_all exact Eq.refl _) | (simp only [List.length_take, List.length_drop, List.length_append, List.length_cons, List.length_nil, List.length_replicate, List.length_map] <;> omega) | fail) only [rnL, opL, ruL, hpL, rsL, natL, outL, Nat.add_sub_cancel_left, Nat.mul_one, List.length_cons, List.length_nil, Nat.zero_add, Nat.add_zero, Nat.reduceAdd, Nat.reduceMul, Nat.reduceSub, Nat.reduceEqDiff, Nat.reduceLT, Nat.reduceLeDiff, litd_t, litd_f, decide_true, decide_false, Bool.not_true, Bool.not_false, not_true_eq_false, not_false_eq_true, true_and, and_true, false_and, and_false, true_or, or_true, false_or, or_false, Int.toNat_natCast, cond_true, cond_false, List.map_cons, List.map_nil, Option.map_some, Option.map_none])
        rw [bad (fun hh => by rw [c2] at hh; cases hh.2.2.1)]; rfl
      | true =>
      cases c3 : (numV d 1099511627776).2 with
      | false =>
        simp -failIfUnchanged (disch := first | assumption | omega | (refine room_i _ _ ?_ ?_ <;> omega) | (refine @_root_.id _ ?_; with_unfolding_all exact Eq.refl _) | (simp only [List.length_take, List.length_drop, List.length_append, List.length_cons, List.length_nil, List.length_replicate, List.length_map] <;> omega) | fail) only [rnL, opL, ruL, hpL, rsL, natL, outL, Nat.add_sub_cancel_left, Nat.mul_one, List.length_cons, List.length_nil, Nat.zero_add, Nat.add_zero, Nat.reduceAdd, Nat.reduceMul, Nat.reduceSub, Nat.reduceEqDiff, Nat.reduceLT, Nat.reduceLeDiff, litd_t, litd_f, decide_true, decide_false, Bool.not_true, Bool.not_false, not_true_eq_false, not_false_eq_true, true_and, and_true, false_and, and_false, true_or, or_true, false_or, or_false, Int.toNat_natCast, cond_true, cond_false, List.map_cons, List.map_nil, Option.map_some, Option.map_none, c1, c2, c3, build00, splice5]
        (refine Fin_g (.inr rfl) (by simp -failIfUnchanged (disch := first | assumption | omega | (refine room_i _ _ ?_ ?_ <;> omega) | (refine @_root_.id _ ?_; with_unfolding_all exact Eq.refl _) | (simp only [List.length_take, List.length_drop, List.length_append, List.length_cons, List.length_nil, List.length_replicate, List.length_map] <;> omega) | fail) only [rnL, opL, ruL, hpL, rsL, natL, outL, Nat.add_sub_cancel_left, Nat.mul_one, List.length_cons, List.length_nil, Nat.zero_add, Nat.add_zero, Nat.reduceAdd, Nat.reduceMul, Nat.reduceSub, Nat.reduceEqDiff, Nat.reduceLT, Nat.reduceLeDiff, litd_t, litd_f, decide_true, decide_false, Bool.not_true, Bool.not_false, not_true_eq_false, not_false_eq_true, true_and, and_true, false_and, and_false, true_or, or_true, false_or, or_false, Int.toNat_natCast, cond_true, cond_false, List.map_cons, List.map_nil, Option.map_some, Option.map_none]; rfl) ?_; simp -failIfUnchanged (disch := first | assumption | omega | (refine room_i _ _ ?_ ?_ <;> omega) | (refine @_root_.id _ ?_; with_unfolding_all exact Eq.refl _) | (simp only [List.length_take, List.length_drop, List.length_append, List.length_cons, List.length_nil, List.length_replicate, List.length_map] <;> omega) | fail) only [rnL, opL, ruL, hpL, rsL, natL, outL, Nat.add_sub_cancel_left, Nat.mul_one, List.length_cons, List.length_nil, Nat.zero_add, Nat.add_zero, Nat.reduceAdd, Nat.reduceMul, Nat.reduceSub, Nat.reduceEqDiff, Nat.reduceLT, Nat.reduceLeDiff, litd_t, litd_f, decide_true, decide_false, Bool.not_true, Bool.not_false, not_true_eq_false, not_false_eq_true, true_and, and_true, false_and, and_false, true_or, or_true, false_or, or_false, Int.toNat_natCast, cond_true, cond_false, List.map_cons, List.map_nil, Option.map_some, Option.map_none])
        rw [bad (fun hh => by rw [c3] at hh; cases hh.2.2.2.1)]; rfl
      | true =>
      cases c4 : (numV e 2147483647).2 with
      | false =>
        simp -failIfUnchanged (disch := first | assumption | omega | (refine room_i _ _ ?_ ?_ <;> omega) | (refine @_root_.id _ ?_; with_unfolding_all exact Eq.refl _) | (simp only [List.length_take, List.length_drop, List.length_append, List.length_cons, List.length_nil, List.length_replicate, List.length_map] <;> omega) | fail) only [rnL, opL, ruL, hpL, rsL, natL, outL, Nat.add_sub_cancel_left, Nat.mul_one, List.length_cons, List.length_nil, Nat.zero_add, Nat.add_zero, Nat.reduceAdd, Nat.reduceMul, Nat.reduceSub, Nat.reduceEqDiff, Nat.reduceLT, Nat.reduceLeDiff, litd_t, litd_f, decide_true, decide_false, Bool.not_true, Bool.not_false, not_true_eq_false, not_false_eq_true, true_and, and_true, false_and, and_false, true_or, or_true, false_or, or_false, Int.toNat_natCast, cond_true, cond_false, List.map_cons, List.map_nil, Option.map_some, Option.map_none, c1, c2, c3, c4, build00, splice5]
        (refine Fin_g (.inr rfl) (by simp -failIfUnchanged (disch := first | assumption | omega | (refine room_i _ _ ?_ ?_ <;> omega) | (refine @_root_.id _ ?_; with_unfolding_all exact Eq.refl _) | (simp only [List.length_take, List.length_drop, List.length_append, List.length_cons, List.length_nil, List.length_replicate, List.length_map] <;> omega) | fail) only [rnL, opL, ruL, hpL, rsL, natL, outL, Nat.add_sub_cancel_left, Nat.mul_one, List.length_cons, List.length_nil, Nat.zero_add, Nat.add_zero, Nat.reduceAdd, Nat.reduceMul, Nat.reduceSub, Nat.reduceEqDiff, Nat.reduceLT, Nat.reduceLeDiff, litd_t, litd_f, decide_true, decide_false, Bool.not_true, Bool.not_false, not_true_eq_false, not_false_eq_true, true_and, and_true, false_and, and_false, true_or, or_true, false_or, or_false, Int.toNat_natCast, cond_true, cond_false, List.map_cons, List.map_nil, Option.map_some, Option.map_none]; rfl) ?_; simp -failIfUnchanged (disch := first | assumption | omega | (refine room_i _ _ ?_ ?_ <;> omega) | (refine @_root_.id _ ?_; with_unfolding_all exact Eq.refl _) | (simp only [List.length_take, List.length_drop, List.length_append, List.length_cons, List.length_nil, List.length_replicate, List.length_map] <;> omega) | fail) only [rnL, opL, ruL, hpL, rsL, natL, outL, Nat.add_sub_cancel_left, Nat.mul_one, List.length_cons, List.length_nil, Nat.zero_add, Nat.add_zero, Nat.reduceAdd, Nat.reduceMul, Nat.reduceSub, Nat.reduceEqDiff, Nat.reduceLT, Nat.reduceLeDiff, litd_t, litd_f, decide_true, decide_false, Bool.not_true, Bool.not_false, not_true_eq_false, not_false_eq_true, true_and, and_true, false_and, and_false, true_or, or_true, false_or, or_false, Int.toNat_natCast, cond_true, cond_false, List.map_cons, List.map_nil, Option.map_some, Option.map_none])
        rw [bad (fun hh => by rw [c4] at hh; cases hh.2.2.2.2)]; rfl
      | true =>
        have hk : idxL wordsL b < 256 := by
          have hw17 : wordsL.length = 17 := by kernel_rfl
          rcases idxL_lt wordsL b with h | h
          · omega
          · rw [h] at hw17; cases hw17
        obtain ⟨w, hw⟩ : ∃ w : UInt8, w = UInt8.ofNat (idxL wordsL b).toNat := ⟨_, rfl⟩
        have e1 : IntKind.u8.wrap (idxL wordsL b) = ((w.toNat : Nat) : Int) := by
          rw [wrap_u8 (by omega) hk, hw, UInt8.toNat_ofNat', Nat.mod_eq_of_lt (by omega)]; omega
        simp -failIfUnchanged (disch := first | assumption | omega | (refine room_i _ _ ?_ ?_ <;> omega) | (refine @_root_.id _ ?_; with_unfolding_all exact Eq.refl _) | (simp only [List.length_take, List.length_drop, List.length_append, List.length_cons, List.length_nil, List.length_replicate, List.length_map] <;> omega) | fail) only [rnL, opL, ruL, hpL, rsL, natL, outL, Nat.add_sub_cancel_left, Nat.mul_one, List.length_cons, List.length_nil, Nat.zero_add, Nat.add_zero, Nat.reduceAdd, Nat.reduceMul, Nat.reduceSub, Nat.reduceEqDiff, Nat.reduceLT, Nat.reduceLeDiff, litd_t, litd_f, decide_true, decide_false, Bool.not_true, Bool.not_false, not_true_eq_false, not_false_eq_true, true_and, and_true, false_and, and_false, true_or, or_true, false_or, or_false, Int.toNat_natCast, cond_true, cond_false, List.map_cons, List.map_nil, Option.map_some, Option.map_none, c1, c2, c3, c4, e1, build5, splMv]
        (refine Fin_g (.inr rfl) (by simp -failIfUnchanged (disch := first | assumption | omega | (refine room_i _ _ ?_ ?_ <;> omega) | (refine @_root_.id _ ?_; with_unfolding_all exact Eq.refl _) | (simp only [List.length_take, List.length_drop, List.length_append, List.length_cons, List.length_nil, List.length_replicate, List.length_map] <;> omega) | fail) only [rnL, opL, ruL, hpL, rsL, natL, outL, Nat.add_sub_cancel_left, Nat.mul_one, List.length_cons, List.length_nil, Nat.zero_add, Nat.add_zero, Nat.reduceAdd, Nat.reduceMul, Nat.reduceSub, Nat.reduceEqDiff, Nat.reduceLT, Nat.reduceLeDiff, litd_t, litd_f, decide_true, decide_false, Bool.not_true, Bool.not_false, not_true_eq_false, not_false_eq_true, true_and, and_true, false_and, and_false, true_or, or_true, false_or, or_false, Int.toNat_natCast, cond_true, cond_false, List.map_cons, List.map_nil, Option.map_some, Option.map_none]; rfl) ?_; simp -failIfUnchanged (disch := first | assumption | omega | (refine room_i _ _ ?_ ?_ <;> omega) | (refine @_root_.id _ ?_; with_unfolding_all exact Eq.refl _) | (simp only [List.length_take, List.length_drop, List.length_append, List.length_cons, List.length_nil, List.length_replicate, List.length_map] <;> omega) | fail) only [rnL, opL, ruL, hpL, rsL, natL, outL, Nat.add_sub_cancel_left, Nat.mul_one, List.length_cons, List.length_nil, Nat.zero_add, Nat.add_zero, Nat.reduceAdd, Nat.reduceMul, Nat.reduceSub, Nat.reduceEqDiff, Nat.reduceLT, Nat.reduceLeDiff, litd_t, litd_f, decide_true, decide_false, Bool.not_true, Bool.not_false, not_true_eq_false, not_false_eq_true, true_and, and_true, false_and, and_false, true_or, or_true, false_or, or_false, Int.toNat_natCast, cond_true, cond_false, List.map_cons, List.map_nil, Option.map_some, Option.map_none])
        have e : moveV s = (⟨(numV a 2147483647).1, UInt8.ofNat (idxL wordsL b).toNat, (numV c 2147483647).1, (numV d 1099511627776).1, (numV e 2147483647).1⟩, true) := by
          unfold moveV
          rw [hq]
          exact if_pos ⟨by omega, c1, c2, c3, c4⟩
        rw [e, hw]
end Go.AS.Tr

/-
  Lines as moves. By an AI agent.
-/
namespace Go.AS
open Go
theorem Row.leave3 {α : Type} [Cel α] {nl : Bool} {H : Heap} {w v u : AV} {l : List α} [hv : FreeV v] [hu : FreeV u] (h : Row nl H w l) : Go.AS.leave H (.tuple [w, v, u]) = some (.tuple [sl (nl && l.isEmpty) l, v, u]) := by
  obtain ⟨r, h1, h2, h3⟩ := h.frz 997
  have h4 : Go.AS.frz H 999 v = some v := by unfold Go.AS.frz; rw [hv.free]; rfl
  have h5 : Go.AS.frz H 999 u = some u := by unfold Go.AS.frz; rw [hu.free]; rfl
  by_cases hw : hfree (.tuple [w, v, u]) = true
  · have hw' : hfree w = true := by simp only [hfree, hfrees, Bool.and_eq_true] at hw; exact hw.1
    have : r = w := by
      have e : Go.AS.frz H 999 w = some w := by unfold Go.AS.frz; rw [hw']; rfl
      rw [e] at h1; exact (Option.some.inj h1).symm
    subst this
    rw [leave_f hw]
    simp only [fg, fgs, h3, hv.fg, hu.fg]
  · have hw' : hfree (.tuple [w, v, u]) = false := by simpa using hw
    have e : Go.AS.frz H 1000 (.tuple [w, v, u]) = some (.tuple [r, v, u]) := by
      rw [show (1000 : Nat) = 999 + 1 from rfl, Go.AS.frz]
      simp only [hw', cond_false, mapO, h1, h4, h5, Option.map_some]
    unfold Go.AS.leave
    rw [e]
    have hf : hfree (.tuple [r, v, u]) = true := by simp only [hfree, hfrees, h2, hv.free, hu.free, Bool.and_self]
    simp only [down_f hf, Option.map_some, fg, fgs, h3, hv.fg, hu.fg]
end Go.AS
namespace Go.AS.Tr
open Go Go.AS Go.Proofs
set_option maxHeartbeats 1000000
set_option maxRecDepth 4000
theorem cutL_len (c : UInt8) : ∀ s : Str, (cutL c s).2.2 = true → (cutL c s).1.length + (cutL c s).2.1.length + 1 = s.length
  | [], h => by cases h
  | b :: l, h => by
    have ih := cutL_len c l
    unfold cutL at h ⊢
    cases hb : b == c with
    | true => simp
    | false =>
      rw [hb] at h
      simp only [cond_false] at h ⊢
      generalize cutL c l = q at h ih ⊢
      obtain ⟨x, y, z⟩ := q
      have := ih h
      simp only [List.length_cons] at this ⊢
      omega
theorem cutL_le (c : UInt8) : ∀ s : Str, (cutL c s).1.length ≤ s.length
  | [] => Nat.le_refl _
  | b :: l => by
    have ih := cutL_le c l
    unfold cutL
    cases b == c with
    | true => simp
    | false => simpa using ih
def parseP : Nat → Str → Nat → List Mv → List Mv × Nat × Nat
  | 0, _, _, out => (out, 0, 0)
  | k + 1, s, at_, out => if s = [] then (out, 0, 0) else if (cutL 10 s).2.2 = false then ([], at_, 5) else if (moveV (cutL 10 s).1).2 = false then ([], at_, 3)
    else parseP k (cutL 10 s).2.1 (at_ + 1) (out ++ [(moveV (cutL 10 s).1).1])
def parseV (s : Str) : List Mv × Nat × Nat := parseP (s.length + 1) s 1 []
theorem parse_gives (s : Str) (hs : s.length ≤ 1000000) : Gives F 10 [.str s] (.tuple [sl (parseV s).1.isEmpty (parseV s).1, .int .i64 (parseV s).2.1, .int .i64 (parseV s).2.2]) := by
  refine Gives.of fn_trace_Parse rfl rfl (args' := [.str s]) (by simp only [mapO_nil, mapO_c2, consO_some, upf_v]) ?_
  simp only [ir_trace_Parse]
  simp -failIfUnchanged (disch := first | assumption | omega | (refine room_i _ _ ?_ ?_ <;> omega) | (refine @_root_.id _ ?_; with_unfolding_all exact Eq.refl _) | (simp only [List.length_take, List.length_drop, List.length_append, List.length_cons, List.length_nil, List.length_replicate, List.length_map] <;> omega) | fail) only [rnL, opL, ruL, hpL, rsL, natL, outL, Nat.add_sub_cancel_left, Nat.mul_one, List.length_cons, List.length_nil, Nat.zero_add, Nat.add_zero, Nat.reduceAdd, Nat.reduceMul, Nat.reduceSub, Nat.reduceEqDiff, Nat.reduceLT, Nat.reduceLeDiff, litd_t, litd_f, decide_true, decide_false, Bool.not_true, Bool.not_false, not_true_eq_false, not_false_eq_true, true_and, and_true, false_and, and_false, true_or, or_true, false_or, or_false, Int.toNat_natCast, cond_true, cond_false, List.map_cons, List.map_nil, Option.map_some, Option.map_none]
  refine Run_loop (σ := Str × Nat × List Mv × Heap × AV × Nat) (fun x => [(0, .str x.1), (2, .imm true 0 0 (some 0) []), (3, .int .i64 0), (4, .int .i64 0), (5, x.2.2.2.2.1), (6, .int .i64 (x.2.1 : Nat))]) (fun x => [x.2.2.2.1])
    (fun x => parseP (x.2.2.2.2.2 + 1) x.1 x.2.1 x.2.2.1 = parseV s ∧ x.1.length ≤ x.2.2.2.2.2 ∧ Row true x.2.2.2.1 x.2.2.2.2.1 x.2.2.1 ∧ x.2.1 + x.1.length ≤ 1000001 ∧ x.2.2.1.length + x.1.length ≤ 1000000)
    (fun x => x.1.length) (s, 1, [], [], .imm true 0 0 (some 0) [], s.length) rfl rfl ⟨rfl, Nat.le_refl _, Row.nil, by show 1 + s.length ≤ _; omega, by simpa using hs⟩ ?_
  rintro ⟨t, n, out, H, w, k⟩ ⟨h1, h2, h3, h4, h5⟩
  simp only at h1 h2 h3 h4 h5 ⊢
  have hR := h3
  by_cases b0 : t = []
  · have b1 : ¬ ¬ t = [] := fun h => h b0
    simp -failIfUnchanged (disch := first | assumption | omega | (refine room_i _ _ ?_ ?_ <;> omega) | (refine @_root_.id _ ?_; with_unfolding_all exact Eq.refl _) | (simp only [List.length_take, List.length_drop, List.length_append, List.length_cons, List.length_nil, List.length_replicate, List.length_map] <;> omega) | fail) only [rnL, opL, ruL, hpL, rsL, natL, outL, Nat.add_sub_cancel_left, Nat.mul_one, List.length_cons, List.length_nil, Nat.zero_add, Nat.add_zero, Nat.reduceAdd, Nat.reduceMul, Nat.reduceSub, Nat.reduceEqDiff, Nat.reduceLT, Nat.reduceLeDiff, litd_t, litd_f, decide_true, decide_false, Bool.not_true, Bool.not_false, not_true_eq_false, not_false_eq_true, true_and, and_true, false_and, and_false, true_or, or_true, false_or, or_false, Int.toNat_natCast, cond_true, cond_false, List.map_cons, List.map_nil, Option.map_some, Option.map_none]
    have e : parseV s = (out, 0, 0) := by rw [← h1]; exact if_pos b0
    refine Fin_g (vs := [w, .int .i64 0, .int .i64 0]) (.inr rfl) (by simp only [mapO, resultA_tmp]; simp -failIfUnchanged (disch := first | assumption | omega | (refine room_i _ _ ?_ ?_ <;> omega) | (refine @_root_.id _ ?_; with_unfolding_all exact Eq.refl _) | (simp only [List.length_take, List.length_drop, List.length_append, List.length_cons, List.length_nil, List.length_replicate, List.length_map] <;> omega) | fail) only [rnL, opL, ruL, hpL, rsL, natL, outL, Nat.add_sub_cancel_left, Nat.mul_one, List.length_cons, List.length_nil, Nat.zero_add, Nat.add_zero, Nat.reduceAdd, Nat.reduceMul, Nat.reduceSub, Nat.reduceEqDiff, Nat.reduceLT, Nat.reduceLeDiff, litd_t, litd_f, decide_true, decide_false, Bool.not_true, Bool.not_false, not_true_eq_false, not_false_eq_true, true_and, and_true, false_and, and_false, true_or, or_true, false_or, or_false, Int.toNat_natCast, cond_true, cond_false, List.map_cons, List.map_nil, Option.map_some, Option.map_none, h3.tmp]) ?_
    rw [e]
    simp only [outV_3]
    rw [Row.leave3 h3]
    rfl
  · have hc := (cut_gives (s := t) (by omega)).isp rfl rfl
    have hcl := cutL_le 10 t
    cases c1 : (cutL 10 t).2.2 with
    | false =>
      simp -failIfUnchanged (disch := first | assumption | omega | (refine room_i _ _ ?_ ?_ <;> omega) | (refine @_root_.id _ ?_; with_unfolding_all exact Eq.refl _) | (simp only [List.length_take, List.length_drop, List.length_append, List.length_cons, List.length_nil, List.length_replicate, List.length_map] <;> omega) | fail) only [rnL, opL, ruL, hpL, rsL, natL, outL, Nat.add_sub_cancel_left, Nat.mul_one, List.length_cons, List.length_nil, Nat.zero_add, Nat.add_zero, Nat.reduceAdd, Nat.reduceMul, Nat.reduceSub, Nat.reduceEqDiff, Nat.reduceLT, Nat.reduceLeDiff, litd_t, litd_f, decide_true, decide_false, Bool.not_true, Bool.not_false, not_true_eq_false, not_false_eq_true, true_and, and_true, false_and, and_false, true_or, or_true, false_or, or_false, Int.toNat_natCast, cond_true, cond_false, List.map_cons, List.map_nil, Option.map_some, Option.map_none, hc, c1]
      have e : parseV s = ([], n, 5) := by rw [← h1, parseP, if_neg b0, if_pos c1]
      refine Fin_g (.inr rfl) (by simp -failIfUnchanged (disch := first | assumption | omega | (refine room_i _ _ ?_ ?_ <;> omega) | (refine @_root_.id _ ?_; with_unfolding_all exact Eq.refl _) | (simp only [List.length_take, List.length_drop, List.length_append, List.length_cons, List.length_nil, List.length_replicate, List.length_map] <;> omega) | fail) only [rnL, opL, ruL, hpL, rsL, natL, outL, Nat.add_sub_cancel_left, Nat.mul_one, List.length_cons, List.length_nil, Nat.zero_add, Nat.add_zero, Nat.reduceAdd, Nat.reduceMul, Nat.reduceSub, Nat.reduceEqDiff, Nat.reduceLT, Nat.reduceLeDiff, litd_t, litd_f, decide_true, decide_false, Bool.not_true, Bool.not_false, not_true_eq_false, not_false_eq_true, true_and, and_true, false_and, and_false, true_or, or_true, false_or, or_false, Int.toNat_natCast, cond_true, cond_false, List.map_cons, List.map_nil, Option.map_some, Option.map_none]; rfl) ?_
      rw [e]
      rfl
    | true =>
      have hcn := cutL_len 10 t c1
      have hm := (move_gives (cutL 10 t).1 (by omega)).isp rfl (by simp [hfree, hfrees, Cel.free])
      cases c2 : (moveV (cutL 10 t).1).2 with
      | false =>
        simp -failIfUnchanged (disch := first | assumption | omega | (refine room_i _ _ ?_ ?_ <;> omega) | (refine @_root_.id _ ?_; with_unfolding_all exact Eq.refl _) | (simp only [List.length_take, List.length_drop, List.length_append, List.length_cons, List.length_nil, List.length_replicate, List.length_map] <;> omega) | fail) only [rnL, opL, ruL, hpL, rsL, natL, outL, Nat.add_sub_cancel_left, Nat.mul_one, List.length_cons, List.length_nil, Nat.zero_add, Nat.add_zero, Nat.reduceAdd, Nat.reduceMul, Nat.reduceSub, Nat.reduceEqDiff, Nat.reduceLT, Nat.reduceLeDiff, litd_t, litd_f, decide_true, decide_false, Bool.not_true, Bool.not_false, not_true_eq_false, not_false_eq_true, true_and, and_true, false_and, and_false, true_or, or_true, false_or, or_false, Int.toNat_natCast, cond_true, cond_false, List.map_cons, List.map_nil, Option.map_some, Option.map_none, hc, c1, hxL, splMv, hm, c2]
        have e : parseV s = ([], n, 3) := by rw [← h1, parseP, if_neg b0, if_neg (by rw [c1]; decide), if_pos c2]
        refine Fin_g (.inr rfl) (by simp -failIfUnchanged (disch := first | assumption | omega | (refine room_i _ _ ?_ ?_ <;> omega) | (refine @_root_.id _ ?_; with_unfolding_all exact Eq.refl _) | (simp only [List.length_take, List.length_drop, List.length_append, List.length_cons, List.length_nil, List.length_replicate, List.length_map] <;> omega) | fail) only [rnL, opL, ruL, hpL, rsL, natL, outL, Nat.add_sub_cancel_left, Nat.mul_one, List.length_cons, List.length_nil, Nat.zero_add, Nat.add_zero, Nat.reduceAdd, Nat.reduceMul, Nat.reduceSub, Nat.reduceEqDiff, Nat.reduceLT, Nat.reduceLeDiff, litd_t, litd_f, decide_true, decide_false, Bool.not_true, Bool.not_false, not_true_eq_false, not_false_eq_true, true_and, and_true, false_and, and_false, true_or, or_true, false_or, or_false, Int.toNat_natCast, cond_true, cond_false, List.map_cons, List.map_nil, Option.map_some, Option.map_none]; rfl) ?_
        rw [e]
        rfl
      | true =>
        simp -failIfUnchanged (disch := first | assumption | omega | (refine room_i _ _ ?_ ?_ <;> omega) | (refine @_root_.id _ ?_; with_unfolding_all exact Eq.refl _) | (simp only [List.length_take, List.length_drop, List.length_append, List.length_cons, List.length_nil, List.length_replicate, List.length_map] <;> omega) | fail) only [rnL, opL, ruL, hpL, rsL, natL, outL, Nat.add_sub_cancel_left, Nat.mul_one, List.length_cons, List.length_nil, Nat.zero_add, Nat.add_zero, Nat.reduceAdd, Nat.reduceMul, Nat.reduceSub, Nat.reduceEqDiff, Nat.reduceLT, Nat.reduceLeDiff, litd_t, litd_f, decide_true, decide_false, Bool.not_true, Bool.not_false, not_true_eq_false, not_false_eq_true, true_and, and_true, false_and, and_false, true_or, or_true, false_or, or_false, Int.toNat_natCast, cond_true, cond_false, List.map_cons, List.map_nil, Option.map_some, Option.map_none, hc, c1, hxL, splMv, hm, c2]
        obtain ⟨w', H1, ha, hA1, _⟩ := Row.append (es := 5) (bytes := 40) (moveV (cutL 10 t).1).1 (h3.app (L := [AObj.cells (Cel.enc (moveV (cutL 10 t).1).1)])) rfl rfl (by refine room_i _ _ ?_ ?_ <;> omega)
        simp -failIfUnchanged (disch := first | assumption | omega | (refine room_i _ _ ?_ ?_ <;> omega) | (refine @_root_.id _ ?_; with_unfolding_all exact Eq.refl _) | (simp only [List.length_take, List.length_drop, List.length_append, List.length_cons, List.length_nil, List.length_replicate, List.length_map] <;> omega) | fail) only [rnL, opL, ruL, hpL, rsL, natL, outL, Nat.add_sub_cancel_left, Nat.mul_one, List.length_cons, List.length_nil, Nat.zero_add, Nat.add_zero, Nat.reduceAdd, Nat.reduceMul, Nat.reduceSub, Nat.reduceEqDiff, Nat.reduceLT, Nat.reduceLeDiff, litd_t, litd_f, decide_true, decide_false, Bool.not_true, Bool.not_false, not_true_eq_false, not_false_eq_true, true_and, and_true, false_and, and_false, true_or, or_true, false_or, or_false, Int.toNat_natCast, cond_true, cond_false, List.map_cons, List.map_nil, Option.map_some, Option.map_none, ha]
        refine Next.i ((cutL 10 t).2.1, n + 1, out ++ [(moveV (cutL 10 t).1).1], H1, w', k - 1) ?_ rfl ⟨?_, ?_, hA1, ?_, ?_⟩ ?_
        · rfl
        · show parseP (k - 1 + 1) (cutL 10 t).2.1 (n + 1) (out ++ [(moveV (cutL 10 t).1).1]) = parseV s
          rw [show k - 1 + 1 = k by omega, ← h1, parseP, if_neg b0, if_neg (by rw [c1]; decide), if_neg (by rw [c2]; decide)]
        · show (cutL 10 t).2.1.length ≤ k - 1
          omega
        · show n + 1 + (cutL 10 t).2.1.length ≤ 1000001
          omega
        · show (out ++ [(moveV (cutL 10 t).1).1]).length + (cutL 10 t).2.1.length ≤ 1000000
          rw [List.length_append]; simp only [List.length_cons, List.length_nil]; omega
        · show (cutL 10 t).2.1.length < t.length
          omega
end Go.AS.Tr

/-
  What is printed is parsed as it was, and the other way round. By an AI agent.
-/
namespace Go.AS.Tr
open Go Go.AS Go.Proofs
set_option maxHeartbeats 1000000
set_option maxRecDepth 4000
/-! ### numbers -/
theorem valL_app (a : Str) (b : UInt8) : valL (a ++ [b]) = 10 * valL a + (b.toNat - 48) := by
  unfold valL
  rw [List.foldl_append]; rfl
theorem foldl_ge : ∀ (r : Str) (n : Nat), n ≤ r.foldl (fun n b => 10 * n + (b.toNat - 48)) n
  | [], n => Nat.le_refl _
  | b :: r, n => Nat.le_trans (by omega) (foldl_ge r (10 * n + (b.toNat - 48)))
theorem valL_pos {c : UInt8} {r : Str} (hd : digB c = true) (h : ¬ c.toNat = 48) : 1 ≤ valL (c :: r) := by
  simp only [digB, decide_eq_true_eq] at hd
  exact Nat.le_trans (by omega) (foldl_ge r (10 * 0 + (c.toNat - 48)))
theorem dig_of {n : Nat} (h : n < 10) : digB (UInt8.ofNat (48 + n)) = true ∧ (UInt8.ofNat (48 + n)).toNat = 48 + n := by
  have : (UInt8.ofNat (48 + n)).toNat = 48 + n := by rw [UInt8.toNat_ofNat', Nat.mod_eq_of_lt (by omega)]
  exact ⟨by simp only [digB, decide_eq_true_eq]; omega, this⟩
theorem dig_back {b : UInt8} (h : digB b = true) : UInt8.ofNat (48 + (b.toNat - 48)) = b := by
  simp only [digB, decide_eq_true_eq] at h
  rw [show 48 + (b.toNat - 48) = b.toNat by omega, UInt8.ofNat_toNat]
theorem digL_val : ∀ (k n : Nat), n < 10 ^ (k + 1) → ∃ c r, digL (k + 1) n = c :: r ∧ (∀ b ∈ c :: r, digB b = true) ∧ valL (c :: r) = n ∧ (c.toNat = 48 → n = 0 ∧ r = [])
  | k, n, hn => by
    by_cases h : n < 10
    · obtain ⟨h1, h2⟩ := dig_of h
      refine ⟨_, [], digL_lt h, by simpa using h1, ?_, fun e => ⟨by omega, rfl⟩⟩
      show 10 * 0 + ((UInt8.ofNat (48 + n)).toNat - 48) = n
      omega
    · match k, hn with
      | 0, hn => omega
      | k + 1, hn =>
        obtain ⟨c, r, e1, e2, e3, e4⟩ := digL_val k (n / 10) (by rw [Nat.pow_succ] at hn; omega)
        obtain ⟨h1, h2⟩ := dig_of (Nat.mod_lt n (show 10 > 0 by decide))
        refine ⟨c, r ++ [UInt8.ofNat (48 + n % 10)], by rw [digL_ge h, e1]; rfl, ?_, ?_, fun e => ?_⟩
        · intro b hb
          rw [← List.cons_append, List.mem_append] at hb
          rcases hb with hb | hb
          · exact e2 b hb
          · rw [List.mem_singleton.1 hb]; exact h1
        · rw [← List.cons_append, valL_app, e3, h2]; omega
        · have := (e4 e).1; omega
theorem digL_back : ∀ (k : Nat) (a : Str), a ≠ [] → a.length ≤ k → (∀ b ∈ a, digB b = true) → lead a = false → digL k (valL a) = a
  | 0, a, h0, h1, _, _ => absurd (List.length_eq_zero_iff.1 (by omega)) h0
  | k + 1, a, h0, h1, hd, hl => by
    rcases List.eq_nil_or_concat a with rfl | ⟨a', b, rfl⟩
    · exact absurd rfl h0
    · rw [List.concat_eq_append] at *
      have hb : digB b = true := hd b (by simp)
      have hb' := hb
      simp only [digB, decide_eq_true_eq] at hb'
      cases a' with
      | nil =>
        have e : valL ([] ++ [b]) = b.toNat - 48 := by rw [valL_app]; show 10 * 0 + _ = _; omega
        rw [e, digL_lt (by omega), dig_back hb]; rfl
      | cons c r =>
        have hc : ¬ c.toNat = 48 := by
          intro e
          simp [lead, e] at hl
        have hv := valL_pos (r := r) (hd c (by simp)) hc
        have ih := digL_back k (c :: r) (by simp) (by simpa using h1) (fun x hx => hd x (List.mem_append_left _ hx)) (by simp [lead, hc])
        rw [valL_app, digL_ge (by omega), show (10 * valL (c :: r) + (b.toNat - 48)) / 10 = valL (c :: r) by omega, show (10 * valL (c :: r) + (b.toNat - 48)) % 10 = b.toNat - 48 by omega, ih, dig_back hb]
theorem num_there {n most : Int} (h0 : 0 ≤ n) (h1 : n ≤ most) (h2 : most ≤ 1099511627776) : numV (itoaL n) most = (n, true) ∧ ∀ b ∈ itoaL n, digB b = true := by
  rw [itoa_nn h0, digL_fuel 12 19 n.toNat (by omega) (by omega)]
  obtain ⟨c, r, e1, e2, e3, e4⟩ := digL_val 12 n.toNat (by omega)
  have hlen := digL_len 13 n.toNat
  rw [e1] at hlen ⊢
  have hl : lead (c :: r) = false := by
    simp only [lead]
    by_cases hc : c.toNat = 48
    · simp [(e4 hc).2]
    · simp [hc]
  have hg : goodN (c :: r) = true := by
    have := List.all_eq_true.2 e2
    simp only [List.length_cons] at hlen
    simp only [goodN, hl, this, List.length_cons, Bool.not_false, Bool.true_and, Bool.and_true, Bool.and_eq_true, decide_eq_true_eq, Bool.not_eq_true', decide_eq_false_iff_not]
    exact ⟨by simp, by omega⟩
  refine ⟨?_, e2⟩
  simp only [numV, hg, if_true, e3]
  rw [show ((n.toNat : Nat) : Int) = n by omega]
  simp [h1]
theorem num_back {a : Str} {most : Int} (h : (numV a most).2 = true) : itoaL (numV a most).1 = a ∧ 0 ≤ (numV a most).1 ∧ (numV a most).1 ≤ most := by
  unfold numV at h ⊢
  cases hg : goodN a with
  | false => rw [hg] at h; cases h
  | true =>
    rw [hg] at h
    simp only [if_true, decide_eq_true_eq] at h ⊢
    simp only [goodN, Bool.and_eq_true, decide_eq_true_eq, Bool.not_eq_true', decide_eq_false_iff_not] at hg
    refine ⟨?_, by omega, h⟩
    rw [itoa_nn (by omega), Int.toNat_natCast]
    exact digL_back 20 a hg.1 (by omega) (List.all_eq_true.1 hg.2.2.2) hg.2.2.1
/-! ### words -/
theorem words_ok : ((List.range 256).all fun k => (decide (wordOf (UInt8.ofNat k) = []) || decide (idxL wordsL (wordOf (UInt8.ofNat k)) = (k : Int))) && (wordOf (UInt8.ofNat k)).all fun b => !decide (b = 32) && !decide (b = 10)) = true := by kernel_rfl
theorem word_ok (w : UInt8) : (wordOf w ≠ [] → idxL wordsL (wordOf w) = (w.toNat : Int)) ∧ ∀ b ∈ wordOf w, b ≠ 32 ∧ b ≠ 10 := by
  have h := List.all_eq_true.1 words_ok w.toNat (List.mem_range.2 w.toNat_lt)
  rw [UInt8.ofNat_toNat] at h
  simp only [Bool.and_eq_true, Bool.or_eq_true, decide_eq_true_eq, List.all_eq_true, Bool.not_eq_true', decide_eq_false_iff_not] at h
  exact ⟨fun hn => h.1.resolve_left hn, h.2⟩
theorem words_ne : wordsL.all (fun x => !decide (x = [])) = true := by kernel_rfl
theorem idx_back {b : Str} (h : 0 ≤ idxL wordsL b) : wordOf (UInt8.ofNat (idxL wordsL b).toNat) = b ∧ b ≠ [] := by
  unfold idxL at h ⊢
  split at h
  · rename_i hlt
    rw [if_pos hlt, Int.toNat_natCast]
    have h17 : wordsL.length = 17 := by kernel_rfl
    have h1 := List.findIdx_getElem (xs := wordsL) (p := fun x => decide (b = x)) (w := hlt)
    simp only [decide_eq_true_eq] at h1
    have e : wordOf (UInt8.ofNat (wordsL.findIdx fun x => decide (b = x))) = b := by
      unfold wordOf
      rw [UInt8.toNat_ofNat', Nat.mod_eq_of_lt (by omega), List.getElem?_eq_getElem hlt, Option.getD_some]
      exact h1.symm
    refine ⟨e, fun hb => ?_⟩
    have := List.all_eq_true.1 words_ne _ (List.getElem_mem hlt)
    rw [← h1] at this
    simp [hb] at this
  · omega
/-! ### texts cut -/
theorem splitL_app (c : UInt8) : ∀ (x r : Str), (∀ b ∈ x, b ≠ c) → splitL c (x ++ c :: r) = x :: splitL c r
  | [], r, _ => by simp [splitL]
  | b :: x, r, h => by
    have hb : (b == c) = false := by simpa using h b (.head _)
    have ih := splitL_app c x r fun y hy => h y (.tail _ hy)
    simp only [List.cons_append, splitL, hb, cond_false, ih]
theorem splitL_one (c : UInt8) : ∀ (x : Str), (∀ b ∈ x, b ≠ c) → splitL c x = [x]
  | [], _ => rfl
  | b :: x, h => by
    have hb : (b == c) = false := by simpa using h b (.head _)
    have ih := splitL_one c x fun y hy => h y (.tail _ hy)
    simp only [splitL, hb, cond_false, ih]
theorem join_split (c : UInt8) : ∀ s : Str, joinL [c] (splitL c s) = s
  | [] => rfl
  | b :: s => by
    have ih := join_split c s
    have hne := splitL_ne c s
    unfold splitL
    cases hb : b == c with
    | true =>
      rw [eq_of_beq hb]
      cases hq : splitL c s with
      | nil => exact absurd hq hne
      | cons x r => rw [hq] at ih; simp [joinL, ih]
    | false =>
      cases hq : splitL c s with
      | nil => exact absurd hq hne
      | cons x r =>
        rw [hq] at ih
        cases r with
        | nil => simp [joinL] at ih ⊢; exact ih
        | cons y r => simp [joinL] at ih ⊢; exact ih
theorem cutL_app (c : UInt8) : ∀ (x r : Str), (∀ b ∈ x, b ≠ c) → cutL c (x ++ c :: r) = (x, r, true)
  | [], r, _ => by simp [cutL]
  | b :: x, r, h => by
    have hb : (b == c) = false := by simpa using h b (.head _)
    have ih := cutL_app c x r fun y hy => h y (.tail _ hy)
    simp only [List.cons_append, cutL, hb, cond_false, ih]
theorem cutL_t (c : UInt8) : ∀ s : Str, (cutL c s).2.2 = true → s = (cutL c s).1 ++ c :: (cutL c s).2.1 ∧ ∀ b ∈ (cutL c s).1, b ≠ c
  | [], h => by cases h
  | b :: s, h => by
    have ih := cutL_t c s
    unfold cutL at h ⊢
    cases hb : b == c with
    | true => rw [eq_of_beq hb]; simp
    | false =>
      rw [hb] at h
      simp only [cond_false] at h ⊢
      generalize cutL c s = q at h ih ⊢
      obtain ⟨x, y, z⟩ := q
      obtain ⟨h1, h2⟩ := ih h
      refine ⟨by rw [List.cons_append, ← h1], fun a ha => ?_⟩
      rcases List.mem_cons.1 ha with rfl | ha
      · simpa using hb
      · exact h2 a ha
theorem cutL_f (c : UInt8) : ∀ s : Str, (cutL c s).2.2 = false → ∀ b ∈ s, b ≠ c
  | [], _ => fun _ hb => by cases hb
  | b :: s, h => by
    have ih := cutL_f c s
    unfold cutL at h
    cases hb : b == c with
    | true => rw [hb] at h; cases h
    | false =>
      rw [hb] at h
      simp only [cond_false] at h
      generalize cutL c s = q at h ih
      obtain ⟨x, y, z⟩ := q
      intro a ha
      rcases List.mem_cons.1 ha with rfl | ha
      · simpa using hb
      · exact ih h a ha
end Go.AS.Tr

/-
  What is printed is parsed as it was, and the other way round: lines, and texts of lines. By an AI agent.
-/
namespace Go.AS.Tr
open Go Go.AS Go.Proofs
set_option maxHeartbeats 1000000
set_option maxRecDepth 4000
def jn (m : Mv) : Str := joinL [32] [itoaL m.who, wordOf m.what, itoaL m.node, itoaL m.ver, itoaL m.err]
theorem line_jn (m : Mv) : lineL m = jn m ++ [10] := rfl
theorem dig_ne {s : Str} (h : ∀ b ∈ s, digB b = true) : (∀ b ∈ s, b ≠ 32) ∧ ∀ b ∈ s, b ≠ 10 := by
  refine ⟨fun b hb e => ?_, fun b hb e => ?_⟩
  · have := h b hb; subst e; revert this; decide
  · have := h b hb; subst e; revert this; decide
structure Ok (m : Mv) : Prop where
  w : wordOf m.what ≠ []
  a : 0 ≤ m.who ∧ m.who ≤ 2147483647
  c : 0 ≤ m.node ∧ m.node ≤ 2147483647
  d : 0 ≤ m.ver ∧ m.ver ≤ 1099511627776
  e : 0 ≤ m.err ∧ m.err ≤ 2147483647
theorem okM_iff (m : Mv) : okM m = true ↔ Ok m := by
  simp only [okM, inB, Bool.and_eq_true, decide_eq_true_eq, Bool.not_eq_true', decide_eq_false_iff_not]
  exact ⟨fun ⟨h1, h2, h3, h4, h5⟩ => ⟨h1, h2, h3, h4, h5⟩, fun ⟨h1, h2, h3, h4, h5⟩ => ⟨h1, h2, h3, h4, h5⟩⟩
theorem jn_ok {m : Mv} (h : okM m = true) : moveV (jn m) = (m, true) ∧ ∀ b ∈ jn m, b ≠ 10 := by
  obtain ⟨hw, ha, hc, hd, he⟩ := (okM_iff m).1 h
  obtain ⟨a1, a2⟩ := num_there ha.1 ha.2 (by decide)
  obtain ⟨c1, c2⟩ := num_there hc.1 hc.2 (by decide)
  obtain ⟨d1, d2⟩ := num_there hd.1 hd.2 (by decide)
  obtain ⟨e1, e2⟩ := num_there he.1 he.2 (by decide)
  obtain ⟨w1, w2⟩ := word_ok m.what
  obtain ⟨a3, a4⟩ := dig_ne a2
  obtain ⟨c3, c4⟩ := dig_ne c2
  obtain ⟨d3, d4⟩ := dig_ne d2
  obtain ⟨e3, e4⟩ := dig_ne e2
  refine ⟨?_, ?_⟩
  · have hs : splitL 32 (jn m) = [itoaL m.who, wordOf m.what, itoaL m.node, itoaL m.ver, itoaL m.err] := by
      rw [jn, join5, splitL_app 32 _ _ a3, splitL_app 32 _ _ (fun b hb => (w2 b hb).1), splitL_app 32 _ _ c3, splitL_app 32 _ _ d3, splitL_one 32 _ e3]
    unfold moveV
    rw [hs]
    simp only [a1, c1, d1, e1, w1 hw, and_self, and_true]
    rw [if_pos (by omega), Int.toNat_natCast, UInt8.ofNat_toNat]
  · intro b hb
    rw [jn, join5] at hb
    simp only [List.mem_append, List.mem_cons] at hb
    rcases hb with hb | hb | hb | hb | hb | hb | hb | hb | hb
    · exact a4 b hb
    · subst hb; decide
    · exact (w2 b hb).2
    · subst hb; decide
    · exact c4 b hb
    · subst hb; decide
    · exact d4 b hb
    · subst hb; decide
    · exact e4 b hb
theorem move_back {s : Str} (h : (moveV s).2 = true) : okM (moveV s).1 = true ∧ jn (moveV s).1 = s := by
  have hj := join_split 32 s
  unfold moveV at h ⊢
  split at h
  · rename_i a b c d e heq
    rw [heq] at hj
    split at h
    · rename_i hh
      rw [if_pos hh]
      obtain ⟨h0, ha, hc, hd, he⟩ := hh
      obtain ⟨b1, b2⟩ := idx_back h0
      obtain ⟨a1, a2⟩ := num_back ha
      obtain ⟨c1, c2⟩ := num_back hc
      obtain ⟨d1, d2⟩ := num_back hd
      obtain ⟨e1, e2⟩ := num_back he
      refine ⟨(okM_iff _).2 ⟨by simpa [b1] using b2, a2, c2, d2, e2⟩, ?_⟩
      simp only [jn, a1, b1, c1, d1, e1]
      exact hj
    · cases h
  · cases h
theorem parse_print : ∀ (k : Nat) (l out : List Mv) (n : Nat), l.length ≤ k → (∀ m ∈ l, okM m = true) → parseP (k + 1) (printS l) n out = (out ++ l, 0, 0)
  | _, [], out, n, _, _ => by simp [parseP, printS]
  | 0, m :: l, _, _, h, _ => by simp at h
  | k + 1, m :: l, out, n, h, hm => by
    obtain ⟨h1, h2⟩ := jn_ok (hm m (.head _))
    have hc : cutL 10 (printS (m :: l)) = (jn m, printS l, true) := by
      have : printS (m :: l) = jn m ++ 10 :: printS l := by simp [printS, line_jn]
      rw [this, cutL_app 10 _ _ h2]
    have hne : printS (m :: l) ≠ [] := by simp [printS, line_jn]
    rw [parseP, if_neg hne, hc]
    simp only [h1]
    rw [if_neg (by decide), if_neg (by decide), parse_print k l _ _ (by simpa using h) fun x hx => hm x (.tail _ hx)]
    simp
theorem printS_ge (l : List Mv) : l.length ≤ (printS l).length := by
  induction l with
  | nil => exact Nat.le_refl _
  | cons m l ih => simp only [printS, line_jn, List.length_append, List.length_cons, List.length_nil]; omega
theorem parseV_print {l : List Mv} (h : ∀ m ∈ l, okM m = true) : parseV (printS l) = (l, 0, 0) := by
  unfold parseV
  rw [parse_print _ l [] 1 (printS_ge l) h]; rfl
/-- What is parsed: all of it; or where it is not a line. -/
theorem parse_back : ∀ (k : Nat) (s : Str) (out : List Mv) (n : Nat), s.length < k →
    (∃ l, parseP k s n out = (out ++ l, 0, 0) ∧ (∀ m ∈ l, okM m = true) ∧ printS l = s) ∨
    ∃ l t e, parseP k s n out = ([], n + l.length, e) ∧ (∀ m ∈ l, okM m = true) ∧ s = printS l ++ t ∧ t ≠ [] ∧ ((e = 5 ∧ ∀ b ∈ t, b ≠ 10) ∨ (e = 3 ∧ 10 ∈ t))
  | 0, s, _, _, h => by omega
  | k + 1, s, out, n, h => by
    by_cases b0 : s = []
    · subst b0
      exact .inl ⟨[], by simp [parseP], by simp, rfl⟩
    cases c1 : (cutL 10 s).2.2 with
    | false => exact .inr ⟨[], s, 5, by rw [parseP, if_neg b0, if_pos c1]; rfl, by simp, rfl, b0, .inl ⟨rfl, cutL_f 10 s c1⟩⟩
    | true =>
      obtain ⟨g1, g2⟩ := cutL_t 10 s c1
      have hl := cutL_len 10 s c1
      cases c2 : (moveV (cutL 10 s).1).2 with
      | false => exact .inr ⟨[], s, 3, by rw [parseP, if_neg b0, if_neg (by rw [c1]; decide), if_pos c2]; rfl, by simp, rfl, b0, .inr ⟨rfl, by rw [g1]; simp⟩⟩
      | true =>
        obtain ⟨m1, m2⟩ := move_back c2
        generalize hm : (moveV (cutL 10 s).1).1 = m at m1 m2
        have e1 : parseP (k + 1) s n out = parseP k (cutL 10 s).2.1 (n + 1) (out ++ [m]) := by
          rw [parseP, if_neg b0, if_neg (by rw [c1]; decide), if_neg (by rw [c2]; decide), hm]
        have e2 : s = lineL m ++ (cutL 10 s).2.1 := by rw [line_jn, m2, List.append_assoc]; exact g1
        rcases parse_back k (cutL 10 s).2.1 (out ++ [m]) (n + 1) (by omega) with ⟨l, h1, h2, h3⟩ | ⟨l, t, e, h1, h2, h3, h4, h5⟩
        · refine .inl ⟨m :: l, by rw [e1, h1]; simp, fun x hx => ?_, by rw [printS, h3]; exact e2.symm⟩
          rcases List.mem_cons.1 hx with rfl | hx
          · exact m1
          · exact h2 x hx
        · refine .inr ⟨m :: l, t, e, by rw [e1, h1]; simp only [List.length_cons]; rw [Nat.add_assoc, Nat.add_comm 1], fun x hx => ?_, by rw [printS, List.append_assoc, ← h3]; exact e2, h4, h5⟩
          rcases List.mem_cons.1 hx with rfl | hx
          · exact m1
          · exact h2 x hx
theorem live_is : CallpIs F 9 [] (.bool true) := Gives.isp ⟨400, l36_live_true⟩ rfl rfl
theorem prints_gives (nl : Bool) (l : List Mv) (hl : l.length ≤ 9223372036854775807) : Gives F 3 [sl nl l] (.bool true) := by
  refine Gives.of fn_l36_TracePrints rfl rfl (args' := [sl nl l]) (by simp only [mapO_nil, mapO_c2, consO_some, upf_v]) ?_
  simp only [ir_l36_TracePrints]
  have hfew := (few_gives nl l hl).isp (by simp only [hfrees, sl_free]; rfl) (sl_free _ _)
  obtain ⟨f, hf⟩ : ∃ f, f = l.take 60 := ⟨_, rfl⟩
  have hfl : f.length ≤ 60 := by rw [hf, List.length_take]; omega
  rw [← hf] at hfew
  have hlive := live_is
  by_cases hk : f.all okM = true
  · have he := List.all_eq_true.1 hk
    have e : printV f = .tuple [.str (printS f), .int .i64 0] := print_good he
    have h1 := print_gives nl f (by omega)
    have h2 := printR_gives nl f (by omega)
    rw [e] at h1 h2
    have h1 := h1.isp (by simp only [hfrees, sl_free]; rfl) rfl
    have h2 := h2.isp (by simp only [hfrees, sl_free]; rfl) rfl
    have hpl := printS_len he
    have hp := parse_gives (printS f) (by omega)
    rw [parseV_print he] at hp
    have hp : CallpIs F 10 [.str (printS f)] (.tuple [sl f.isEmpty f, .int .i64 0, .int .i64 0]) := hp.isp rfl (by simp [hfree, hfrees, sl_free])
    have hsame := (same_gives f.isEmpty nl f f (by omega) (by omega)).isp (by simp [hfrees, sl_free]) rfl
    have hd : decide (f = f) = true := by simp
    rw [hd] at hsame
    simp -failIfUnchanged (disch := first | assumption | omega | (refine room_i _ _ ?_ ?_ <;> omega) | (refine @_root_.id _ ?_; with_unfolding_all exact Eq.refl _) | (simp only [List.length_take, List.length_drop, List.length_append, List.length_cons, List.length_nil, List.length_replicate, List.length_map] <;> omega) | fail) only [rnL, opL, ruL, hpL, rsL, natL, outL, Nat.add_sub_cancel_left, Nat.mul_one, List.length_cons, List.length_nil, Nat.zero_add, Nat.add_zero, Nat.reduceAdd, Nat.reduceMul, Nat.reduceSub, Nat.reduceEqDiff, Nat.reduceLT, Nat.reduceLeDiff, litd_t, litd_f, decide_true, decide_false, Bool.not_true, Bool.not_false, not_true_eq_false, not_false_eq_true, true_and, and_true, false_and, and_false, true_or, or_true, false_or, or_false, Int.toNat_natCast, cond_true, cond_false, List.map_cons, List.map_nil, Option.map_some, Option.map_none, hfew, h1, h2, hp, hlive, hsame]
    (refine Fin_g (.inr rfl) (by simp -failIfUnchanged (disch := first | assumption | omega | (refine room_i _ _ ?_ ?_ <;> omega) | (refine @_root_.id _ ?_; with_unfolding_all exact Eq.refl _) | (simp only [List.length_take, List.length_drop, List.length_append, List.length_cons, List.length_nil, List.length_replicate, List.length_map] <;> omega) | fail) only [rnL, opL, ruL, hpL, rsL, natL, outL, Nat.add_sub_cancel_left, Nat.mul_one, List.length_cons, List.length_nil, Nat.zero_add, Nat.add_zero, Nat.reduceAdd, Nat.reduceMul, Nat.reduceSub, Nat.reduceEqDiff, Nat.reduceLT, Nat.reduceLeDiff, litd_t, litd_f, decide_true, decide_false, Bool.not_true, Bool.not_false, not_true_eq_false, not_false_eq_true, true_and, and_true, false_and, and_false, true_or, or_true, false_or, or_false, Int.toNat_natCast, cond_true, cond_false, List.map_cons, List.map_nil, Option.map_some, Option.map_none]; rfl) ?_; simp -failIfUnchanged (disch := first | assumption | omega | (refine room_i _ _ ?_ ?_ <;> omega) | (refine @_root_.id _ ?_; with_unfolding_all exact Eq.refl _) | (simp only [List.length_take, List.length_drop, List.length_append, List.length_cons, List.length_nil, List.length_replicate, List.length_map] <;> omega) | fail) only [rnL, opL, ruL, hpL, rsL, natL, outL, Nat.add_sub_cancel_left, Nat.mul_one, List.length_cons, List.length_nil, Nat.zero_add, Nat.add_zero, Nat.reduceAdd, Nat.reduceMul, Nat.reduceSub, Nat.reduceEqDiff, Nat.reduceLT, Nat.reduceLeDiff, litd_t, litd_f, decide_true, decide_false, Bool.not_true, Bool.not_false, not_true_eq_false, not_false_eq_true, true_and, and_true, false_and, and_false, true_or, or_true, false_or, or_false, Int.toNat_natCast, cond_true, cond_false, List.map_cons, List.map_nil, Option.map_some, Option.map_none])
  · have e : printV f = .tuple [.str [], .int .i64 3] := by simp only [printV, hk]; rfl
    have h1 := print_gives nl f (by omega)
    have h2 := printR_gives nl f (by omega)
    rw [e] at h1 h2
    have h1 := h1.isp (by simp only [hfrees, sl_free]; rfl) rfl
    have h2 := h2.isp (by simp only [hfrees, sl_free]; rfl) rfl
    simp -failIfUnchanged (disch := first | assumption | omega | (refine room_i _ _ ?_ ?_ <;> omega) | (refine @_root_.id _ ?_; with_unfolding_all exact Eq.refl _) | (simp only [List.length_take, List.length_drop, List.length_append, List.length_cons, List.length_nil, List.length_replicate, List.length_map] <;> omega) | fail) only [rnL, opL, ruL, hpL, rsL, natL, outL, Nat.add_sub_cancel_left, Nat.mul_one, List.length_cons, List.length_nil, Nat.zero_add, Nat.add_zero, Nat.reduceAdd, Nat.reduceMul, Nat.reduceSub, Nat.reduceEqDiff, Nat.reduceLT, Nat.reduceLeDiff, litd_t, litd_f, decide_true, decide_false, Bool.not_true, Bool.not_false, not_true_eq_false, not_false_eq_true, true_and, and_true, false_and, and_false, true_or, or_true, false_or, or_false, Int.toNat_natCast, cond_true, cond_false, List.map_cons, List.map_nil, Option.map_some, Option.map_none, hfew, h1, h2, hlive]
    (refine Fin_g (.inr rfl) (by simp -failIfUnchanged (disch := first | assumption | omega | (refine room_i _ _ ?_ ?_ <;> omega) | (refine @_root_.id _ ?_; with_unfolding_all exact Eq.refl _) | (simp only [List.length_take, List.length_drop, List.length_append, List.length_cons, List.length_nil, List.length_replicate, List.length_map] <;> omega) | fail) only [rnL, opL, ruL, hpL, rsL, natL, outL, Nat.add_sub_cancel_left, Nat.mul_one, List.length_cons, List.length_nil, Nat.zero_add, Nat.add_zero, Nat.reduceAdd, Nat.reduceMul, Nat.reduceSub, Nat.reduceEqDiff, Nat.reduceLT, Nat.reduceLeDiff, litd_t, litd_f, decide_true, decide_false, Bool.not_true, Bool.not_false, not_true_eq_false, not_false_eq_true, true_and, and_true, false_and, and_false, true_or, or_true, false_or, or_false, Int.toNat_natCast, cond_true, cond_false, List.map_cons, List.map_nil, Option.map_some, Option.map_none]; rfl) ?_; simp -failIfUnchanged (disch := first | assumption | omega | (refine room_i _ _ ?_ ?_ <;> omega) | (refine @_root_.id _ ?_; with_unfolding_all exact Eq.refl _) | (simp only [List.length_take, List.length_drop, List.length_append, List.length_cons, List.length_nil, List.length_replicate, List.length_map] <;> omega) | fail) only [rnL, opL, ruL, hpL, rsL, natL, outL, Nat.add_sub_cancel_left, Nat.mul_one, List.length_cons, List.length_nil, Nat.zero_add, Nat.add_zero, Nat.reduceAdd, Nat.reduceMul, Nat.reduceSub, Nat.reduceEqDiff, Nat.reduceLT, Nat.reduceLeDiff, litd_t, litd_f, decide_true, decide_false, Bool.not_true, Bool.not_false, not_true_eq_false, not_false_eq_true, true_and, and_true, false_and, and_false, true_or, or_true, false_or, or_false, Int.toNat_natCast, cond_true, cond_false, List.map_cons, List.map_nil, Option.map_some, Option.map_none])
end Go.AS.Tr

/-
  TraceForth: what is parsed is printed as that text. By an AI agent.
-/
namespace Go.AS.Tr
open Go Go.AS Go.Proofs
set_option maxHeartbeats 2000000
set_option maxRecDepth 4000
/-- The line that is reached behind so many bytes, and where it begins. -/
def lnA (p : Str) : Nat → Nat
  | 0 => 1
  | i + 1 => if p[i]? = some 10 then lnA p i + 1 else lnA p i
def lnF (p : Str) : Nat → Nat
  | 0 => 0
  | i + 1 => if p[i]? = some 10 then i + 1 else lnF p i
theorem lnF_le (p : Str) : ∀ i, lnF p i ≤ i
  | 0 => Nat.le_refl _
  | i + 1 => by
    have := lnF_le p i
    unfold lnF
    split <;> omega
theorem lnA_le (p : Str) : ∀ i, lnA p i ≤ i + 1
  | 0 => Nat.le_refl _
  | i + 1 => by
    have := lnA_le p i
    unfold lnA
    split <;> omega
theorem lnA_app (p t : Str) : ∀ i, i ≤ p.length → lnA (p ++ t) i = lnA p i
  | 0, _ => rfl
  | i + 1, h => by
    have := lnA_app p t i (by omega)
    unfold lnA
    rw [List.getElem?_append_left (by omega), this]
theorem lnF_app (p t : Str) : ∀ i, i ≤ p.length → lnF (p ++ t) i = lnF p i
  | 0, _ => rfl
  | i + 1, h => by
    have := lnF_app p t i (by omega)
    unfold lnF
    rw [List.getElem?_append_left (by omega), this]
theorem lnA_run (x y : Str) (h : ∀ b ∈ x, b ≠ 10) : ∀ (j : Nat) (a : Str), j ≤ x.length → lnA (a ++ (x ++ y)) (a.length + j) = lnA (a ++ (x ++ y)) a.length
  | 0, a, _ => rfl
  | j + 1, a, hj => by
    have ih := lnA_run x y h j a (by omega)
    rw [show a.length + (j + 1) = (a.length + j) + 1 from rfl, lnA, if_neg ?_, ih]
    rw [List.getElem?_append_right (by omega), Nat.add_sub_cancel_left, List.getElem?_append_left (by omega), List.getElem?_eq_getElem (by omega)]
    intro e
    exact h _ (List.getElem_mem _) (Option.some.inj e)
/-- Lines that are printed: so many ends, the last one at the end; ahead of it fewer. -/
theorem lnA_print : ∀ (l : List Mv), (∀ m ∈ l, okM m = true) → ∀ (a t : Str) (_ : True), lnA (a ++ (printS l ++ t)) (a.length + (printS l).length) = lnA (a ++ (printS l ++ t)) a.length + l.length ∧
    (∀ i, i < (printS l).length → lnA (a ++ (printS l ++ t)) (a.length + i) < lnA (a ++ (printS l ++ t)) a.length + l.length) ∧ (l ≠ [] → lnF (a ++ (printS l ++ t)) (a.length + (printS l).length) = a.length + (printS l).length)
  | [], _, a, t, _ => ⟨rfl, fun i h => by simp [printS] at h, fun h => absurd rfl h⟩
  | m :: l, hm, a, t, _ => by
    obtain ⟨_, hj⟩ := jn_ok (hm m (.head _))
    have e0 : a ++ (printS (m :: l) ++ t) = a ++ (jn m ++ (10 :: (printS l ++ t))) := by simp [printS, line_jn]
    have e1 : a ++ (printS (m :: l) ++ t) = (a ++ (jn m ++ [10])) ++ (printS l ++ t) := by simp [printS, line_jn]
    have hlen : (printS (m :: l)).length = (jn m).length + 1 + (printS l).length := by simp only [printS, line_jn, List.length_append, List.length_cons, List.length_nil]
    have hal : (a ++ (jn m ++ [10])).length = a.length + (jn m).length + 1 := by simp only [List.length_append, List.length_cons, List.length_nil]; omega
    obtain ⟨i1, i2, i3⟩ := lnA_print l (fun x hx => hm x (.tail _ hx)) (a ++ (jn m ++ [10])) t trivial
    rw [← e1, hal] at i1 i2 i3
    have g10 : (a ++ (printS (m :: l) ++ t))[a.length + (jn m).length]? = some 10 := by
      rw [e0, List.getElem?_append_right (by omega), Nat.add_sub_cancel_left, List.getElem?_append_right (Nat.le_refl _), Nat.sub_self]; rfl
    have r1 : ∀ j, j ≤ (jn m).length → lnA (a ++ (printS (m :: l) ++ t)) (a.length + j) = lnA (a ++ (printS (m :: l) ++ t)) a.length := fun j hj' => by rw [e0]; exact lnA_run _ _ hj j a hj'
    have r2 : lnA (a ++ (printS (m :: l) ++ t)) (a.length + (jn m).length + 1) = lnA (a ++ (printS (m :: l) ++ t)) a.length + 1 := by
      rw [lnA, if_pos g10, r1 _ (Nat.le_refl _)]
    have f2 : lnF (a ++ (printS (m :: l) ++ t)) (a.length + (jn m).length + 1) = a.length + (jn m).length + 1 := by
      rw [lnF, if_pos g10]
    rw [r2] at i1 i2
    refine ⟨?_, fun i hi => ?_, fun _ => ?_⟩
    · rw [hlen, show a.length + ((jn m).length + 1 + (printS l).length) = a.length + (jn m).length + 1 + (printS l).length by omega, i1, List.length_cons]; omega
    · rw [List.length_cons]
      rcases Nat.lt_or_ge (jn m).length i with h | h
      · have := i2 (i - ((jn m).length + 1)) (by omega)
        rw [show a.length + (jn m).length + 1 + (i - ((jn m).length + 1)) = a.length + i by omega] at this
        omega
      · rw [r1 i h]; omega
    · rw [hlen, show a.length + ((jn m).length + 1 + (printS l).length) = a.length + (jn m).length + 1 + (printS l).length by omega]
      cases l with
      | nil => simpa [printS] using f2
      | cons x l => exact i3 (by simp)
def noN (t : Str) (j : Nat) : Bool := (t.take j).all fun b => decide (¬ ((b.toNat : Nat) : Int) = 10)
theorem noN_succ (t : Str) (j : Nat) (h : j < t.length) : noN t (j + 1) = (noN t j && decide (¬ ((t[j].toNat : Nat) : Int) = 10)) := by
  unfold noN
  rw [take_snoc t j h, List.all_append]; simp
theorem noN_all {t : Str} (h : ∀ b ∈ t, b ≠ 10) : noN t t.length = true := by
  unfold noN
  rw [List.take_length, List.all_eq_true]
  intro b hb
  rw [decide_eq_true_eq]
  intro e
  exact h b hb (UInt8.toNat_inj.1 (by rw [show b.toNat = 10 by omega]; rfl))
theorem noN_mem {t : Str} (h : (10 : UInt8) ∈ t) : noN t t.length = false := by
  unfold noN
  rw [List.take_length]
  cases hh : t.all fun b => decide (¬ ((b.toNat : Nat) : Int) = 10) with
  | false => rfl
  | true =>
    have := List.all_eq_true.1 hh 10 h
    exact absurd this (by decide)
theorem forth_gives (s : Str) (hl : s.length ≤ 9223372036854775807) : Gives F 4 [.str s] (.bool true) := by
  refine Gives.of fn_l36_TraceForth rfl rfl (args' := [.str s]) (by simp only [mapO_nil, mapO_c2, consO_some, upf_v]) ?_
  simp only [ir_l36_TraceForth]
  have hlive := live_is
  by_cases h2 : (s.length : Int) > 2000
  · simp -failIfUnchanged (disch := first | assumption | omega | (refine room_i _ _ ?_ ?_ <;> omega) | (refine @_root_.id _ ?_; with_unfolding_all exact Eq.refl _) | (simp only [List.length_take, List.length_drop, List.length_append, List.length_cons, List.length_nil, List.length_replicate, List.length_map] <;> omega) | fail) only [rnL, opL, ruL, hpL, rsL, natL, outL, Nat.add_sub_cancel_left, Nat.mul_one, List.length_cons, List.length_nil, Nat.zero_add, Nat.add_zero, Nat.reduceAdd, Nat.reduceMul, Nat.reduceSub, Nat.reduceEqDiff, Nat.reduceLT, Nat.reduceLeDiff, litd_t, litd_f, decide_true, decide_false, Bool.not_true, Bool.not_false, not_true_eq_false, not_false_eq_true, true_and, and_true, false_and, and_false, true_or, or_true, false_or, or_false, Int.toNat_natCast, cond_true, cond_false, List.map_cons, List.map_nil, Option.map_some, Option.map_none, hlive]
    (refine Fin_g (.inr rfl) (by simp -failIfUnchanged (disch := first | assumption | omega | (refine room_i _ _ ?_ ?_ <;> omega) | (refine @_root_.id _ ?_; with_unfolding_all exact Eq.refl _) | (simp only [List.length_take, List.length_drop, List.length_append, List.length_cons, List.length_nil, List.length_replicate, List.length_map] <;> omega) | fail) only [rnL, opL, ruL, hpL, rsL, natL, outL, Nat.add_sub_cancel_left, Nat.mul_one, List.length_cons, List.length_nil, Nat.zero_add, Nat.add_zero, Nat.reduceAdd, Nat.reduceMul, Nat.reduceSub, Nat.reduceEqDiff, Nat.reduceLT, Nat.reduceLeDiff, litd_t, litd_f, decide_true, decide_false, Bool.not_true, Bool.not_false, not_true_eq_false, not_false_eq_true, true_and, and_true, false_and, and_false, true_or, or_true, false_or, or_false, Int.toNat_natCast, cond_true, cond_false, List.map_cons, List.map_nil, Option.map_some, Option.map_none]; rfl) ?_; simp -failIfUnchanged (disch := first | assumption | omega | (refine room_i _ _ ?_ ?_ <;> omega) | (refine @_root_.id _ ?_; with_unfolding_all exact Eq.refl _) | (simp only [List.length_take, List.length_drop, List.length_append, List.length_cons, List.length_nil, List.length_replicate, List.length_map] <;> omega) | fail) only [rnL, opL, ruL, hpL, rsL, natL, outL, Nat.add_sub_cancel_left, Nat.mul_one, List.length_cons, List.length_nil, Nat.zero_add, Nat.add_zero, Nat.reduceAdd, Nat.reduceMul, Nat.reduceSub, Nat.reduceEqDiff, Nat.reduceLT, Nat.reduceLeDiff, litd_t, litd_f, decide_true, decide_false, Bool.not_true, Bool.not_false, not_true_eq_false, not_false_eq_true, true_and, and_true, false_and, and_false, true_or, or_true, false_or, or_false, Int.toNat_natCast, cond_true, cond_false, List.map_cons, List.map_nil, Option.map_some, Option.map_none])
  have hs : s.length ≤ 2000 := by omega
  have hp := parse_gives s (by omega)
  rcases parse_back (s.length + 1) s [] 1 (Nat.lt_succ_self _) with ⟨l, h1, hok, hpr⟩ | ⟨l, t, e, h1, hok, hst, ht, hcase⟩
  · have hv : parseV s = (l, 0, 0) := by unfold parseV; rw [h1]; rfl
    rw [hv] at hp
    have hp : CallpIs F 10 [.str s] (.tuple [sl l.isEmpty l, .int .i64 0, .int .i64 0]) := hp.isp rfl (by simp [hfree, hfrees, sl_free])
    have hll := printS_ge l
    rw [hpr] at hll
    have hpt := print_gives l.isEmpty l (by omega)
    rw [print_good hok, hpr] at hpt
    have hpt := hpt.isp (by simp only [hfrees, sl_free]; rfl) rfl
    simp -failIfUnchanged (disch := first | assumption | omega | (refine room_i _ _ ?_ ?_ <;> omega) | (refine @_root_.id _ ?_; with_unfolding_all exact Eq.refl _) | (simp only [List.length_take, List.length_drop, List.length_append, List.length_cons, List.length_nil, List.length_replicate, List.length_map] <;> omega) | fail) only [rnL, opL, ruL, hpL, rsL, natL, outL, Nat.add_sub_cancel_left, Nat.mul_one, List.length_cons, List.length_nil, Nat.zero_add, Nat.add_zero, Nat.reduceAdd, Nat.reduceMul, Nat.reduceSub, Nat.reduceEqDiff, Nat.reduceLT, Nat.reduceLeDiff, litd_t, litd_f, decide_true, decide_false, Bool.not_true, Bool.not_false, not_true_eq_false, not_false_eq_true, true_and, and_true, false_and, and_false, true_or, or_true, false_or, or_false, Int.toNat_natCast, cond_true, cond_false, List.map_cons, List.map_nil, Option.map_some, Option.map_none, hp, hpt, hlive]
    (refine Fin_g (.inr rfl) (by simp -failIfUnchanged (disch := first | assumption | omega | (refine room_i _ _ ?_ ?_ <;> omega) | (refine @_root_.id _ ?_; with_unfolding_all exact Eq.refl _) | (simp only [List.length_take, List.length_drop, List.length_append, List.length_cons, List.length_nil, List.length_replicate, List.length_map] <;> omega) | fail) only [rnL, opL, ruL, hpL, rsL, natL, outL, Nat.add_sub_cancel_left, Nat.mul_one, List.length_cons, List.length_nil, Nat.zero_add, Nat.add_zero, Nat.reduceAdd, Nat.reduceMul, Nat.reduceSub, Nat.reduceEqDiff, Nat.reduceLT, Nat.reduceLeDiff, litd_t, litd_f, decide_true, decide_false, Bool.not_true, Bool.not_false, not_true_eq_false, not_false_eq_true, true_and, and_true, false_and, and_false, true_or, or_true, false_or, or_false, Int.toNat_natCast, cond_true, cond_false, List.map_cons, List.map_nil, Option.map_some, Option.map_none]; rfl) ?_; simp -failIfUnchanged (disch := first | assumption | omega | (refine room_i _ _ ?_ ?_ <;> omega) | (refine @_root_.id _ ?_; with_unfolding_all exact Eq.refl _) | (simp only [List.length_take, List.length_drop, List.length_append, List.length_cons, List.length_nil, List.length_replicate, List.length_map] <;> omega) | fail) only [rnL, opL, ruL, hpL, rsL, natL, outL, Nat.add_sub_cancel_left, Nat.mul_one, List.length_cons, List.length_nil, Nat.zero_add, Nat.add_zero, Nat.reduceAdd, Nat.reduceMul, Nat.reduceSub, Nat.reduceEqDiff, Nat.reduceLT, Nat.reduceLeDiff, litd_t, litd_f, decide_true, decide_false, Bool.not_true, Bool.not_false, not_true_eq_false, not_false_eq_true, true_and, and_true, false_and, and_false, true_or, or_true, false_or, or_false, Int.toNat_natCast, cond_true, cond_false, List.map_cons, List.map_nil, Option.map_some, Option.map_none])
  · have hv : parseV s = ([], 1 + l.length, e) := h1
    rw [hv] at hp
    have hp : CallpIs F 10 [.str s] (.tuple [sl true ([] : List Mv), .int .i64 (1 + l.length : Nat), .int .i64 (e : Nat)]) := hp.isp rfl (by simp [hfree, hfrees, sl_free])
    obtain ⟨p, hpp⟩ : ∃ p, p = printS l := ⟨_, rfl⟩
    have hpl := printS_ge l
    obtain ⟨i1, i2, i3⟩ := lnA_print l hok [] t trivial
    simp only [List.nil_append, List.length_nil, Nat.zero_add] at i1 i2 i3
    rw [← hst, ← hpp] at i1 i2 i3
    rw [← hpp] at hst hpl
    have hsl : s.length = p.length + t.length := by rw [hst, List.length_append]
    have htl : 0 < t.length := List.length_pos_iff.2 ht
    have i0 : lnA s 0 = 1 := rfl
    rw [i0] at i1 i2
    have hF : lnF s p.length = p.length := by
      by_cases hl0 : l = []
      · subst hl0
        have : p = [] := hpp
        subst this; rfl
      · exact i3 hl0
    have hq := parse_gives p (by omega)
    have hvp : parseV p = (l, 0, 0) := by rw [hpp]; exact parseV_print hok
    rw [hvp] at hq
    have hq : CallpIs F 10 [.str p] (.tuple [sl l.isEmpty l, .int .i64 0, .int .i64 0]) := hq.isp rfl (by simp [hfree, hfrees, sl_free])
    have hpt := print_gives l.isEmpty l (by omega)
    rw [print_good hok, ← hpp] at hpt
    have hpt := hpt.isp (by simp only [hfrees, sl_free]; rfl) rfl
    have hne : ¬ ((e : Nat) : Int) = 0 := by rcases hcase with h | h <;> omega
    simp -failIfUnchanged (disch := first | assumption | omega | (refine room_i _ _ ?_ ?_ <;> omega) | (refine @_root_.id _ ?_; with_unfolding_all exact Eq.refl _) | (simp only [List.length_take, List.length_drop, List.length_append, List.length_cons, List.length_nil, List.length_replicate, List.length_map] <;> omega) | fail) only [rnL, opL, ruL, hpL, rsL, natL, outL, Nat.add_sub_cancel_left, Nat.mul_one, List.length_cons, List.length_nil, Nat.zero_add, Nat.add_zero, Nat.reduceAdd, Nat.reduceMul, Nat.reduceSub, Nat.reduceEqDiff, Nat.reduceLT, Nat.reduceLeDiff, litd_t, litd_f, decide_true, decide_false, Bool.not_true, Bool.not_false, not_true_eq_false, not_false_eq_true, true_and, and_true, false_and, and_false, true_or, or_true, false_or, or_false, Int.toNat_natCast, cond_true, cond_false, List.map_cons, List.map_nil, Option.map_some, Option.map_none, hp, hlive]
    refine Run_upto p.length (fun i => [(0, .str s), (2, .bool false), (3, sl true ([] : List Mv)), (4, .int .i64 (1 + l.length : Nat)), (5, .int .i64 (e : Nat)), (8, .int .i64 (lnA s i : Nat)), (9, .int .i64 (lnF s i : Nat)), (10, .int .i64 (i : Nat)), (20, .bool false), (29, .bool false)]) (fun _ => [[]]) (fun _ => True) rfl rfl trivial ?_
    intro i hi _
    have hi2 : i < s.length := by omega
    by_cases hlt : i < p.length
    · have q1 := i2 i hlt
      have q2 := lnA_le s i
      have q3 := lnF_le s i
      have q4 : s[i]? = some s[i] := List.getElem?_eq_getElem hi2
      simp -failIfUnchanged (disch := first | assumption | omega | (refine room_i _ _ ?_ ?_ <;> omega) | (refine @_root_.id _ ?_; with_unfolding_all exact Eq.refl _) | (simp only [List.length_take, List.length_drop, List.length_append, List.length_cons, List.length_nil, List.length_replicate, List.length_map] <;> omega) | fail) only [rnL, opL, ruL, hpL, rsL, natL, outL, Nat.add_sub_cancel_left, Nat.mul_one, List.length_cons, List.length_nil, Nat.zero_add, Nat.add_zero, Nat.reduceAdd, Nat.reduceMul, Nat.reduceSub, Nat.reduceEqDiff, Nat.reduceLT, Nat.reduceLeDiff, litd_t, litd_f, decide_true, decide_false, Bool.not_true, Bool.not_false, not_true_eq_false, not_false_eq_true, true_and, and_true, false_and, and_false, true_or, or_true, false_or, or_false, Int.toNat_natCast, cond_true, cond_false, List.map_cons, List.map_nil, Option.map_some, Option.map_none]
      (first | refine RunB_i (fun g => ?_) (fun g => ?_) | refine RunG_i (fun g => ?_) (fun g => ?_) | refine RunB_ib (fun g => ?_) (fun g => ?_))
      · have g2 : s[i]? = some 10 := by rw [q4]; exact congrArg some (UInt8.toNat_inj.1 (by rw [show s[i].toNat = 10 by omega]; rfl))
        simp -failIfUnchanged (disch := first | assumption | omega | (refine room_i _ _ ?_ ?_ <;> omega) | (refine @_root_.id _ ?_; with_unfolding_all exact Eq.refl _) | (simp only [List.length_take, List.length_drop, List.length_append, List.length_cons, List.length_nil, List.length_replicate, List.length_map] <;> omega) | fail) only [rnL, opL, ruL, hpL, rsL, natL, outL, Nat.add_sub_cancel_left, Nat.mul_one, List.length_cons, List.length_nil, Nat.zero_add, Nat.add_zero, Nat.reduceAdd, Nat.reduceMul, Nat.reduceSub, Nat.reduceEqDiff, Nat.reduceLT, Nat.reduceLeDiff, litd_t, litd_f, decide_true, decide_false, Bool.not_true, Bool.not_false, not_true_eq_false, not_false_eq_true, true_and, and_true, false_and, and_false, true_or, or_true, false_or, or_false, Int.toNat_natCast, cond_true, cond_false, List.map_cons, List.map_nil, Option.map_some, Option.map_none]
        refine .i hlt ?_ (by first | exact trivial | rfl) trivial
        simp only [lnA, lnF, g2, if_true]
      · have g2 : ¬ s[i]? = some 10 := by
          rw [q4]; intro h
          rw [Option.some.inj h] at g
          exact g rfl
        simp -failIfUnchanged (disch := first | assumption | omega | (refine room_i _ _ ?_ ?_ <;> omega) | (refine @_root_.id _ ?_; with_unfolding_all exact Eq.refl _) | (simp only [List.length_take, List.length_drop, List.length_append, List.length_cons, List.length_nil, List.length_replicate, List.length_map] <;> omega) | fail) only [rnL, opL, ruL, hpL, rsL, natL, outL, Nat.add_sub_cancel_left, Nat.mul_one, List.length_cons, List.length_nil, Nat.zero_add, Nat.add_zero, Nat.reduceAdd, Nat.reduceMul, Nat.reduceSub, Nat.reduceEqDiff, Nat.reduceLT, Nat.reduceLeDiff, litd_t, litd_f, decide_true, decide_false, Bool.not_true, Bool.not_false, not_true_eq_false, not_false_eq_true, true_and, and_true, false_and, and_false, true_or, or_true, false_or, or_false, Int.toNat_natCast, cond_true, cond_false, List.map_cons, List.map_nil, Option.map_some, Option.map_none]
        refine .i hlt ?_ (by first | exact trivial | rfl) trivial
        simp only [lnA, lnF, g2, if_false]
    · have : i = p.length := by omega
      subst this
      have hT : s.take (lnF s p.length) = p := by rw [hF, hst, List.take_left]
      have hT2 : s.take p.length = p := by rw [hst, List.take_left]
      simp -failIfUnchanged (disch := first | assumption | omega | (refine room_i _ _ ?_ ?_ <;> omega) | (refine @_root_.id _ ?_; with_unfolding_all exact Eq.refl _) | (simp only [List.length_take, List.length_drop, List.length_append, List.length_cons, List.length_nil, List.length_replicate, List.length_map] <;> omega) | fail) only [rnL, opL, ruL, hpL, rsL, natL, outL, Nat.add_sub_cancel_left, Nat.mul_one, List.length_cons, List.length_nil, Nat.zero_add, Nat.add_zero, Nat.reduceAdd, Nat.reduceMul, Nat.reduceSub, Nat.reduceEqDiff, Nat.reduceLT, Nat.reduceLeDiff, litd_t, litd_f, decide_true, decide_false, Bool.not_true, Bool.not_false, not_true_eq_false, not_false_eq_true, true_and, and_true, false_and, and_false, true_or, or_true, false_or, or_false, Int.toNat_natCast, cond_true, cond_false, List.map_cons, List.map_nil, Option.map_some, Option.map_none, hT2, hq, hpt, i1, hF]
      refine Run_upto t.length (fun j => [(0, .str s), (2, .bool false), (3, sl true ([] : List Mv)), (4, .int .i64 (1 + l.length : Nat)), (5, .int .i64 (e : Nat)), (8, .int .i64 (1 + l.length : Nat)), (9, .int .i64 (p.length : Nat)), (10, .int .i64 (p.length : Nat)), (11, sl l.isEmpty l), (12, .int .i64 0), (13, .int .i64 0), (14, .str p), (15, .int .i64 0), (16, .bool (noN t j)), (17, .int .i64 (p.length + j : Nat)), (20, .bool false), (29, .bool false)]) (fun _ => [[]]) (fun _ => True) ?_ rfl trivial ?_
      · rfl
      intro j hj _
      by_cases hlj : j < t.length
      · have hj2 : p.length + j < s.length := by omega
        have q5 : s[p.length + j] = t[j] := by
          have : s[p.length + j]? = t[j]? := by rw [hst, List.getElem?_append_right (by omega), Nat.add_sub_cancel_left]
          rw [List.getElem?_eq_getElem hj2, List.getElem?_eq_getElem hlj] at this
          exact Option.some.inj this
        have q6 := noN_succ t j hlj
        cases hP : noN t j with
        | true =>
          rw [hP] at q6
          simp -failIfUnchanged (disch := first | assumption | omega | (refine room_i _ _ ?_ ?_ <;> omega) | (refine @_root_.id _ ?_; with_unfolding_all exact Eq.refl _) | (simp only [List.length_take, List.length_drop, List.length_append, List.length_cons, List.length_nil, List.length_replicate, List.length_map] <;> omega) | fail) only [rnL, opL, ruL, hpL, rsL, natL, outL, Nat.add_sub_cancel_left, Nat.mul_one, List.length_cons, List.length_nil, Nat.zero_add, Nat.add_zero, Nat.reduceAdd, Nat.reduceMul, Nat.reduceSub, Nat.reduceEqDiff, Nat.reduceLT, Nat.reduceLeDiff, litd_t, litd_f, decide_true, decide_false, Bool.not_true, Bool.not_false, not_true_eq_false, not_false_eq_true, true_and, and_true, false_and, and_false, true_or, or_true, false_or, or_false, Int.toNat_natCast, cond_true, cond_false, List.map_cons, List.map_nil, Option.map_some, Option.map_none, hP]
          refine .i hlj ?_ (by first | exact trivial | rfl) trivial
          rw [q6, q5, Nat.add_assoc, Bool.true_and]
        | false =>
          rw [hP] at q6
          simp -failIfUnchanged (disch := first | assumption | omega | (refine room_i _ _ ?_ ?_ <;> omega) | (refine @_root_.id _ ?_; with_unfolding_all exact Eq.refl _) | (simp only [List.length_take, List.length_drop, List.length_append, List.length_cons, List.length_nil, List.length_replicate, List.length_map] <;> omega) | fail) only [rnL, opL, ruL, hpL, rsL, natL, outL, Nat.add_sub_cancel_left, Nat.mul_one, List.length_cons, List.length_nil, Nat.zero_add, Nat.add_zero, Nat.reduceAdd, Nat.reduceMul, Nat.reduceSub, Nat.reduceEqDiff, Nat.reduceLT, Nat.reduceLeDiff, litd_t, litd_f, decide_true, decide_false, Bool.not_true, Bool.not_false, not_true_eq_false, not_false_eq_true, true_and, and_true, false_and, and_false, true_or, or_true, false_or, or_false, Int.toNat_natCast, cond_true, cond_false, List.map_cons, List.map_nil, Option.map_some, Option.map_none, hP]
          refine .i hlj ?_ (by first | exact trivial | rfl) trivial
          rw [q6, Nat.add_assoc]; rfl
      · have : j = t.length := by omega
        subst this
        rcases hcase with ⟨he, hP⟩ | ⟨he, hP⟩
        · have he5 : ((e : Nat) : Int) = 5 := by omega
          have hP := noN_all hP
          simp -failIfUnchanged (disch := first | assumption | omega | (refine room_i _ _ ?_ ?_ <;> omega) | (refine @_root_.id _ ?_; with_unfolding_all exact Eq.refl _) | (simp only [List.length_take, List.length_drop, List.length_append, List.length_cons, List.length_nil, List.length_replicate, List.length_map] <;> omega) | fail) only [rnL, opL, ruL, hpL, rsL, natL, outL, Nat.add_sub_cancel_left, Nat.mul_one, List.length_cons, List.length_nil, Nat.zero_add, Nat.add_zero, Nat.reduceAdd, Nat.reduceMul, Nat.reduceSub, Nat.reduceEqDiff, Nat.reduceLT, Nat.reduceLeDiff, litd_t, litd_f, decide_true, decide_false, Bool.not_true, Bool.not_false, not_true_eq_false, not_false_eq_true, true_and, and_true, false_and, and_false, true_or, or_true, false_or, or_false, Int.toNat_natCast, cond_true, cond_false, List.map_cons, List.map_nil, Option.map_some, Option.map_none, hlive, hT2, hP, eq_self]
          (refine Fin_g (.inr rfl) (by simp -failIfUnchanged (disch := first | assumption | omega | (refine room_i _ _ ?_ ?_ <;> omega) | (refine @_root_.id _ ?_; with_unfolding_all exact Eq.refl _) | (simp only [List.length_take, List.length_drop, List.length_append, List.length_cons, List.length_nil, List.length_replicate, List.length_map] <;> omega) | fail) only [rnL, opL, ruL, hpL, rsL, natL, outL, Nat.add_sub_cancel_left, Nat.mul_one, List.length_cons, List.length_nil, Nat.zero_add, Nat.add_zero, Nat.reduceAdd, Nat.reduceMul, Nat.reduceSub, Nat.reduceEqDiff, Nat.reduceLT, Nat.reduceLeDiff, litd_t, litd_f, decide_true, decide_false, Bool.not_true, Bool.not_false, not_true_eq_false, not_false_eq_true, true_and, and_true, false_and, and_false, true_or, or_true, false_or, or_false, Int.toNat_natCast, cond_true, cond_false, List.map_cons, List.map_nil, Option.map_some, Option.map_none]; rfl) ?_; simp -failIfUnchanged (disch := first | assumption | omega | (refine room_i _ _ ?_ ?_ <;> omega) | (refine @_root_.id _ ?_; with_unfolding_all exact Eq.refl _) | (simp only [List.length_take, List.length_drop, List.length_append, List.length_cons, List.length_nil, List.length_replicate, List.length_map] <;> omega) | fail) only [rnL, opL, ruL, hpL, rsL, natL, outL, Nat.add_sub_cancel_left, Nat.mul_one, List.length_cons, List.length_nil, Nat.zero_add, Nat.add_zero, Nat.reduceAdd, Nat.reduceMul, Nat.reduceSub, Nat.reduceEqDiff, Nat.reduceLT, Nat.reduceLeDiff, litd_t, litd_f, decide_true, decide_false, Bool.not_true, Bool.not_false, not_true_eq_false, not_false_eq_true, true_and, and_true, false_and, and_false, true_or, or_true, false_or, or_false, Int.toNat_natCast, cond_true, cond_false, List.map_cons, List.map_nil, Option.map_some, Option.map_none])
        · have he5 : ¬ ((e : Nat) : Int) = 5 := by omega
          have he3 : ((e : Nat) : Int) = 3 := by omega
          have hP := noN_mem hP
          simp -failIfUnchanged (disch := first | assumption | omega | (refine room_i _ _ ?_ ?_ <;> omega) | (refine @_root_.id _ ?_; with_unfolding_all exact Eq.refl _) | (simp only [List.length_take, List.length_drop, List.length_append, List.length_cons, List.length_nil, List.length_replicate, List.length_map] <;> omega) | fail) only [rnL, opL, ruL, hpL, rsL, natL, outL, Nat.add_sub_cancel_left, Nat.mul_one, List.length_cons, List.length_nil, Nat.zero_add, Nat.add_zero, Nat.reduceAdd, Nat.reduceMul, Nat.reduceSub, Nat.reduceEqDiff, Nat.reduceLT, Nat.reduceLeDiff, litd_t, litd_f, decide_true, decide_false, Bool.not_true, Bool.not_false, not_true_eq_false, not_false_eq_true, true_and, and_true, false_and, and_false, true_or, or_true, false_or, or_false, Int.toNat_natCast, cond_true, cond_false, List.map_cons, List.map_nil, Option.map_some, Option.map_none, hlive, hT2, hP, eq_self]
          (refine Fin_g (.inr rfl) (by simp -failIfUnchanged (disch := first | assumption | omega | (refine room_i _ _ ?_ ?_ <;> omega) | (refine @_root_.id _ ?_; with_unfolding_all exact Eq.refl _) | (simp only [List.length_take, List.length_drop, List.length_append, List.length_cons, List.length_nil, List.length_replicate, List.length_map] <;> omega) | fail) only [rnL, opL, ruL, hpL, rsL, natL, outL, Nat.add_sub_cancel_left, Nat.mul_one, List.length_cons, List.length_nil, Nat.zero_add, Nat.add_zero, Nat.reduceAdd, Nat.reduceMul, Nat.reduceSub, Nat.reduceEqDiff, Nat.reduceLT, Nat.reduceLeDiff, litd_t, litd_f, decide_true, decide_false, Bool.not_true, Bool.not_false, not_true_eq_false, not_false_eq_true, true_and, and_true, false_and, and_false, true_or, or_true, false_or, or_false, Int.toNat_natCast, cond_true, cond_false, List.map_cons, List.map_nil, Option.map_some, Option.map_none]; rfl) ?_; simp -failIfUnchanged (disch := first | assumption | omega | (refine room_i _ _ ?_ ?_ <;> omega) | (refine @_root_.id _ ?_; with_unfolding_all exact Eq.refl _) | (simp only [List.length_take, List.length_drop, List.length_append, List.length_cons, List.length_nil, List.length_replicate, List.length_map] <;> omega) | fail) only [rnL, opL, ruL, hpL, rsL, natL, outL, Nat.add_sub_cancel_left, Nat.mul_one, List.length_cons, List.length_nil, Nat.zero_add, Nat.add_zero, Nat.reduceAdd, Nat.reduceMul, Nat.reduceSub, Nat.reduceEqDiff, Nat.reduceLT, Nat.reduceLeDiff, litd_t, litd_f, decide_true, decide_false, Bool.not_true, Bool.not_false, not_true_eq_false, not_false_eq_true, true_and, and_true, false_and, and_false, true_or, or_true, false_or, or_false, Int.toNat_natCast, cond_true, cond_false, List.map_cons, List.map_nil, Option.map_some, Option.map_none])
end Go.AS.Tr
