import Derived.Test.YtefnpnokbanbkaaSd3
set_option linter.all false
namespace Go.AS.Sd
open Go Go.AS Go.Proofs
set_option maxHeartbeats 4000000
set_option maxRecDepth 8000
def g1 (s : Int) : Int := bS 5 s
def g2 (s : Int) : Int := bS 100 (g1 s)
def g3 (s : Int) : Int := bS 9 (g2 s)
def g4 (s : Int) : Int := bS 3 (g3 s)
def g5 (s : Int) : Int := bS 200 (g4 s)
def g6 (s : Int) : Int := bS 5 (g5 s)
/-- A machine's sizes. -/
def cfgV (s : Int) : Cfg := ⟨4, 16, 4 + bV 5 s, bV 100 (g1 s), 4 + bV 9 (g2 s), 2 + bV 3 (g3 s), 20 + bV 200 (g4 s), bV 5 (g5 s), 3 + bV 6 (g6 s)⟩
theorem below_ps1 (n : Int) (hn : n ≤ 9223372036854775807) {a : AObj} {r : Heap} {S : Stack} {st : Int} : Rets F (.func (.func 21) [] []) [.ptr 1 1 0, .int .i64 n] ((a :: .cells [.int .u64 st] :: r) :: S) (.int .i64 (bV n st)) ((a :: .cells [.int .u64 (bS n st)] :: r) :: S) := below_p rfl hn
theorem below_rs1 (n : Int) (hn : n ≤ 9223372036854775807) {a : AObj} {r : Heap} {S : Stack} {st : Int} : Rets F (.func (.func 22) [] []) [.ptr 1 1 0, .int .i64 n] ((a :: .cells [.int .u64 st] :: r) :: S) (.int .i64 (bV n st)) ((a :: .cells [.int .u64 (bS n st)] :: r) :: S) := below_r rfl hn
abbrev c0 : List AV := [.int .i64 0, .int .i64 0, .int .i64 0, .int .i64 0, .int .i64 0, .int .i64 0, .int .i64 0, .int .i64 0, .int .i64 0]
theorem bc2 {H : Heap} {a b : Int} : opV H (.build c0 [(0, 1, .c (.int .i64 a)), (1, 1, .c (.int .i64 b))]) = some (.agg [.int .i64 a, .int .i64 b, .int .i64 0, .int .i64 0, .int .i64 0, .int .i64 0, .int .i64 0, .int .i64 0, .int .i64 0], H) := rfl
theorem bc9 {H : Heap} {a b c d e f g h i : Int} : opV H (.build c0 [(0, 1, .c (.int .i64 a)), (1, 1, .c (.int .i64 b)), (2, 1, .c (.int .i64 c)), (3, 1, .c (.int .i64 d)), (4, 1, .c (.int .i64 e)), (5, 1, .c (.int .i64 f)), (6, 1, .c (.int .i64 g)), (7, 1, .c (.int .i64 h)), (8, 1, .c (.int .i64 i))]) = some (.agg [.int .i64 a, .int .i64 b, .int .i64 c, .int .i64 d, .int .i64 e, .int .i64 f, .int .i64 g, .int .i64 h, .int .i64 i], H) := rfl
theorem bd1 {H : Heap} {st : Int} : opV H (.build [.int .u64 0] [(0, 1, .c (.int .u64 st))]) = some (.agg [.int .u64 st], H) := rfl
theorem bx1 {H : Heap} {st : Int} : opV H (.box 1 (.c (.agg [.int .u64 st]))) = some (.ptr H.length 1 0, H ++ [.cells [.int .u64 st]]) := rfl
theorem sp9_2 {a0 a1 a2 a3 a4 a5 a6 a7 a8 v : AV} : splice [a0, a1, a2, a3, a4, a5, a6, a7, a8] 2 [v] = [a0, a1, v, a3, a4, a5, a6, a7, a8] := rfl
theorem sp9_3 {a0 a1 a2 a3 a4 a5 a6 a7 a8 v : AV} : splice [a0, a1, a2, a3, a4, a5, a6, a7, a8] 3 [v] = [a0, a1, a2, v, a4, a5, a6, a7, a8] := rfl
theorem sp9_4 {a0 a1 a2 a3 a4 a5 a6 a7 a8 v : AV} : splice [a0, a1, a2, a3, a4, a5, a6, a7, a8] 4 [v] = [a0, a1, a2, a3, v, a5, a6, a7, a8] := rfl
theorem sp9_5 {a0 a1 a2 a3 a4 a5 a6 a7 a8 v : AV} : splice [a0, a1, a2, a3, a4, a5, a6, a7, a8] 5 [v] = [a0, a1, a2, a3, a4, v, a6, a7, a8] := rfl
theorem sp9_6 {a0 a1 a2 a3 a4 a5 a6 a7 a8 v : AV} : splice [a0, a1, a2, a3, a4, a5, a6, a7, a8] 6 [v] = [a0, a1, a2, a3, a4, a5, v, a7, a8] := rfl
theorem sp9_7 {a0 a1 a2 a3 a4 a5 a6 a7 a8 v : AV} : splice [a0, a1, a2, a3, a4, a5, a6, a7, a8] 7 [v] = [a0, a1, a2, a3, a4, a5, a6, v, a8] := rfl
theorem sp9_8 {a0 a1 a2 a3 a4 a5 a6 a7 a8 v : AV} : splice [a0, a1, a2, a3, a4, a5, a6, a7, a8] 8 [v] = [a0, a1, a2, a3, a4, a5, a6, a7, v] := rfl
theorem one9 {a0 a1 a2 a3 a4 a5 a6 a7 a8 : AV} : one (some 9) [a0, a1, a2, a3, a4, a5, a6, a7, a8] 0 = some (.agg [a0, a1, a2, a3, a4, a5, a6, a7, a8]) := rfl
theorem sp9L : Ty (And.intro @sp9_2 <| And.intro @sp9_3 <| And.intro @sp9_4 <| And.intro @sp9_5 <| And.intro @sp9_6 <| And.intro @sp9_7 <| And.intro @sp9_8 @one9) := And.intro @sp9_2 <| And.intro @sp9_3 <| And.intro @sp9_4 <| And.intro @sp9_5 <| And.intro @sp9_6 <| And.intro @sp9_7 <| And.intro @sp9_8 @one9
theorem bel_p1 (n st : Int) (h1 : 1 ≤ n) (hn : n ≤ 9223372036854775807) : ∃ x y, (x = bV n st ∧ y = bS n st) ∧ 0 ≤ x ∧ x < n ∧ ∀ (a : AObj) (r : Heap) (S : Stack), Rets F (.func (.func 21) [] []) [.ptr 1 1 0, .int .i64 n] ((a :: .cells [.int .u64 st] :: r) :: S) (.int .i64 x) ((a :: .cells [.int .u64 y] :: r) :: S) :=
  ⟨_, _, ⟨rfl, rfl⟩, bV_nn n st, bV_lt n st h1, fun _ _ _ => below_ps1 n hn⟩
theorem bel_r1 (n st : Int) (h1 : 1 ≤ n) (hn : n ≤ 9223372036854775807) : ∃ x y, (x = bV n st ∧ y = bS n st) ∧ 0 ≤ x ∧ x < n ∧ ∀ (a : AObj) (r : Heap) (S : Stack), Rets F (.func (.func 22) [] []) [.ptr 1 1 0, .int .i64 n] ((a :: .cells [.int .u64 st] :: r) :: S) (.int .i64 x) ((a :: .cells [.int .u64 y] :: r) :: S) :=
  ⟨_, _, ⟨rfl, rfl⟩, bV_nn n st, bV_lt n st h1, fun _ _ _ => below_rs1 n hn⟩
theorem config_p (s : Int) : Gives F 40 [.int .u64 s] (.agg (Cel.enc (cfgV s))) := by
  refine Gives.of fn_seed_Config rfl rfl (args' := [.int .u64 s]) (by simp only [mapO_nil, mapO_c2, consO_some, upf_v]) ?_
  simp only [ir_seed_Config]
  obtain ⟨x1, y1, f1, p1, q1, r1⟩ := bel_p1 5 s (by omega) (by omega)
  obtain ⟨x2, y2, f2, p2, q2, r2⟩ := bel_p1 100 y1 (by omega) (by omega)
  obtain ⟨x3, y3, f3, p3, q3, r3⟩ := bel_p1 9 y2 (by omega) (by omega)
  obtain ⟨x4, y4, f4, p4, q4, r4⟩ := bel_p1 3 y3 (by omega) (by omega)
  obtain ⟨x5, y5, f5, p5, q5, r5⟩ := bel_p1 200 y4 (by omega) (by omega)
  obtain ⟨x6, y6, f6, p6, q6, r6⟩ := bel_p1 5 y5 (by omega) (by omega)
  obtain ⟨x7, y7, f7, p7, q7, r7⟩ := bel_p1 6 y6 (by omega) (by omega)
  have hc : cfgV s = ⟨4, 16, 4 + x1, x2, 4 + x3, 2 + x4, 20 + x5, x6, 3 + x7⟩ := by
    obtain ⟨rfl, rfl⟩ := f1
    obtain ⟨rfl, rfl⟩ := f2
    obtain ⟨rfl, rfl⟩ := f3
    obtain ⟨rfl, rfl⟩ := f4
    obtain ⟨rfl, rfl⟩ := f5
    obtain ⟨rfl, rfl⟩ := f6
    obtain ⟨rfl, rfl⟩ := f7
    rfl
  rw [hc]
  clear hc f1 f2 f3 f4 f5 f6 f7
  simp -failIfUnchanged (disch := first | assumption | omega | (refine room_i _ _ ?_ ?_ <;> omega) | (refine @_root_.id _ ?_; with_unfolding_all exact Eq.refl _) | (simp only [List.length_take, List.length_drop, List.length_append, List.length_cons, List.length_nil, List.length_replicate, List.length_map] <;> omega) | fail) only [rnL, opL, ruL, hpL, rsL, natL, outL, Nat.add_sub_cancel_left, Nat.mul_one, List.length_cons, List.length_nil, Nat.zero_add, Nat.add_zero, Nat.reduceAdd, Nat.reduceMul, Nat.reduceSub, Nat.reduceEqDiff, Nat.reduceLT, Nat.reduceLeDiff, litd_t, litd_f, decide_true, decide_false, Bool.not_true, Bool.not_false, not_true_eq_false, not_false_eq_true, true_and, and_true, false_and, and_false, true_or, or_true, false_or, or_false, Int.toNat_natCast, cond_true, cond_false, List.map_cons, List.map_nil, Option.map_some, Option.map_none]
  refine RunC_r (new_p (H := [_])) ?_
  simp -failIfUnchanged (disch := first | assumption | omega | (refine room_i _ _ ?_ ?_ <;> omega) | (refine @_root_.id _ ?_; with_unfolding_all exact Eq.refl _) | (simp only [List.length_take, List.length_drop, List.length_append, List.length_cons, List.length_nil, List.length_replicate, List.length_map] <;> omega) | fail) only [rnL, opL, ruL, hpL, rsL, natL, outL, Nat.add_sub_cancel_left, Nat.mul_one, List.length_cons, List.length_nil, Nat.zero_add, Nat.add_zero, Nat.reduceAdd, Nat.reduceMul, Nat.reduceSub, Nat.reduceEqDiff, Nat.reduceLT, Nat.reduceLeDiff, litd_t, litd_f, decide_true, decide_false, Bool.not_true, Bool.not_false, not_true_eq_false, not_false_eq_true, true_and, and_true, false_and, and_false, true_or, or_true, false_or, or_false, Int.toNat_natCast, cond_true, cond_false, List.map_cons, List.map_nil, Option.map_some, Option.map_none, bc2]
  refine RunC_r (r1 _ _ _) ?_
  simp -failIfUnchanged (disch := first | assumption | omega | (refine room_i _ _ ?_ ?_ <;> omega) | (refine @_root_.id _ ?_; with_unfolding_all exact Eq.refl _) | (simp only [List.length_take, List.length_drop, List.length_append, List.length_cons, List.length_nil, List.length_replicate, List.length_map] <;> omega) | fail) only [rnL, opL, ruL, hpL, rsL, natL, outL, Nat.add_sub_cancel_left, Nat.mul_one, List.length_cons, List.length_nil, Nat.zero_add, Nat.add_zero, Nat.reduceAdd, Nat.reduceMul, Nat.reduceSub, Nat.reduceEqDiff, Nat.reduceLT, Nat.reduceLeDiff, litd_t, litd_f, decide_true, decide_false, Bool.not_true, Bool.not_false, not_true_eq_false, not_false_eq_true, true_and, and_true, false_and, and_false, true_or, or_true, false_or, or_false, Int.toNat_natCast, cond_true, cond_false, List.map_cons, List.map_nil, Option.map_some, Option.map_none, bc2, bc9, bd1, bx1, sp9L]
  refine RunC_r (r2 _ _ _) ?_
  simp -failIfUnchanged (disch := first | assumption | omega | (refine room_i _ _ ?_ ?_ <;> omega) | (refine @_root_.id _ ?_; with_unfolding_all exact Eq.refl _) | (simp only [List.length_take, List.length_drop, List.length_append, List.length_cons, List.length_nil, List.length_replicate, List.length_map] <;> omega) | fail) only [rnL, opL, ruL, hpL, rsL, natL, outL, Nat.add_sub_cancel_left, Nat.mul_one, List.length_cons, List.length_nil, Nat.zero_add, Nat.add_zero, Nat.reduceAdd, Nat.reduceMul, Nat.reduceSub, Nat.reduceEqDiff, Nat.reduceLT, Nat.reduceLeDiff, litd_t, litd_f, decide_true, decide_false, Bool.not_true, Bool.not_false, not_true_eq_false, not_false_eq_true, true_and, and_true, false_and, and_false, true_or, or_true, false_or, or_false, Int.toNat_natCast, cond_true, cond_false, List.map_cons, List.map_nil, Option.map_some, Option.map_none, bc2, bc9, bd1, bx1, sp9L]
  refine RunC_r (r3 _ _ _) ?_
  simp -failIfUnchanged (disch := first | assumption | omega | (refine room_i _ _ ?_ ?_ <;> omega) | (refine @_root_.id _ ?_; with_unfolding_all exact Eq.refl _) | (simp only [List.length_take, List.length_drop, List.length_append, List.length_cons, List.length_nil, List.length_replicate, List.length_map] <;> omega) | fail) only [rnL, opL, ruL, hpL, rsL, natL, outL, Nat.add_sub_cancel_left, Nat.mul_one, List.length_cons, List.length_nil, Nat.zero_add, Nat.add_zero, Nat.reduceAdd, Nat.reduceMul, Nat.reduceSub, Nat.reduceEqDiff, Nat.reduceLT, Nat.reduceLeDiff, litd_t, litd_f, decide_true, decide_false, Bool.not_true, Bool.not_false, not_true_eq_false, not_false_eq_true, true_and, and_true, false_and, and_false, true_or, or_true, false_or, or_false, Int.toNat_natCast, cond_true, cond_false, List.map_cons, List.map_nil, Option.map_some, Option.map_none, bc2, bc9, bd1, bx1, sp9L]
  refine RunC_r (r4 _ _ _) ?_
  simp -failIfUnchanged (disch := first | assumption | omega | (refine room_i _ _ ?_ ?_ <;> omega) | (refine @_root_.id _ ?_; with_unfolding_all exact Eq.refl _) | (simp only [List.length_take, List.length_drop, List.length_append, List.length_cons, List.length_nil, List.length_replicate, List.length_map] <;> omega) | fail) only [rnL, opL, ruL, hpL, rsL, natL, outL, Nat.add_sub_cancel_left, Nat.mul_one, List.length_cons, List.length_nil, Nat.zero_add, Nat.add_zero, Nat.reduceAdd, Nat.reduceMul, Nat.reduceSub, Nat.reduceEqDiff, Nat.reduceLT, Nat.reduceLeDiff, litd_t, litd_f, decide_true, decide_false, Bool.not_true, Bool.not_false, not_true_eq_false, not_false_eq_true, true_and, and_true, false_and, and_false, true_or, or_true, false_or, or_false, Int.toNat_natCast, cond_true, cond_false, List.map_cons, List.map_nil, Option.map_some, Option.map_none, bc2, bc9, bd1, bx1, sp9L]
  refine RunC_r (r5 _ _ _) ?_
  simp -failIfUnchanged (disch := first | assumption | omega | (refine room_i _ _ ?_ ?_ <;> omega) | (refine @_root_.id _ ?_; with_unfolding_all exact Eq.refl _) | (simp only [List.length_take, List.length_drop, List.length_append, List.length_cons, List.length_nil, List.length_replicate, List.length_map] <;> omega) | fail) only [rnL, opL, ruL, hpL, rsL, natL, outL, Nat.add_sub_cancel_left, Nat.mul_one, List.length_cons, List.length_nil, Nat.zero_add, Nat.add_zero, Nat.reduceAdd, Nat.reduceMul, Nat.reduceSub, Nat.reduceEqDiff, Nat.reduceLT, Nat.reduceLeDiff, litd_t, litd_f, decide_true, decide_false, Bool.not_true, Bool.not_false, not_true_eq_false, not_false_eq_true, true_and, and_true, false_and, and_false, true_or, or_true, false_or, or_false, Int.toNat_natCast, cond_true, cond_false, List.map_cons, List.map_nil, Option.map_some, Option.map_none, bc2, bc9, bd1, bx1, sp9L]
  refine RunC_r (r6 _ _ _) ?_
  simp -failIfUnchanged (disch := first | assumption | omega | (refine room_i _ _ ?_ ?_ <;> omega) | (refine @_root_.id _ ?_; with_unfolding_all exact Eq.refl _) | (simp only [List.length_take, List.length_drop, List.length_append, List.length_cons, List.length_nil, List.length_replicate, List.length_map] <;> omega) | fail) only [rnL, opL, ruL, hpL, rsL, natL, outL, Nat.add_sub_cancel_left, Nat.mul_one, List.length_cons, List.length_nil, Nat.zero_add, Nat.add_zero, Nat.reduceAdd, Nat.reduceMul, Nat.reduceSub, Nat.reduceEqDiff, Nat.reduceLT, Nat.reduceLeDiff, litd_t, litd_f, decide_true, decide_false, Bool.not_true, Bool.not_false, not_true_eq_false, not_false_eq_true, true_and, and_true, false_and, and_false, true_or, or_true, false_or, or_false, Int.toNat_natCast, cond_true, cond_false, List.map_cons, List.map_nil, Option.map_some, Option.map_none, bc2, bc9, bd1, bx1, sp9L]
  refine RunC_r (r7 _ _ _) ?_
  simp -failIfUnchanged (disch := first | assumption | omega | (refine room_i _ _ ?_ ?_ <;> omega) | (refine @_root_.id _ ?_; with_unfolding_all exact Eq.refl _) | (simp only [List.length_take, List.length_drop, List.length_append, List.length_cons, List.length_nil, List.length_replicate, List.length_map] <;> omega) | fail) only [rnL, opL, ruL, hpL, rsL, natL, outL, Nat.add_sub_cancel_left, Nat.mul_one, List.length_cons, List.length_nil, Nat.zero_add, Nat.add_zero, Nat.reduceAdd, Nat.reduceMul, Nat.reduceSub, Nat.reduceEqDiff, Nat.reduceLT, Nat.reduceLeDiff, litd_t, litd_f, decide_true, decide_false, Bool.not_true, Bool.not_false, not_true_eq_false, not_false_eq_true, true_and, and_true, false_and, and_false, true_or, or_true, false_or, or_false, Int.toNat_natCast, cond_true, cond_false, List.map_cons, List.map_nil, Option.map_some, Option.map_none, bc2, bc9, bd1, bx1, sp9L]
  refine ⟨.inr rfl, _, _, rfl, rfl, ?_⟩
  rw [leave_f rfl]
  rfl
theorem config_r (s : Int) : Gives F 61 [.int .u64 s] (.agg (Cel.enc (cfgV s))) := by
  refine Gives.of fn_r40_Config rfl rfl (args' := [.int .u64 s]) (by simp only [mapO_nil, mapO_c2, consO_some, upf_v]) ?_
  simp only [ir_r40_Config]
  obtain ⟨x1, y1, f1, p1, q1, r1⟩ := bel_r1 5 s (by omega) (by omega)
  obtain ⟨x2, y2, f2, p2, q2, r2⟩ := bel_r1 100 y1 (by omega) (by omega)
  obtain ⟨x3, y3, f3, p3, q3, r3⟩ := bel_r1 9 y2 (by omega) (by omega)
  obtain ⟨x4, y4, f4, p4, q4, r4⟩ := bel_r1 3 y3 (by omega) (by omega)
  obtain ⟨x5, y5, f5, p5, q5, r5⟩ := bel_r1 200 y4 (by omega) (by omega)
  obtain ⟨x6, y6, f6, p6, q6, r6⟩ := bel_r1 5 y5 (by omega) (by omega)
  obtain ⟨x7, y7, f7, p7, q7, r7⟩ := bel_r1 6 y6 (by omega) (by omega)
  have hc : cfgV s = ⟨4, 16, 4 + x1, x2, 4 + x3, 2 + x4, 20 + x5, x6, 3 + x7⟩ := by
    obtain ⟨rfl, rfl⟩ := f1
    obtain ⟨rfl, rfl⟩ := f2
    obtain ⟨rfl, rfl⟩ := f3
    obtain ⟨rfl, rfl⟩ := f4
    obtain ⟨rfl, rfl⟩ := f5
    obtain ⟨rfl, rfl⟩ := f6
    obtain ⟨rfl, rfl⟩ := f7
    rfl
  rw [hc]
  clear hc f1 f2 f3 f4 f5 f6 f7
  simp -failIfUnchanged (disch := first | assumption | omega | (refine room_i _ _ ?_ ?_ <;> omega) | (refine @_root_.id _ ?_; with_unfolding_all exact Eq.refl _) | (simp only [List.length_take, List.length_drop, List.length_append, List.length_cons, List.length_nil, List.length_replicate, List.length_map] <;> omega) | fail) only [rnL, opL, ruL, hpL, rsL, natL, outL, Nat.add_sub_cancel_left, Nat.mul_one, List.length_cons, List.length_nil, Nat.zero_add, Nat.add_zero, Nat.reduceAdd, Nat.reduceMul, Nat.reduceSub, Nat.reduceEqDiff, Nat.reduceLT, Nat.reduceLeDiff, litd_t, litd_f, decide_true, decide_false, Bool.not_true, Bool.not_false, not_true_eq_false, not_false_eq_true, true_and, and_true, false_and, and_false, true_or, or_true, false_or, or_false, Int.toNat_natCast, cond_true, cond_false, List.map_cons, List.map_nil, Option.map_some, Option.map_none, bd1, bx1]
  refine RunC_r (r1 _ _ _) ?_
  simp -failIfUnchanged (disch := first | assumption | omega | (refine room_i _ _ ?_ ?_ <;> omega) | (refine @_root_.id _ ?_; with_unfolding_all exact Eq.refl _) | (simp only [List.length_take, List.length_drop, List.length_append, List.length_cons, List.length_nil, List.length_replicate, List.length_map] <;> omega) | fail) only [rnL, opL, ruL, hpL, rsL, natL, outL, Nat.add_sub_cancel_left, Nat.mul_one, List.length_cons, List.length_nil, Nat.zero_add, Nat.add_zero, Nat.reduceAdd, Nat.reduceMul, Nat.reduceSub, Nat.reduceEqDiff, Nat.reduceLT, Nat.reduceLeDiff, litd_t, litd_f, decide_true, decide_false, Bool.not_true, Bool.not_false, not_true_eq_false, not_false_eq_true, true_and, and_true, false_and, and_false, true_or, or_true, false_or, or_false, Int.toNat_natCast, cond_true, cond_false, List.map_cons, List.map_nil, Option.map_some, Option.map_none, bc2, bc9, bd1, bx1, sp9L]
  refine RunC_r (r2 _ _ _) ?_
  simp -failIfUnchanged (disch := first | assumption | omega | (refine room_i _ _ ?_ ?_ <;> omega) | (refine @_root_.id _ ?_; with_unfolding_all exact Eq.refl _) | (simp only [List.length_take, List.length_drop, List.length_append, List.length_cons, List.length_nil, List.length_replicate, List.length_map] <;> omega) | fail) only [rnL, opL, ruL, hpL, rsL, natL, outL, Nat.add_sub_cancel_left, Nat.mul_one, List.length_cons, List.length_nil, Nat.zero_add, Nat.add_zero, Nat.reduceAdd, Nat.reduceMul, Nat.reduceSub, Nat.reduceEqDiff, Nat.reduceLT, Nat.reduceLeDiff, litd_t, litd_f, decide_true, decide_false, Bool.not_true, Bool.not_false, not_true_eq_false, not_false_eq_true, true_and, and_true, false_and, and_false, true_or, or_true, false_or, or_false, Int.toNat_natCast, cond_true, cond_false, List.map_cons, List.map_nil, Option.map_some, Option.map_none, bc2, bc9, bd1, bx1, sp9L]
  refine RunC_r (r3 _ _ _) ?_
  simp -failIfUnchanged (disch := first | assumption | omega | (refine room_i _ _ ?_ ?_ <;> omega) | (refine @_root_.id _ ?_; with_unfolding_all exact Eq.refl _) | (simp only [List.length_take, List.length_drop, List.length_append, List.length_cons, List.length_nil, List.length_replicate, List.length_map] <;> omega) | fail) only [rnL, opL, ruL, hpL, rsL, natL, outL, Nat.add_sub_cancel_left, Nat.mul_one, List.length_cons, List.length_nil, Nat.zero_add, Nat.add_zero, Nat.reduceAdd, Nat.reduceMul, Nat.reduceSub, Nat.reduceEqDiff, Nat.reduceLT, Nat.reduceLeDiff, litd_t, litd_f, decide_true, decide_false, Bool.not_true, Bool.not_false, not_true_eq_false, not_false_eq_true, true_and, and_true, false_and, and_false, true_or, or_true, false_or, or_false, Int.toNat_natCast, cond_true, cond_false, List.map_cons, List.map_nil, Option.map_some, Option.map_none, bc2, bc9, bd1, bx1, sp9L]
  refine RunC_r (r4 _ _ _) ?_
  simp -failIfUnchanged (disch := first | assumption | omega | (refine room_i _ _ ?_ ?_ <;> omega) | (refine @_root_.id _ ?_; with_unfolding_all exact Eq.refl _) | (simp only [List.length_take, List.length_drop, List.length_append, List.length_cons, List.length_nil, List.length_replicate, List.length_map] <;> omega) | fail) only [rnL, opL, ruL, hpL, rsL, natL, outL, Nat.add_sub_cancel_left, Nat.mul_one, List.length_cons, List.length_nil, Nat.zero_add, Nat.add_zero, Nat.reduceAdd, Nat.reduceMul, Nat.reduceSub, Nat.reduceEqDiff, Nat.reduceLT, Nat.reduceLeDiff, litd_t, litd_f, decide_true, decide_false, Bool.not_true, Bool.not_false, not_true_eq_false, not_false_eq_true, true_and, and_true, false_and, and_false, true_or, or_true, false_or, or_false, Int.toNat_natCast, cond_true, cond_false, List.map_cons, List.map_nil, Option.map_some, Option.map_none, bc2, bc9, bd1, bx1, sp9L]
  refine RunC_r (r5 _ _ _) ?_
  simp -failIfUnchanged (disch := first | assumption | omega | (refine room_i _ _ ?_ ?_ <;> omega) | (refine @_root_.id _ ?_; with_unfolding_all exact Eq.refl _) | (simp only [List.length_take, List.length_drop, List.length_append, List.length_cons, List.length_nil, List.length_replicate, List.length_map] <;> omega) | fail) only [rnL, opL, ruL, hpL, rsL, natL, outL, Nat.add_sub_cancel_left, Nat.mul_one, List.length_cons, List.length_nil, Nat.zero_add, Nat.add_zero, Nat.reduceAdd, Nat.reduceMul, Nat.reduceSub, Nat.reduceEqDiff, Nat.reduceLT, Nat.reduceLeDiff, litd_t, litd_f, decide_true, decide_false, Bool.not_true, Bool.not_false, not_true_eq_false, not_false_eq_true, true_and, and_true, false_and, and_false, true_or, or_true, false_or, or_false, Int.toNat_natCast, cond_true, cond_false, List.map_cons, List.map_nil, Option.map_some, Option.map_none, bc2, bc9, bd1, bx1, sp9L]
  refine RunC_r (r6 _ _ _) ?_
  simp -failIfUnchanged (disch := first | assumption | omega | (refine room_i _ _ ?_ ?_ <;> omega) | (refine @_root_.id _ ?_; with_unfolding_all exact Eq.refl _) | (simp only [List.length_take, List.length_drop, List.length_append, List.length_cons, List.length_nil, List.length_replicate, List.length_map] <;> omega) | fail) only [rnL, opL, ruL, hpL, rsL, natL, outL, Nat.add_sub_cancel_left, Nat.mul_one, List.length_cons, List.length_nil, Nat.zero_add, Nat.add_zero, Nat.reduceAdd, Nat.reduceMul, Nat.reduceSub, Nat.reduceEqDiff, Nat.reduceLT, Nat.reduceLeDiff, litd_t, litd_f, decide_true, decide_false, Bool.not_true, Bool.not_false, not_true_eq_false, not_false_eq_true, true_and, and_true, false_and, and_false, true_or, or_true, false_or, or_false, Int.toNat_natCast, cond_true, cond_false, List.map_cons, List.map_nil, Option.map_some, Option.map_none, bc2, bc9, bd1, bx1, sp9L]
  refine RunC_r (r7 _ _ _) ?_
  simp -failIfUnchanged (disch := first | assumption | omega | (refine room_i _ _ ?_ ?_ <;> omega) | (refine @_root_.id _ ?_; with_unfolding_all exact Eq.refl _) | (simp only [List.length_take, List.length_drop, List.length_append, List.length_cons, List.length_nil, List.length_replicate, List.length_map] <;> omega) | fail) only [rnL, opL, ruL, hpL, rsL, natL, outL, Nat.add_sub_cancel_left, Nat.mul_one, List.length_cons, List.length_nil, Nat.zero_add, Nat.add_zero, Nat.reduceAdd, Nat.reduceMul, Nat.reduceSub, Nat.reduceEqDiff, Nat.reduceLT, Nat.reduceLeDiff, litd_t, litd_f, decide_true, decide_false, Bool.not_true, Bool.not_false, not_true_eq_false, not_false_eq_true, true_and, and_true, false_and, and_false, true_or, or_true, false_or, or_false, Int.toNat_natCast, cond_true, cond_false, List.map_cons, List.map_nil, Option.map_some, Option.map_none, bc2, bc9, bd1, bx1, sp9L]
  refine ⟨.inr rfl, _, _, rfl, rfl, ?_⟩
  rw [leave_f rfl]
  rfl
end Go.AS.Sd

namespace Go.AS.Sd
open Go Go.AS Go.Proofs
set_option maxHeartbeats 4000000
set_option maxRecDepth 100000
/-- Who is picked. -/
def pkS (ss st : Int) : Nat → Int
  | 0 => st
  | m + 1 => bS ss (pkS ss st m)
def pkL (ss st : Int) : Nat → List Int
  | 0 => []
  | m + 1 => pkL ss st m ++ [bV ss (pkS ss st m) + 1]
theorem pkL_len (ss st : Int) (m : Nat) : (pkL ss st m).length = m := by
  induction m with
  | zero => rfl
  | succ m ih => simp [pkL, ih]
def pkN (n : Int) : Nat := (clp n 0 10000).toNat
theorem pkN_b (n : Int) : pkN n ≤ 10000 ∧ (pkN n : Int) = clp n 0 10000 := by unfold pkN clp; omega
abbrev PkP (nl : Bool) (k : Nat) (H : Heap) (S : Stack) (ss n st : Int) (v : AV) (S' : Stack) : Prop := ∃ H', S' = H' :: S ∧ hat H' k = .cells [.int .u64 (pkS ss st (pkN n))] ∧ Kp k H H' ∧ Row nl H' v (pkL ss st (pkN n)) ∧ ∀ j, j < H.length → isAt v j = false
theorem picks_p {H : Heap} {S : Stack} {k : Nat} {st ss n : Int} (hk : hat H k = .cells [.int .u64 st]) (h1 : 1 ≤ ss) (h2 : ss ≤ 64) : ∃ v S', Rets F (.func (.func 60) [] []) [.ptr k 1 0, .int .i64 ss, .int .i64 n] (H :: S) v S' ∧ PkP true k H S ss n st v S' := by
  have hl := hat_some hk
  refine Rets.memX (funs := F) (fi := []) (ca := []) fn_seed_Source_Picks rfl rfl ?_
  simp only [ir_seed_Source_Picks, List.nil_append, List.cons_append]
  have c1 := clamp_p n 0 10000
  obtain ⟨n1, n2⟩ := pkN_b n
  have e0 : decide (ss < 1) = false := by simp; omega
  simp -failIfUnchanged (disch := first | assumption | omega | (refine room_i _ _ ?_ ?_ <;> omega) | (refine @_root_.id _ ?_; with_unfolding_all exact Eq.refl _) | (simp only [List.length_take, List.length_drop, List.length_append, List.length_cons, List.length_nil, List.length_replicate, List.length_map] <;> omega) | fail) only [rnL, opL, ruL, hpL, rsL, natL, outL, Nat.add_sub_cancel_left, Nat.mul_one, List.length_cons, List.length_nil, Nat.zero_add, Nat.add_zero, Nat.reduceAdd, Nat.reduceMul, Nat.reduceSub, Nat.reduceEqDiff, Nat.reduceLT, Nat.reduceLeDiff, litd_t, litd_f, decide_true, decide_false, Bool.not_true, Bool.not_false, not_true_eq_false, not_false_eq_true, true_and, and_true, false_and, and_false, true_or, or_true, false_or, or_false, Int.toNat_natCast, cond_true, cond_false, List.map_cons, List.map_nil, Option.map_some, Option.map_none, eqn_ptr, c1.isp, ← n2, e0]
  refine Run_loop (σ := Nat × Heap × AV) (fun σ => [(0, .ptr k 1 0), (1, .int .i64 ss), (2, .int .i64 n), (6, .imm true 0 0 (some 0) []), (7, σ.2.2), (13, .bool false), (15, .int .i64 (pkN n : Nat)), (16, .int .i64 (σ.1 : Nat))])
    (fun σ => σ.2.1 :: S) (fun σ => σ.1 ≤ pkN n ∧ hat σ.2.1 k = .cells [.int .u64 (pkS ss st σ.1)] ∧ Kp k H σ.2.1 ∧ Row true σ.2.1 σ.2.2 (pkL ss st σ.1) ∧ ∀ j, j < H.length → isAt σ.2.2 j = false)
    (fun σ => pkN n - σ.1) (0, H, .imm true 0 0 (some 0) []) ?_ rfl ⟨Nat.zero_le _, hk, Kp.refl _ _, Row.nil, fun _ _ => rfl⟩ ?_
  · rfl
  rintro ⟨i, G, w⟩ ⟨hi, g1, g2, g3, g4⟩
  simp only at hi g1 g2 g3 g4
  simp -failIfUnchanged (disch := first | assumption | omega | (refine room_i _ _ ?_ ?_ <;> omega) | (refine @_root_.id _ ?_; with_unfolding_all exact Eq.refl _) | (simp only [List.length_take, List.length_drop, List.length_append, List.length_cons, List.length_nil, List.length_replicate, List.length_map] <;> omega) | fail) only [rnL, opL, ruL, hpL, rsL, natL, outL, Nat.add_sub_cancel_left, Nat.mul_one, List.length_cons, List.length_nil, Nat.zero_add, Nat.add_zero, Nat.reduceAdd, Nat.reduceMul, Nat.reduceSub, Nat.reduceEqDiff, Nat.reduceLT, Nat.reduceLeDiff, litd_t, litd_f, decide_true, decide_false, Bool.not_true, Bool.not_false, not_true_eq_false, not_false_eq_true, true_and, and_true, false_and, and_false, true_or, or_true, false_or, or_false, Int.toNat_natCast, cond_true, cond_false, List.map_cons, List.map_nil, Option.map_some, Option.map_none]
  (first | refine RunB_i (fun h3 => ?_) (fun h3 => ?_) | refine RunG_i (fun h3 => ?_) (fun h3 => ?_) | refine RunB_ib (fun h3 => ?_) (fun h3 => ?_))
  · have g7 := g4 k hl
    have b1 := bV_nn ss (pkS ss st i)
    have b2 := bV_lt ss (pkS ss st i) h1
    have r1 := below_p (S := S) g1 (n := ss) (by omega)
    have hR : Row true (hset G k (.cells [.int .u64 (bS ss (pkS ss st i))])) w (pkL ss st i) := g3.hset g7
    have hml := pkL_len ss st i
    obtain ⟨w', G2, ha, hR2, hK⟩ := Row.append (es := 1) (bytes := 8) (bV ss (pkS ss st i) + 1) hR rfl rfl (by refine room_i _ _ ?_ ?_ <;> omega)
    have ha : opV (hset G k (.cells [.int .u64 (bS ss (pkS ss st i))])) (.append 1 8 (.c w) (.c (.imm false 1 1 (some 1) [.int .i64 (bV ss (pkS ss st i) + 1)]))) = some (w', G2) := ha
    have k1 : hat G2 k = .cells [.int .u64 (bS ss (pkS ss st i))] := (hK.same k (by rw [hset_len]; exact hat_some g1) g7).trans (hat_hset_eq _ (hat_some g1))
    simp -failIfUnchanged (disch := first | assumption | omega | (refine room_i _ _ ?_ ?_ <;> omega) | (refine @_root_.id _ ?_; with_unfolding_all exact Eq.refl _) | (simp only [List.length_take, List.length_drop, List.length_append, List.length_cons, List.length_nil, List.length_replicate, List.length_map] <;> omega) | fail) only [rnL, opL, ruL, hpL, rsL, natL, outL, Nat.add_sub_cancel_left, Nat.mul_one, List.length_cons, List.length_nil, Nat.zero_add, Nat.add_zero, Nat.reduceAdd, Nat.reduceMul, Nat.reduceSub, Nat.reduceEqDiff, Nat.reduceLT, Nat.reduceLeDiff, litd_t, litd_f, decide_true, decide_false, Bool.not_true, Bool.not_false, not_true_eq_false, not_false_eq_true, true_and, and_true, false_and, and_false, true_or, or_true, false_or, or_false, Int.toNat_natCast, cond_true, cond_false, List.map_cons, List.map_nil, Option.map_some, Option.map_none]
    refine RunC_r r1 ?_
    simp -failIfUnchanged (disch := first | assumption | omega | (refine room_i _ _ ?_ ?_ <;> omega) | (refine @_root_.id _ ?_; with_unfolding_all exact Eq.refl _) | (simp only [List.length_take, List.length_drop, List.length_append, List.length_cons, List.length_nil, List.length_replicate, List.length_map] <;> omega) | fail) only [rnL, opL, ruL, hpL, rsL, natL, outL, Nat.add_sub_cancel_left, Nat.mul_one, List.length_cons, List.length_nil, Nat.zero_add, Nat.add_zero, Nat.reduceAdd, Nat.reduceMul, Nat.reduceSub, Nat.reduceEqDiff, Nat.reduceLT, Nat.reduceLeDiff, litd_t, litd_f, decide_true, decide_false, Bool.not_true, Bool.not_false, not_true_eq_false, not_false_eq_true, true_and, and_true, false_and, and_false, true_or, or_true, false_or, or_false, Int.toNat_natCast, cond_true, cond_false, List.map_cons, List.map_nil, Option.map_some, Option.map_none, ha]
    refine Next.i (i + 1, G2, w') ?_ rfl ⟨by show i + 1 ≤ _; omega, k1, ⟨?_, fun j a b => ?_⟩, hR2, fun j a => ?_⟩ (by show pkN n - (i + 1) < pkN n - i; omega)
    · simp -failIfUnchanged (disch := first | assumption | omega | (refine room_i _ _ ?_ ?_ <;> omega) | (refine @_root_.id _ ?_; with_unfolding_all exact Eq.refl _) | (simp only [List.length_take, List.length_drop, List.length_append, List.length_cons, List.length_nil, List.length_replicate, List.length_map] <;> omega) | fail) only [rnL, opL, ruL, hpL, rsL, natL, outL, Nat.add_sub_cancel_left, Nat.mul_one, List.length_cons, List.length_nil, Nat.zero_add, Nat.add_zero, Nat.reduceAdd, Nat.reduceMul, Nat.reduceSub, Nat.reduceEqDiff, Nat.reduceLT, Nat.reduceLeDiff, litd_t, litd_f, decide_true, decide_false, Bool.not_true, Bool.not_false, not_true_eq_false, not_false_eq_true, true_and, and_true, false_and, and_false, true_or, or_true, false_or, or_false, Int.toNat_natCast, cond_true, cond_false, List.map_cons, List.map_nil, Option.map_some, Option.map_none]
    · exact Nat.le_trans g2.len (by have := hK.len; rwa [hset_len] at this)
    · show hat G2 j = _
      have hj := g2.len
      rw [hK.same j (by rw [hset_len]; omega) (g4 j a), hat_hset_ne _ (Ne.symm b), g2.at_ j a b]
    · exact hK.at_ j (by have := g2.len; rw [hset_len]; omega) (g4 j a)
  · have hi2 : i = pkN n := by omega
    subst hi2
    simp -failIfUnchanged (disch := first | assumption | omega | (refine room_i _ _ ?_ ?_ <;> omega) | (refine @_root_.id _ ?_; with_unfolding_all exact Eq.refl _) | (simp only [List.length_take, List.length_drop, List.length_append, List.length_cons, List.length_nil, List.length_replicate, List.length_map] <;> omega) | fail) only [rnL, opL, ruL, hpL, rsL, natL, outL, Nat.add_sub_cancel_left, Nat.mul_one, List.length_cons, List.length_nil, Nat.zero_add, Nat.add_zero, Nat.reduceAdd, Nat.reduceMul, Nat.reduceSub, Nat.reduceEqDiff, Nat.reduceLT, Nat.reduceLeDiff, litd_t, litd_f, decide_true, decide_false, Bool.not_true, Bool.not_false, not_true_eq_false, not_false_eq_true, true_and, and_true, false_and, and_false, true_or, or_true, false_or, or_false, Int.toNat_natCast, cond_true, cond_false, List.map_cons, List.map_nil, Option.map_some, Option.map_none]
    refine FinX_g (funs := F) (.inr rfl) (vs := [w]) ?_ rfl ⟨_, rfl, g1, g2, g3, g4⟩
    have e5 : ∀ e, Env.get e 6 = w → mapO (resultA e G) [.tmp 6] = some [w] := fun e h => by
      simp only [mapO, resultA_tmp, h, g3.tmp]
    exact e5 _ rfl
theorem picks_r {H : Heap} {S : Stack} {k : Nat} {st ss n : Int} (hk : hat H k = .cells [.int .u64 st]) (h1 : 1 ≤ ss) (h2 : ss ≤ 64) : ∃ v S', Rets F (.func (.func 62) [] []) [.ptr k 1 0, .int .i64 ss, .int .i64 n] (H :: S) v S' ∧ PkP false k H S ss n st v S' := by
  have hl := hat_some hk
  refine Rets.memX (funs := F) (fi := []) (ca := []) fn_r40_Picks rfl rfl ?_
  simp only [ir_r40_Picks, List.nil_append, List.cons_append]
  obtain ⟨n1, n2⟩ := pkN_b n
  have n3 : ∀ i : Nat, i < pkN n ↔ (i : Int) < n ∧ (i : Int) < 10000 := fun i => by unfold clp at n2; omega
  have e0 : decide (1 ≤ ss) = true := by simpa using h1
  simp -failIfUnchanged (disch := first | assumption | omega | (refine room_i _ _ ?_ ?_ <;> omega) | (refine @_root_.id _ ?_; with_unfolding_all exact Eq.refl _) | (simp only [List.length_take, List.length_drop, List.length_append, List.length_cons, List.length_nil, List.length_replicate, List.length_map] <;> omega) | fail) only [rnL, opL, ruL, hpL, rsL, natL, outL, Nat.add_sub_cancel_left, Nat.mul_one, List.length_cons, List.length_nil, Nat.zero_add, Nat.add_zero, Nat.reduceAdd, Nat.reduceMul, Nat.reduceSub, Nat.reduceEqDiff, Nat.reduceLT, Nat.reduceLeDiff, litd_t, litd_f, decide_true, decide_false, Bool.not_true, Bool.not_false, not_true_eq_false, not_false_eq_true, true_and, and_true, false_and, and_false, true_or, or_true, false_or, or_false, Int.toNat_natCast, cond_true, cond_false, List.map_cons, List.map_nil, Option.map_some, Option.map_none]
  refine Run_loop (σ := Nat × Heap × AV) (fun σ => [(0, .ptr k 1 0), (1, .int .i64 ss), (2, .int .i64 n), (6, .imm true 0 0 (some 0) []), (7, σ.2.2), (8, .int .i64 (σ.1 : Nat))])
    (fun σ => σ.2.1 :: S) (fun σ => σ.1 ≤ pkN n ∧ hat σ.2.1 k = .cells [.int .u64 (pkS ss st σ.1)] ∧ Kp k H σ.2.1 ∧ Row false σ.2.1 σ.2.2 (pkL ss st σ.1) ∧ ∀ j, j < H.length → isAt σ.2.2 j = false)
    (fun σ => pkN n - σ.1) (0, H, .imm false 0 0 (some 0) []) ?_ rfl ⟨Nat.zero_le _, hk, Kp.refl _ _, Row.nil, fun _ _ => rfl⟩ ?_
  · rfl
  rintro ⟨i, G, w⟩ ⟨hi, g1, g2, g3, g4⟩
  simp only at hi g1 g2 g3 g4
  simp -failIfUnchanged (disch := first | assumption | omega | (refine room_i _ _ ?_ ?_ <;> omega) | (refine @_root_.id _ ?_; with_unfolding_all exact Eq.refl _) | (simp only [List.length_take, List.length_drop, List.length_append, List.length_cons, List.length_nil, List.length_replicate, List.length_map] <;> omega) | fail) only [rnL, opL, ruL, hpL, rsL, natL, outL, Nat.add_sub_cancel_left, Nat.mul_one, List.length_cons, List.length_nil, Nat.zero_add, Nat.add_zero, Nat.reduceAdd, Nat.reduceMul, Nat.reduceSub, Nat.reduceEqDiff, Nat.reduceLT, Nat.reduceLeDiff, litd_t, litd_f, decide_true, decide_false, Bool.not_true, Bool.not_false, not_true_eq_false, not_false_eq_true, true_and, and_true, false_and, and_false, true_or, or_true, false_or, or_false, Int.toNat_natCast, cond_true, cond_false, List.map_cons, List.map_nil, Option.map_some, Option.map_none, e0]
  (first | refine RunB_i (fun h3 => ?_) (fun h3 => ?_) | refine RunG_i (fun h3 => ?_) (fun h3 => ?_) | refine RunB_ib (fun h3 => ?_) (fun h3 => ?_))
  · simp -failIfUnchanged (disch := first | assumption | omega | (refine room_i _ _ ?_ ?_ <;> omega) | (refine @_root_.id _ ?_; with_unfolding_all exact Eq.refl _) | (simp only [List.length_take, List.length_drop, List.length_append, List.length_cons, List.length_nil, List.length_replicate, List.length_map] <;> omega) | fail) only [rnL, opL, ruL, hpL, rsL, natL, outL, Nat.add_sub_cancel_left, Nat.mul_one, List.length_cons, List.length_nil, Nat.zero_add, Nat.add_zero, Nat.reduceAdd, Nat.reduceMul, Nat.reduceSub, Nat.reduceEqDiff, Nat.reduceLT, Nat.reduceLeDiff, litd_t, litd_f, decide_true, decide_false, Bool.not_true, Bool.not_false, not_true_eq_false, not_false_eq_true, true_and, and_true, false_and, and_false, true_or, or_true, false_or, or_false, Int.toNat_natCast, cond_true, cond_false, List.map_cons, List.map_nil, Option.map_some, Option.map_none]
    (first | refine RunB_i (fun h4 => ?_) (fun h4 => ?_) | refine RunG_i (fun h4 => ?_) (fun h4 => ?_) | refine RunB_ib (fun h4 => ?_) (fun h4 => ?_))
    · have g7 := g4 k hl
      have hi3 : i < pkN n := (n3 i).2 ⟨by omega, by omega⟩
      have b1 := bV_nn ss (pkS ss st i)
      have b2 := bV_lt ss (pkS ss st i) h1
      have r1 := below_r (S := S) g1 (n := ss) (by omega)
      have hR : Row false (hset G k (.cells [.int .u64 (bS ss (pkS ss st i))])) w (pkL ss st i) := g3.hset g7
      have hml := pkL_len ss st i
      obtain ⟨w', G2, ha, hR2, hK⟩ := Row.append (es := 1) (bytes := 8) (bV ss (pkS ss st i) + 1) hR rfl rfl (by refine room_i _ _ ?_ ?_ <;> omega)
      have ha : opV (hset G k (.cells [.int .u64 (bS ss (pkS ss st i))])) (.append 1 8 (.c w) (.c (.imm false 1 1 (some 1) [.int .i64 (bV ss (pkS ss st i) + 1)]))) = some (w', G2) := ha
      have k1 : hat G2 k = .cells [.int .u64 (bS ss (pkS ss st i))] := (hK.same k (by rw [hset_len]; exact hat_some g1) g7).trans (hat_hset_eq _ (hat_some g1))
      simp -failIfUnchanged (disch := first | assumption | omega | (refine room_i _ _ ?_ ?_ <;> omega) | (refine @_root_.id _ ?_; with_unfolding_all exact Eq.refl _) | (simp only [List.length_take, List.length_drop, List.length_append, List.length_cons, List.length_nil, List.length_replicate, List.length_map] <;> omega) | fail) only [rnL, opL, ruL, hpL, rsL, natL, outL, Nat.add_sub_cancel_left, Nat.mul_one, List.length_cons, List.length_nil, Nat.zero_add, Nat.add_zero, Nat.reduceAdd, Nat.reduceMul, Nat.reduceSub, Nat.reduceEqDiff, Nat.reduceLT, Nat.reduceLeDiff, litd_t, litd_f, decide_true, decide_false, Bool.not_true, Bool.not_false, not_true_eq_false, not_false_eq_true, true_and, and_true, false_and, and_false, true_or, or_true, false_or, or_false, Int.toNat_natCast, cond_true, cond_false, List.map_cons, List.map_nil, Option.map_some, Option.map_none]
      refine RunC_r r1 ?_
      simp -failIfUnchanged (disch := first | assumption | omega | (refine room_i _ _ ?_ ?_ <;> omega) | (refine @_root_.id _ ?_; with_unfolding_all exact Eq.refl _) | (simp only [List.length_take, List.length_drop, List.length_append, List.length_cons, List.length_nil, List.length_replicate, List.length_map] <;> omega) | fail) only [rnL, opL, ruL, hpL, rsL, natL, outL, Nat.add_sub_cancel_left, Nat.mul_one, List.length_cons, List.length_nil, Nat.zero_add, Nat.add_zero, Nat.reduceAdd, Nat.reduceMul, Nat.reduceSub, Nat.reduceEqDiff, Nat.reduceLT, Nat.reduceLeDiff, litd_t, litd_f, decide_true, decide_false, Bool.not_true, Bool.not_false, not_true_eq_false, not_false_eq_true, true_and, and_true, false_and, and_false, true_or, or_true, false_or, or_false, Int.toNat_natCast, cond_true, cond_false, List.map_cons, List.map_nil, Option.map_some, Option.map_none, ha]
      refine Next.i (i + 1, G2, w') ?_ rfl ⟨by show i + 1 ≤ _; omega, k1, ⟨?_, fun j a b => ?_⟩, hR2, fun j a => ?_⟩ (by show pkN n - (i + 1) < pkN n - i; omega)
      · simp -failIfUnchanged (disch := first | assumption | omega | (refine room_i _ _ ?_ ?_ <;> omega) | (refine @_root_.id _ ?_; with_unfolding_all exact Eq.refl _) | (simp only [List.length_take, List.length_drop, List.length_append, List.length_cons, List.length_nil, List.length_replicate, List.length_map] <;> omega) | fail) only [rnL, opL, ruL, hpL, rsL, natL, outL, Nat.add_sub_cancel_left, Nat.mul_one, List.length_cons, List.length_nil, Nat.zero_add, Nat.add_zero, Nat.reduceAdd, Nat.reduceMul, Nat.reduceSub, Nat.reduceEqDiff, Nat.reduceLT, Nat.reduceLeDiff, litd_t, litd_f, decide_true, decide_false, Bool.not_true, Bool.not_false, not_true_eq_false, not_false_eq_true, true_and, and_true, false_and, and_false, true_or, or_true, false_or, or_false, Int.toNat_natCast, cond_true, cond_false, List.map_cons, List.map_nil, Option.map_some, Option.map_none]
      · exact Nat.le_trans g2.len (by have := hK.len; rwa [hset_len] at this)
      · show hat G2 j = _
        have hj := g2.len
        rw [hK.same j (by rw [hset_len]; omega) (g4 j a), hat_hset_ne _ (Ne.symm b), g2.at_ j a b]
      · exact hK.at_ j (by have := g2.len; rw [hset_len]; omega) (g4 j a)
    · have hi2 : i = pkN n := by
        rcases Nat.lt_or_ge i (pkN n) with h | h
        · have := (n3 i).1 h; omega
        · omega
      subst hi2
      simp -failIfUnchanged (disch := first | assumption | omega | (refine room_i _ _ ?_ ?_ <;> omega) | (refine @_root_.id _ ?_; with_unfolding_all exact Eq.refl _) | (simp only [List.length_take, List.length_drop, List.length_append, List.length_cons, List.length_nil, List.length_replicate, List.length_map] <;> omega) | fail) only [rnL, opL, ruL, hpL, rsL, natL, outL, Nat.add_sub_cancel_left, Nat.mul_one, List.length_cons, List.length_nil, Nat.zero_add, Nat.add_zero, Nat.reduceAdd, Nat.reduceMul, Nat.reduceSub, Nat.reduceEqDiff, Nat.reduceLT, Nat.reduceLeDiff, litd_t, litd_f, decide_true, decide_false, Bool.not_true, Bool.not_false, not_true_eq_false, not_false_eq_true, true_and, and_true, false_and, and_false, true_or, or_true, false_or, or_false, Int.toNat_natCast, cond_true, cond_false, List.map_cons, List.map_nil, Option.map_some, Option.map_none]
      refine FinX_g (funs := F) (.inr rfl) (vs := [w]) ?_ rfl ⟨_, rfl, g1, g2, g3, g4⟩
      have e5 : ∀ e, Env.get e 6 = w → mapO (resultA e G) [.tmp 6] = some [w] := fun e h => by
        simp only [mapO, resultA_tmp, h, g3.tmp]
      exact e5 _ rfl
  · have hi2 : i = pkN n := by
      rcases Nat.lt_or_ge i (pkN n) with h | h
      · have := (n3 i).1 h; omega
      · omega
    subst hi2
    simp -failIfUnchanged (disch := first | assumption | omega | (refine room_i _ _ ?_ ?_ <;> omega) | (refine @_root_.id _ ?_; with_unfolding_all exact Eq.refl _) | (simp only [List.length_take, List.length_drop, List.length_append, List.length_cons, List.length_nil, List.length_replicate, List.length_map] <;> omega) | fail) only [rnL, opL, ruL, hpL, rsL, natL, outL, Nat.add_sub_cancel_left, Nat.mul_one, List.length_cons, List.length_nil, Nat.zero_add, Nat.add_zero, Nat.reduceAdd, Nat.reduceMul, Nat.reduceSub, Nat.reduceEqDiff, Nat.reduceLT, Nat.reduceLeDiff, litd_t, litd_f, decide_true, decide_false, Bool.not_true, Bool.not_false, not_true_eq_false, not_false_eq_true, true_and, and_true, false_and, and_false, true_or, or_true, false_or, or_false, Int.toNat_natCast, cond_true, cond_false, List.map_cons, List.map_nil, Option.map_some, Option.map_none]
    refine FinX_g (funs := F) (.inr rfl) (vs := [w]) ?_ rfl ⟨_, rfl, g1, g2, g3, g4⟩
    have e5 : ∀ e, Env.get e 6 = w → mapO (resultA e G) [.tmp 6] = some [w] := fun e h => by
      simp only [mapO, resultA_tmp, h, g3.tmp]
    exact e5 _ rfl
end Go.AS.Sd

namespace Go.AS.Sd
open Go Go.AS Go.Proofs
set_option maxHeartbeats 4000000
set_option maxRecDepth 100000
/-- A script. -/
structure Scr where
  cfg : Cfg
  ops : Sl (Sl Opn)
  picks : Sl Int
instance celScr : Cel Scr := ⟨11, fun s => Cel.enc s.cfg ++ [sl s.ops.nil s.ops.l, sl s.picks.nil s.picks.l], fun s => by simp [Cel.len]; rfl,
  fun s => by
    show hfrees [_, _, _, _, _, _, _, _, _, sl s.ops.nil s.ops.l, sl s.picks.nil s.picks.l] = true
    simp only [hfrees_cons, sl_free]; rfl,
  fun s => by
    show fgs [_, _, _, _, _, _, _, _, _, sl s.ops.nil s.ops.l, sl s.picks.nil s.picks.l] = [_, _, _, _, _, _, _, _, _, sl s.ops.nil s.ops.l, sl s.picks.nil s.picks.l]
    simp only [fgs_cons, sl_canon]; rfl⟩
def opn (st : Int) : Opn := ⟨oK st, oKey st, [], oN st, ⟨(oL st).isEmpty, oL st⟩⟩
/-- A session's operations. -/
def osF (st : Int) : Nat → Int
  | 0 => st
  | m + 1 => oS (osF st m)
def opsL (st : Int) : Nat → List Opn
  | 0 => []
  | m + 1 => opsL st m ++ [opn (osF st m)]
theorem opsL_len (st : Int) (m : Nat) : (opsL st m).length = m := by
  induction m with
  | zero => rfl
  | succ m ih => simp [opsL, ih]
def oCnt (ops : Int) : Nat := (clp ops 0 100).toNat
theorem oCnt_b (n : Int) : oCnt n ≤ 100 ∧ (oCnt n : Int) = clp n 0 100 := by unfold oCnt clp; omega
def sCnt (n : Int) : Nat := (clp n 1 64).toNat
theorem sCnt_b (n : Int) : 1 ≤ sCnt n ∧ sCnt n ≤ 64 ∧ (sCnt n : Int) = clp n 1 64 := by unfold sCnt clp; omega
def scS (m : Nat) (st : Int) : Nat → Int
  | 0 => st
  | j + 1 => osF (scS m st j) m
def scL (nl : Bool) (m : Nat) (st : Int) : Nat → List (Sl Opn)
  | 0 => []
  | j + 1 => scL nl m st j ++ [⟨nl && (opsL (scS m st j) m).isEmpty, opsL (scS m st j) m⟩]
theorem scL_len (nl : Bool) (m : Nat) (st : Int) (j : Nat) : (scL nl m st j).length = j := by
  induction j with
  | zero => rfl
  | succ j ih => simp [scL, ih]
def scr (nl : Bool) (s ss ops picks : Int) : Scr :=
  ⟨cfgV s, ⟨false, scL nl (oCnt ops) s (sCnt ss)⟩, ⟨nl && (pkL (sCnt ss) (scS (oCnt ops) s (sCnt ss)) (pkN picks)).isEmpty, pkL (sCnt ss) (scS (oCnt ops) s (sCnt ss)) (pkN picks)⟩⟩
/-- From the third object on. -/
def P3 (i : Nat) : Bool := Nat.ble 3 i
theorem P3_i {i : Nat} : P3 i = true ↔ 3 ≤ i := by simp [P3]
theorem op_fz0 {G : Heap} {wb : AV} {kd : UInt8} {key : Str} {n : Int} {l : List Msg} {P : Nat → Bool} (h : Row true G wb l) (hP : ∀ j, isAt wb j = true → P j = true) :
    ∃ xs', Fz P 2 G [.int .u8 kd.toNat, .str key, .str [], .int .i64 n, wb] xs' ∧ hfrees xs' = true ∧ fgs xs' = Cel.enc (Opn.mk kd key [] n ⟨l.isEmpty, l⟩) := by
  obtain ⟨r, h1, h2, h3⟩ := h.fz hP
  have h0 : Fz P 2 G [.int .u8 kd.toNat, .str key, .str [], .int .i64 n] [.int .u8 kd.toNat, .str key, .str [], .int .i64 n] := (Fz.free (P := P) (G := G) (cs := [.int .u8 kd.toNat, .str key, .str [], .int .i64 n]) rfl).up 1
  refine ⟨([.int .u8 kd.toNat, .str key, .str [], .int .i64 n] : List AV) ++ [r], h0.app h1, hfrees_app2 rfl (by simp [hfrees, h2]), ?_⟩
  rw [fgs_app2]
  show [_, _, _, _] ++ [fg r] = _
  rw [h3]
  rfl
/-- What an operation's cells show. -/
theorem op_fz {G : Heap} {wb : AV} {st : Int} {P : Nat → Bool} (h : Row true G wb (oL st)) (hP : ∀ j, isAt wb j = true → P j = true) :
    ∃ xs', Fz P 2 G [.int .u8 (oK st).toNat, .str (oKey st), .str [], .int .i64 (oN st), wb] xs' ∧ hfrees xs' = true ∧ fgs xs' = Cel.enc (opn st) := op_fz0 (kd := oK st) (key := oKey st) (n := oN st) h hP
/-- Cells are left behind. -/
theorem leave_fz {P : Nat → Bool} {d : Nat} {G : Heap} {cs cs' : List AV} (h : Fz P d G cs cs') (hd : d ≤ 900) (hf : hfrees cs' = true) : leave G (.agg cs) = some (.agg (fgs cs')) := by
  have h1 : mapO (frz G 999) cs = some cs' := by
    have := h (999 - d)
    rw [show 999 - d + d = 999 by omega] at this
    exact mapO_mono (frz_mono (fun id c hc => ((mask_get _ _ _ _).1 hc).2) 999) _ _ this
  by_cases hfr : hfrees cs = true
  · have : cs' = cs := by
      rw [mapO_frz 998 cs hfr] at h1
      exact (Option.some.inj h1).symm
    subst this
    rw [leave_f (show hfree (.agg cs') = true from hf)]
    rfl
  · have hfr' : hfree (.agg cs) = false := by
      show hfrees cs = false
      simpa using hfr
    have e : frz G 1000 (.agg cs) = some (.agg cs') := by
      rw [show (1000 : Nat) = 999 + 1 from rfl, frz]
      simp only [hfr', cond_false, h1, Option.map_some]
    unfold leave
    rw [e]
    simp only [down_f (show hfree (.agg cs') = true from hf), Option.map_some, fg]
end Go.AS.Sd

namespace Go.AS.Sd
open Go Go.AS Go.Proofs
set_option maxHeartbeats 4000000
set_option maxRecDepth 100000
abbrev z11 : List AV := [.int .i64 0, .int .i64 0, .int .i64 0, .int .i64 0, .int .i64 0, .int .i64 0, .int .i64 0, .int .i64 0, .int .i64 0, .imm true 0 0 (some 0) [], .imm true 0 0 (some 0) []]
theorem bz9 {H : Heap} {a b c d e f g h i : AV} : opV H (.build z11 [(0, 9, .c (.agg [a, b, c, d, e, f, g, h, i]))]) = some (.agg [a, b, c, d, e, f, g, h, i, .imm true 0 0 (some 0) [], .imm true 0 0 (some 0) []], H) := rfl
theorem bsl5 {H : Heap} {z a b c d e : AV} {zs : List AV} : opV H (.bsl false 5 1 [z, z, z, z, z] [(0, 5, .c (.agg [a, b, c, d, e]))]) = some (.imm false 5 1 (some 1) [a, b, c, d, e], H) := rfl
theorem op_px {H : Heap} {S : Stack} {k : Nat} {st : Int} (hk : hat H k = .cells [.int .u64 st]) : ∃ (kd : UInt8) (key : Str) (n : Int) (l : List Msg) (st2 : Int) (w : AV) (H' : Heap), opn st = ⟨kd, key, [], n, ⟨l.isEmpty, l⟩⟩ ∧ st2 = oS st ∧
    Rets F (.func (.func 27) [] []) [.ptr k 1 0] (H :: S) (.agg [.int .u8 kd.toNat, .str key, .str [], .int .i64 n, w]) (H' :: S) ∧ hat H' k = .cells [.int .u64 st2] ∧ Kp k H H' ∧ Row true H' w l ∧ ∀ j, j < H.length → isAt w j = false := by
  obtain ⟨v, S', r, w, H', rfl, rfl, h1, h2, h3, h4⟩ := op_p (S := S) hk
  exact ⟨_, _, _, _, _, w, H', rfl, rfl, r, h1, h2, h3, h4⟩
theorem op_rx {H : Heap} {S : Stack} {k : Nat} {st : Int} (hk : hat H k = .cells [.int .u64 st]) : ∃ (kd : UInt8) (key : Str) (n : Int) (l : List Msg) (st2 : Int) (w : AV) (H' : Heap), opn st = ⟨kd, key, [], n, ⟨l.isEmpty, l⟩⟩ ∧ st2 = oS st ∧
    Rets F (.func (.func 28) [] []) [.ptr k 1 0] (H :: S) (.agg [.int .u8 kd.toNat, .str key, .str [], .int .i64 n, w]) (H' :: S) ∧ hat H' k = .cells [.int .u64 st2] ∧ Kp k H H' ∧ Row true H' w l ∧ ∀ j, j < H.length → isAt w j = false := by
  obtain ⟨v, S', r, w, H', rfl, rfl, h1, h2, h3, h4⟩ := op_r (S := S) hk
  exact ⟨_, _, _, _, _, w, H', rfl, rfl, r, h1, h2, h3, h4⟩
theorem bslW {P : Nat → Bool} {d : Nat} {nl : Bool} {G : Heap} {w z : AV} {l : List Opn} (h : RowD P d nl G w l) {H : Heap} : opV H (.bsl false 1 1 [z] [(0, 1, .c w)]) = some (.imm false 1 1 (some 1) [w], H) := by
  rcases h with ⟨_, rfl⟩ | ⟨id, cs, cs', h1, h2, rfl, h4, h5, h6, h7, h8⟩ <;> rfl
theorem one_9 {a0 a1 a2 a3 a4 a5 a6 a7 a8 a b : AV} (h : cellsOf a = some [a]) : one none [a0, a1, a2, a3, a4, a5, a6, a7, a8, a, b] 9 = some a := rfl
theorem sp11_9 {a0 a1 a2 a3 a4 a5 a6 a7 a8 a b v : AV} : splice [a0, a1, a2, a3, a4, a5, a6, a7, a8, a, b] 9 [v] = [a0, a1, a2, a3, a4, a5, a6, a7, a8, v, b] := rfl
theorem sp11_10 {a0 a1 a2 a3 a4 a5 a6 a7 a8 a b v : AV} : splice [a0, a1, a2, a3, a4, a5, a6, a7, a8, a, b] 10 [v] = [a0, a1, a2, a3, a4, a5, a6, a7, a8, a, v] := rfl
theorem one11 {a0 a1 a2 a3 a4 a5 a6 a7 a8 a b : AV} : one (some 11) [a0, a1, a2, a3, a4, a5, a6, a7, a8, a, b] 0 = some (.agg [a0, a1, a2, a3, a4, a5, a6, a7, a8, a, b]) := rfl
theorem fin_cell {i n id : Nat} {m : Option Nat} {cs : List AV} {v r : AV} {x : IX} {e : Env} {G : Heap} (hx : x = .normal ∨ x = .ret) (he : Env.get e i = .ptr id n 0) (hh : hat G id = .cells cs) (hn : Nat.beq cs.length n = true)
    (hv : one m cs 0 = some r) (hl : leave G r = some v) : Fin [.cell i m] v x e [G] := by
  have h2 := hat_lt (by intro h; cases h) hh
  exact ⟨hx, G, r, rfl, by simp only [resultsA, mapO, resultA, he, h2, hn, cond_true, hv], hl⟩
theorem scL_ne (nl : Bool) (m : Nat) (st : Int) (j : Nat) (h : 1 ≤ j) : (scL nl m st j).isEmpty = false := by
  have := scL_len nl m st j
  cases hs : scL nl m st j with
  | nil => rw [hs] at this; simp at this; omega
  | cons a b => rfl
theorem scr_leave {nl : Bool} {H' : Heap} {wo v : AV} {x0 x1 x2 x3 x4 x5 x6 x7 x8 : Int} {L : List (Sl Opn)} {K : List Int} (f5 : RowD P3 4 true H' wo L) (o3 : Row nl H' v K) (hv : ∀ j, isAt v j = true → 3 ≤ j) (hL : L.isEmpty = false) {c2 c0 : AObj} :
    leave (hset (hset H' 2 c2) 0 c0) (.agg [.int .i64 x0, .int .i64 x1, .int .i64 x2, .int .i64 x3, .int .i64 x4, .int .i64 x5, .int .i64 x6, .int .i64 x7, .int .i64 x8, wo, v]) = some (.agg (Cel.enc (Scr.mk ⟨x0, x1, x2, x3, x4, x5, x6, x7, x8⟩ ⟨false, L⟩ ⟨nl && K.isEmpty, K⟩))) := by
  have hP : ∀ i, i < H'.length → P3 i = true → P3 i = true ∧ hat (hset (hset H' 2 c2) 0 c0) i = hat H' i := fun i _ hp => by
    have := P3_i.1 hp
    exact ⟨hp, (hat_hset_ne _ (by omega)).trans (hat_hset_ne _ (by omega))⟩
  obtain ⟨r1, a1, a2, a3⟩ := f5.fz
  obtain ⟨r2, b1, b2, b3⟩ := o3.fz (P := P3) fun j hj => P3_i.2 (hv j hj)
  have A : Fz P3 6 (hset (hset H' 2 c2) 0 c0) [wo] [r1] := a1.to hP
  have B : Fz P3 6 (hset (hset H' 2 c2) 0 c0) [v] [r2] := (b1.to hP).up 4
  have C : Fz P3 6 (hset (hset H' 2 c2) 0 c0) ([.int .i64 x0, .int .i64 x1, .int .i64 x2, .int .i64 x3, .int .i64 x4, .int .i64 x5, .int .i64 x6, .int .i64 x7, .int .i64 x8] : List AV) ([.int .i64 x0, .int .i64 x1, .int .i64 x2, .int .i64 x3, .int .i64 x4, .int .i64 x5, .int .i64 x6, .int .i64 x7, .int .i64 x8] : List AV) := (Fz.free rfl).up 5
  have h := leave_fz ((C.app A).app B) (by omega) (hfrees_app2 (hfrees_app2 rfl (by simp [hfrees, a2])) (by simp [hfrees, b2]))
  rw [fgs_app2, fgs_app2] at h
  have e1 : fgs [r1] = [sl false L] := by show [fg r1] = _; rw [a3, hL]; rfl
  have e2 : fgs [r2] = [sl (nl && K.isEmpty) K] := by show [fg r2] = _; rw [b3]
  rw [e1, e2] at h
  exact h
theorem script_p (s ss ops picks : Int) : Gives F 37 [.int .u64 s, .int .i64 ss, .int .i64 ops, .int .i64 picks] (.agg (Cel.enc (scr true s ss ops picks))) := by
  refine Gives.of fn_seed_Script rfl rfl (args' := [.int .u64 s, .int .i64 ss, .int .i64 ops, .int .i64 picks]) (by simp only [mapO_nil, mapO_c2, consO_some, upf_v]) ?_
  simp only [ir_seed_Script]
  obtain ⟨c, hc⟩ : ∃ c, c = cfgV s := ⟨_, rfl⟩
  have hcf := config_p s
  rw [← hc] at hcf
  obtain ⟨n1, n2, n3⟩ := sCnt_b ss
  obtain ⟨m1, m2⟩ := oCnt_b ops
  have e1 := clamp_p ss 1 64
  have e2 := clamp_p ops 0 100
  rw [← n3] at e1
  rw [← m2] at e2
  have hS : scr true s ss ops picks = ⟨c, ⟨false, scL true (oCnt ops) s (sCnt ss)⟩, ⟨true && (pkL (sCnt ss) (scS (oCnt ops) s (sCnt ss)) (pkN picks)).isEmpty, pkL (sCnt ss) (scS (oCnt ops) s (sCnt ss)) (pkN picks)⟩⟩ := by rw [hc]; rfl
  rw [hS]
  clear hS hc
  obtain ⟨x0, x1, x2, x3, x4, x5, x6, x7, x8⟩ := c
  have hcf : Gives F 40 [.int .u64 s] (.agg [.int .i64 x0, .int .i64 x1, .int .i64 x2, .int .i64 x3, .int .i64 x4, .int .i64 x5, .int .i64 x6, .int .i64 x7, .int .i64 x8]) := hcf
  simp -failIfUnchanged (disch := first | assumption | omega | (refine room_i _ _ ?_ ?_ <;> omega) | (refine @_root_.id _ ?_; with_unfolding_all exact Eq.refl _) | (simp only [List.length_take, List.length_drop, List.length_append, List.length_cons, List.length_nil, List.length_replicate, List.length_map] <;> omega) | fail) only [rnL, opL, ruL, hpL, rsL, natL, outL, Nat.add_sub_cancel_left, Nat.mul_one, List.length_cons, List.length_nil, Nat.zero_add, Nat.add_zero, Nat.reduceAdd, Nat.reduceMul, Nat.reduceSub, Nat.reduceEqDiff, Nat.reduceLT, Nat.reduceLeDiff, litd_t, litd_f, decide_true, decide_false, Bool.not_true, Bool.not_false, not_true_eq_false, not_false_eq_true, true_and, and_true, false_and, and_false, true_or, or_true, false_or, or_false, Int.toNat_natCast, cond_true, cond_false, List.map_cons, List.map_nil, Option.map_some, Option.map_none]
  refine RunC_r (new_p (H := [_])) ?_
  simp -failIfUnchanged (disch := first | assumption | omega | (refine room_i _ _ ?_ ?_ <;> omega) | (refine @_root_.id _ ?_; with_unfolding_all exact Eq.refl _) | (simp only [List.length_take, List.length_drop, List.length_append, List.length_cons, List.length_nil, List.length_replicate, List.length_map] <;> omega) | fail) only [rnL, opL, ruL, hpL, rsL, natL, outL, Nat.add_sub_cancel_left, Nat.mul_one, List.length_cons, List.length_nil, Nat.zero_add, Nat.add_zero, Nat.reduceAdd, Nat.reduceMul, Nat.reduceSub, Nat.reduceEqDiff, Nat.reduceLT, Nat.reduceLeDiff, litd_t, litd_f, decide_true, decide_false, Bool.not_true, Bool.not_false, not_true_eq_false, not_false_eq_true, true_and, and_true, false_and, and_false, true_or, or_true, false_or, or_false, Int.toNat_natCast, cond_true, cond_false, List.map_cons, List.map_nil, Option.map_some, Option.map_none, e1.isp, hcf.isp, bz9]
  refine Run_loop (σ := Nat × Heap × AV) (fun σ => [(0, .int .u64 s), (1, .int .i64 (sCnt ss : Nat)), (2, .int .i64 ops), (3, .int .i64 picks), (8, .ptr 0 11 0), (9, .ptr 1 1 0), (10, .ptr 2 11 0), (19, .int .i64 (sCnt ss : Nat)), (20, .int .i64 (σ.1 : Nat))])
    (fun σ => [σ.2.1]) (fun σ => σ.1 ≤ sCnt ss ∧ hat σ.2.1 1 = .cells [.int .u64 (scS (oCnt ops) s σ.1)] ∧ hat σ.2.1 0 = .cells z11 ∧ hat σ.2.1 2 = .cells [.int .i64 x0, .int .i64 x1, .int .i64 x2, .int .i64 x3, .int .i64 x4, .int .i64 x5, .int .i64 x6, .int .i64 x7, .int .i64 x8, σ.2.2, .imm true 0 0 (some 0) []] ∧ 3 ≤ σ.2.1.length ∧ RowD P3 4 true σ.2.1 σ.2.2 (scL true (oCnt ops) s σ.1))
    (fun σ => sCnt ss - σ.1) (0, _, .imm true 0 0 (some 0) []) ?_ rfl ⟨Nat.zero_le _, rfl, rfl, rfl, Nat.le_refl _, RowD.nil⟩ ?_
  · rfl
  rintro ⟨j, G0, wo⟩ ⟨hj, g1, g2, g3, g4, g5⟩
  simp only at hj g1 g2 g3 g4 g5
  simp -failIfUnchanged (disch := first | assumption | omega | (refine room_i _ _ ?_ ?_ <;> omega) | (refine @_root_.id _ ?_; with_unfolding_all exact Eq.refl _) | (simp only [List.length_take, List.length_drop, List.length_append, List.length_cons, List.length_nil, List.length_replicate, List.length_map] <;> omega) | fail) only [rnL, opL, ruL, hpL, rsL, natL, outL, Nat.add_sub_cancel_left, Nat.mul_one, List.length_cons, List.length_nil, Nat.zero_add, Nat.add_zero, Nat.reduceAdd, Nat.reduceMul, Nat.reduceSub, Nat.reduceEqDiff, Nat.reduceLT, Nat.reduceLeDiff, litd_t, litd_f, decide_true, decide_false, Bool.not_true, Bool.not_false, not_true_eq_false, not_false_eq_true, true_and, and_true, false_and, and_false, true_or, or_true, false_or, or_false, Int.toNat_natCast, cond_true, cond_false, List.map_cons, List.map_nil, Option.map_some, Option.map_none]
  (first | refine RunB_i (fun h3 => ?_) (fun h3 => ?_) | refine RunG_i (fun h3 => ?_) (fun h3 => ?_) | refine RunB_ib (fun h3 => ?_) (fun h3 => ?_))
  · have hsl := scL_len true (oCnt ops) s j
    obtain ⟨st, hst⟩ : ∃ st, st = scS (oCnt ops) s j := ⟨_, rfl⟩
    rw [← hst] at g1
    simp -failIfUnchanged (disch := first | assumption | omega | (refine room_i _ _ ?_ ?_ <;> omega) | (refine @_root_.id _ ?_; with_unfolding_all exact Eq.refl _) | (simp only [List.length_take, List.length_drop, List.length_append, List.length_cons, List.length_nil, List.length_replicate, List.length_map] <;> omega) | fail) only [rnL, opL, ruL, hpL, rsL, natL, outL, Nat.add_sub_cancel_left, Nat.mul_one, List.length_cons, List.length_nil, Nat.zero_add, Nat.add_zero, Nat.reduceAdd, Nat.reduceMul, Nat.reduceSub, Nat.reduceEqDiff, Nat.reduceLT, Nat.reduceLeDiff, litd_t, litd_f, decide_true, decide_false, Bool.not_true, Bool.not_false, not_true_eq_false, not_false_eq_true, true_and, and_true, false_and, and_false, true_or, or_true, false_or, or_false, Int.toNat_natCast, cond_true, cond_false, List.map_cons, List.map_nil, Option.map_some, Option.map_none, e2.isp]
    refine Run_loop (σ := Nat × Heap × AV) (fun σ => [(0, .int .u64 s), (1, .int .i64 (sCnt ss : Nat)), (2, .int .i64 ops), (3, .int .i64 picks), (8, .ptr 0 11 0), (9, .ptr 1 1 0), (10, .ptr 2 11 0), (11, σ.2.2), (19, .int .i64 (sCnt ss : Nat)), (20, .int .i64 (j : Nat)), (21, .bool true), (23, .int .i64 (oCnt ops : Nat)), (24, .int .i64 (σ.1 : Nat))])
      (fun σ => [σ.2.1]) (fun σ => σ.1 ≤ oCnt ops ∧ hat σ.2.1 1 = .cells [.int .u64 (osF st σ.1)] ∧ hat σ.2.1 0 = .cells z11 ∧ hat σ.2.1 2 = .cells [.int .i64 x0, .int .i64 x1, .int .i64 x2, .int .i64 x3, .int .i64 x4, .int .i64 x5, .int .i64 x6, .int .i64 x7, .int .i64 x8, wo, .imm true 0 0 (some 0) []] ∧ 3 ≤ σ.2.1.length ∧
        RowD (fun i => P3 i && !(isAt σ.2.2 i)) 4 true σ.2.1 wo (scL true (oCnt ops) s j) ∧ RowD (fun i => P3 i && !(isAt wo i)) 2 true σ.2.1 σ.2.2 (opsL st σ.1))
      (fun σ => oCnt ops - σ.1) (0, _, .imm true 0 0 (some 0) []) ?_ rfl ⟨Nat.zero_le _, g1, g2, g3, g4, ?_, RowD.nil⟩ ?_
    · rfl
    · exact g5.to (Nat.le_refl _) fun i _ hp => ⟨by simp only [hp, isAt, Bool.not_false, Bool.and_self], rfl⟩
    rintro ⟨i, G, w⟩ ⟨hi, k1, k2, k3, k4, k5, k6⟩
    simp only at hi k1 k2 k3 k4 k5 k6
    simp -failIfUnchanged (disch := first | assumption | omega | (refine room_i _ _ ?_ ?_ <;> omega) | (refine @_root_.id _ ?_; with_unfolding_all exact Eq.refl _) | (simp only [List.length_take, List.length_drop, List.length_append, List.length_cons, List.length_nil, List.length_replicate, List.length_map] <;> omega) | fail) only [rnL, opL, ruL, hpL, rsL, natL, outL, Nat.add_sub_cancel_left, Nat.mul_one, List.length_cons, List.length_nil, Nat.zero_add, Nat.add_zero, Nat.reduceAdd, Nat.reduceMul, Nat.reduceSub, Nat.reduceEqDiff, Nat.reduceLT, Nat.reduceLeDiff, litd_t, litd_f, decide_true, decide_false, Bool.not_true, Bool.not_false, not_true_eq_false, not_false_eq_true, true_and, and_true, false_and, and_false, true_or, or_true, false_or, or_false, Int.toNat_natCast, cond_true, cond_false, List.map_cons, List.map_nil, Option.map_some, Option.map_none]
    (first | refine RunB_i (fun h4 => ?_) (fun h4 => ?_) | refine RunG_i (fun h4 => ?_) (fun h4 => ?_) | refine RunB_ib (fun h4 => ?_) (fun h4 => ?_))
    · have hol := opsL_len st i
      obtain ⟨kd, key, n, l, st2, wb, G1, ho, hs2, r1, o1, o2, o3, o4⟩ := op_px (S := []) k1
      have q0 : hat G1 0 = _ := (o2.at_ 0 (by omega) (by decide)).trans k2
      have q2 : hat G1 2 = _ := (o2.at_ 2 (by omega) (by decide)).trans k3
      have ql := o2.len
      have f5 : RowD (fun i => P3 i && !(isAt w i)) 4 true G1 wo (scL true (oCnt ops) s j) := k5.to ql fun i hi hp => ⟨hp, o2.at_ i hi (by simp only [Bool.and_eq_true, P3_i] at hp; omega)⟩
      have f6 : RowD (fun i => P3 i && !(isAt wo i)) 2 true G1 w (opsL st i) := k6.to ql fun i hi hp => ⟨hp, o2.at_ i hi (by simp only [Bool.and_eq_true, P3_i] at hp; omega)⟩
      obtain ⟨xs', z1, z2, z3⟩ := op_fz0 (kd := kd) (key := key) (n := n) (P := fun i => (P3 i && !(isAt wo i)) && !(isAt w i)) o3 fun t ht => by
        have ht2 : G.length ≤ t := Nat.le_of_not_lt fun h => by rw [o4 t h] at ht; cases ht
        have a1 : isAt wo t = false := by
          cases h : isAt wo t with
          | false => rfl
          | true => have := (k5.isAt h).2; omega
        have a2 : isAt w t = false := by
          cases h : isAt w t with
          | false => rfl
          | true => have := (k6.isAt h).2; omega
        simp only [Bool.and_eq_true, P3_i, a1, a2, Bool.not_false, and_true]
        omega
      rw [← ho] at z3
      have hnew : (fun i => P3 i && !(isAt wo i)) G1.length = true := by
        have a1 : isAt wo G1.length = false := by
          cases h : isAt wo G1.length with
          | false => rfl
          | true => have := (k5.isAt h).2; omega
        simp only [Bool.and_eq_true, P3_i, a1, Bool.not_false, and_true]
        omega
      obtain ⟨w', G2, ha, hR, hK⟩ := RowD.append (es := 5) (bytes := 72) (opn (osF st i)) _ xs' f6 rfl rfl (by refine room_i _ _ ?_ ?_ <;> omega) rfl z1 z2 z3 hnew
      have nw : ∀ t, t < 3 → isAt w t = false := fun t ht => by
        cases h : isAt w t with
        | false => rfl
        | true => have := (k6.isAt h).1; simp only [Bool.and_eq_true, P3_i] at this; omega
      have p1 : hat G2 1 = .cells [.int .u64 st2] := (hK.same 1 (by omega) (nw 1 (by omega))).trans o1
      have p0 : hat G2 0 = _ := (hK.same 0 (by omega) (nw 0 (by omega))).trans q0
      have p2 : hat G2 2 = _ := (hK.same 2 (by omega) (nw 2 (by omega))).trans q2
      have pl := hK.len
      simp -failIfUnchanged (disch := first | assumption | omega | (refine room_i _ _ ?_ ?_ <;> omega) | (refine @_root_.id _ ?_; with_unfolding_all exact Eq.refl _) | (simp only [List.length_take, List.length_drop, List.length_append, List.length_cons, List.length_nil, List.length_replicate, List.length_map] <;> omega) | fail) only [rnL, opL, ruL, hpL, rsL, natL, outL, Nat.add_sub_cancel_left, Nat.mul_one, List.length_cons, List.length_nil, Nat.zero_add, Nat.add_zero, Nat.reduceAdd, Nat.reduceMul, Nat.reduceSub, Nat.reduceEqDiff, Nat.reduceLT, Nat.reduceLeDiff, litd_t, litd_f, decide_true, decide_false, Bool.not_true, Bool.not_false, not_true_eq_false, not_false_eq_true, true_and, and_true, false_and, and_false, true_or, or_true, false_or, or_false, Int.toNat_natCast, cond_true, cond_false, List.map_cons, List.map_nil, Option.map_some, Option.map_none]
      refine RunC_r r1 ?_
      simp -failIfUnchanged (disch := first | assumption | omega | (refine room_i _ _ ?_ ?_ <;> omega) | (refine @_root_.id _ ?_; with_unfolding_all exact Eq.refl _) | (simp only [List.length_take, List.length_drop, List.length_append, List.length_cons, List.length_nil, List.length_replicate, List.length_map] <;> omega) | fail) only [rnL, opL, ruL, hpL, rsL, natL, outL, Nat.add_sub_cancel_left, Nat.mul_one, List.length_cons, List.length_nil, Nat.zero_add, Nat.add_zero, Nat.reduceAdd, Nat.reduceMul, Nat.reduceSub, Nat.reduceEqDiff, Nat.reduceLT, Nat.reduceLeDiff, litd_t, litd_f, decide_true, decide_false, Bool.not_true, Bool.not_false, not_true_eq_false, not_false_eq_true, true_and, and_true, false_and, and_false, true_or, or_true, false_or, or_false, Int.toNat_natCast, cond_true, cond_false, List.map_cons, List.map_nil, Option.map_some, Option.map_none, bsl5, ha]
      refine Next.i (i + 1, G2, w') ?_ rfl ⟨by show i + 1 ≤ _; omega, ?_, p0, p2, by show 3 ≤ G2.length; omega, ?_, hR⟩ (by show oCnt ops - (i + 1) < oCnt ops - i; omega)
      · simp -failIfUnchanged (disch := first | assumption | omega | (refine room_i _ _ ?_ ?_ <;> omega) | (refine @_root_.id _ ?_; with_unfolding_all exact Eq.refl _) | (simp only [List.length_take, List.length_drop, List.length_append, List.length_cons, List.length_nil, List.length_replicate, List.length_map] <;> omega) | fail) only [rnL, opL, ruL, hpL, rsL, natL, outL, Nat.add_sub_cancel_left, Nat.mul_one, List.length_cons, List.length_nil, Nat.zero_add, Nat.add_zero, Nat.reduceAdd, Nat.reduceMul, Nat.reduceSub, Nat.reduceEqDiff, Nat.reduceLT, Nat.reduceLeDiff, litd_t, litd_f, decide_true, decide_false, Bool.not_true, Bool.not_false, not_true_eq_false, not_false_eq_true, true_and, and_true, false_and, and_false, true_or, or_true, false_or, or_false, Int.toNat_natCast, cond_true, cond_false, List.map_cons, List.map_nil, Option.map_some, Option.map_none]
      · show hat G2 1 = _
        rw [p1, hs2]; rfl
      · refine f5.to pl fun t ht hp => ?_
        simp only [Bool.and_eq_true, Bool.not_eq_true'] at hp ⊢
        exact ⟨⟨hp.1, hK.at_ t ht hp.2⟩, hK.same t ht hp.2⟩
    · have hi2 : i = oCnt ops := by omega
      subst hi2
      have hol := opsL_len st (oCnt ops)
      have u5 : RowD P3 4 true G wo (scL true (oCnt ops) s j) := k5.to (Nat.le_refl _) fun t _ hp => by
        simp only [Bool.and_eq_true] at hp
        exact ⟨hp.1, rfl⟩
      obtain ⟨r, v1, v2, v3⟩ := k6.fz
      obtain ⟨w', G2, ha, hR, hK⟩ := RowD.append (es := 1) (bytes := 24) (⟨true && (opsL st (oCnt ops)).isEmpty, opsL st (oCnt ops)⟩ : Sl Opn) [w] [r] u5 rfl rfl (by refine room_i _ _ ?_ ?_ <;> omega) rfl v1 (by simp only [hfrees, v2, Bool.and_self]) (by show [fg r] = _; rw [v3]; rfl) (P3_i.2 k4)
      have nw : ∀ t, t < 3 → isAt wo t = false := fun t ht => by
        cases h : isAt wo t with
        | false => rfl
        | true => have := P3_i.1 (u5.isAt h).1; omega
      have p1 : hat G2 1 = _ := (hK.same 1 (by omega) (nw 1 (by omega))).trans k1
      have p0 : hat G2 0 = _ := (hK.same 0 (by omega) (nw 0 (by omega))).trans k2
      have p2 : hat G2 2 = _ := (hK.same 2 (by omega) (nw 2 (by omega))).trans k3
      have pl := hK.len
      have hw1 : cellsOf w' = some [w'] := hR.one
      have hw0 := one_9 (a0 := .int .i64 x0) (a1 := .int .i64 x1) (a2 := .int .i64 x2) (a3 := .int .i64 x3) (a4 := .int .i64 x4) (a5 := .int .i64 x5) (a6 := .int .i64 x6) (a7 := .int .i64 x7) (a8 := .int .i64 x8) (b := .imm true 0 0 (some 0) []) u5.one
      simp -failIfUnchanged (disch := first | assumption | omega | (refine room_i _ _ ?_ ?_ <;> omega) | (refine @_root_.id _ ?_; with_unfolding_all exact Eq.refl _) | (simp only [List.length_take, List.length_drop, List.length_append, List.length_cons, List.length_nil, List.length_replicate, List.length_map] <;> omega) | fail) only [rnL, opL, ruL, hpL, rsL, natL, outL, Nat.add_sub_cancel_left, Nat.mul_one, List.length_cons, List.length_nil, Nat.zero_add, Nat.add_zero, Nat.reduceAdd, Nat.reduceMul, Nat.reduceSub, Nat.reduceEqDiff, Nat.reduceLT, Nat.reduceLeDiff, litd_t, litd_f, decide_true, decide_false, Bool.not_true, Bool.not_false, not_true_eq_false, not_false_eq_true, true_and, and_true, false_and, and_false, true_or, or_true, false_or, or_false, Int.toNat_natCast, cond_true, cond_false, List.map_cons, List.map_nil, Option.map_some, Option.map_none, k3, hw0, bslW k6, ha, p2, hw1, sp11_9]
      refine Next.i (j + 1, hset G2 2 (.cells [.int .i64 x0, .int .i64 x1, .int .i64 x2, .int .i64 x3, .int .i64 x4, .int .i64 x5, .int .i64 x6, .int .i64 x7, .int .i64 x8, w', .imm true 0 0 (some 0) []]), w') ?_ rfl ⟨by show j + 1 ≤ _; omega, ?_, ?_, ?_, ?_, ?_⟩ (by show sCnt ss - (j + 1) < sCnt ss - j; omega)
      · simp -failIfUnchanged (disch := first | assumption | omega | (refine room_i _ _ ?_ ?_ <;> omega) | (refine @_root_.id _ ?_; with_unfolding_all exact Eq.refl _) | (simp only [List.length_take, List.length_drop, List.length_append, List.length_cons, List.length_nil, List.length_replicate, List.length_map] <;> omega) | fail) only [rnL, opL, ruL, hpL, rsL, natL, outL, Nat.add_sub_cancel_left, Nat.mul_one, List.length_cons, List.length_nil, Nat.zero_add, Nat.add_zero, Nat.reduceAdd, Nat.reduceMul, Nat.reduceSub, Nat.reduceEqDiff, Nat.reduceLT, Nat.reduceLeDiff, litd_t, litd_f, decide_true, decide_false, Bool.not_true, Bool.not_false, not_true_eq_false, not_false_eq_true, true_and, and_true, false_and, and_false, true_or, or_true, false_or, or_false, Int.toNat_natCast, cond_true, cond_false, List.map_cons, List.map_nil, Option.map_some, Option.map_none]
      · show hat (hset G2 2 _) 1 = _
        rw [hat_hset_ne _ (by decide), p1, hst]; rfl
      · show hat (hset G2 2 _) 0 = _
        rw [hat_hset_ne _ (by decide), p0]
      · exact hat_hset_eq _ (by omega)
      · show 3 ≤ (hset G2 2 _).length
        rw [hset_len]; omega
      · show RowD P3 4 true (hset G2 2 _) w' (scL true (oCnt ops) s j ++ [⟨true && (opsL (scS (oCnt ops) s j) (oCnt ops)).isEmpty, opsL (scS (oCnt ops) s j) (oCnt ops)⟩])
        rw [← hst]
        exact hR.to (by rw [hset_len]; exact Nat.le_refl _) fun t _ hp => ⟨hp, hat_hset_ne _ (by have := P3_i.1 hp; omega)⟩
  · have hj2 : j = sCnt ss := by omega
    subst hj2
    obtain ⟨v, S', r1, H', rfl, o1, o2, o3, o4⟩ := picks_p (S := []) (n := picks) g1 (ss := (sCnt ss : Nat)) (by omega) (by omega)
    have q0 : hat H' 0 = _ := (o2.at_ 0 (by omega) (by decide)).trans g2
    have q2 : hat H' 2 = _ := (o2.at_ 2 (by omega) (by decide)).trans g3
    have ql := o2.len
    have hpl := pkL_len (sCnt ss : Nat) (scS (oCnt ops) s (sCnt ss)) (pkN picks)
    have f5 : RowD P3 4 true H' wo (scL true (oCnt ops) s (sCnt ss)) := g5.to ql fun i hi hp => ⟨hp, o2.at_ i hi (by have := P3_i.1 hp; omega)⟩
    have hv1 : cellsOf v = some [v] := rowOne o3
    simp -failIfUnchanged (disch := first | assumption | omega | (refine room_i _ _ ?_ ?_ <;> omega) | (refine @_root_.id _ ?_; with_unfolding_all exact Eq.refl _) | (simp only [List.length_take, List.length_drop, List.length_append, List.length_cons, List.length_nil, List.length_replicate, List.length_map] <;> omega) | fail) only [rnL, opL, ruL, hpL, rsL, natL, outL, Nat.add_sub_cancel_left, Nat.mul_one, List.length_cons, List.length_nil, Nat.zero_add, Nat.add_zero, Nat.reduceAdd, Nat.reduceMul, Nat.reduceSub, Nat.reduceEqDiff, Nat.reduceLT, Nat.reduceLeDiff, litd_t, litd_f, decide_true, decide_false, Bool.not_true, Bool.not_false, not_true_eq_false, not_false_eq_true, true_and, and_true, false_and, and_false, true_or, or_true, false_or, or_false, Int.toNat_natCast, cond_true, cond_false, List.map_cons, List.map_nil, Option.map_some, Option.map_none]
    refine RunC_r r1 ?_
    have q3 : ∀ o, hat (hset H' 2 o) 0 = .cells z11 := fun o => (hat_hset_ne _ (by decide)).trans q0
    have q4 : ∀ o, hat (hset H' 2 o) 2 = o := fun o => hat_hset_eq _ (by omega)
    simp -failIfUnchanged (disch := first | assumption | omega | (refine room_i _ _ ?_ ?_ <;> omega) | (refine @_root_.id _ ?_; with_unfolding_all exact Eq.refl _) | (simp only [List.length_take, List.length_drop, List.length_append, List.length_cons, List.length_nil, List.length_replicate, List.length_map] <;> omega) | fail) only [rnL, opL, ruL, hpL, rsL, natL, outL, Nat.add_sub_cancel_left, Nat.mul_one, List.length_cons, List.length_nil, Nat.zero_add, Nat.add_zero, Nat.reduceAdd, Nat.reduceMul, Nat.reduceSub, Nat.reduceEqDiff, Nat.reduceLT, Nat.reduceLeDiff, litd_t, litd_f, decide_true, decide_false, Bool.not_true, Bool.not_false, not_true_eq_false, not_false_eq_true, true_and, and_true, false_and, and_false, true_or, or_true, false_or, or_false, Int.toNat_natCast, cond_true, cond_false, List.map_cons, List.map_nil, Option.map_some, Option.map_none, q2, hv1, sp11_10, one11, q3, q4]
    exact fin_cell (.inr rfl) (by rfl) (hat_hset_eq _ (by rw [hset_len]; omega)) (by rfl) (by rfl) (scr_leave f5 o3 (fun t ht => by
      have : G0.length ≤ t := Nat.le_of_not_lt fun h => by rw [o4 t h] at ht; cases ht
      omega) (scL_ne _ _ _ _ n1))
end Go.AS.Sd

namespace Go.AS.Sd
open Go Go.AS Go.Proofs
set_option maxHeartbeats 4000000
set_option maxRecDepth 100000
theorem script_r (s ss ops picks : Int) : Gives F 38 [.int .u64 s, .int .i64 ss, .int .i64 ops, .int .i64 picks] (.agg (Cel.enc (scr false s ss ops picks))) := by
  refine Gives.of fn_r40_Script rfl rfl (args' := [.int .u64 s, .int .i64 ss, .int .i64 ops, .int .i64 picks]) (by simp only [mapO_nil, mapO_c2, consO_some, upf_v]) ?_
  simp only [ir_r40_Script]
  obtain ⟨c, hc⟩ : ∃ c, c = cfgV s := ⟨_, rfl⟩
  have hcf := config_r s
  rw [← hc] at hcf
  obtain ⟨n1, n2, n3⟩ := sCnt_b ss
  obtain ⟨m1, m2⟩ := oCnt_b ops
  have m3 : ∀ i : Nat, i < oCnt ops ↔ (i : Int) < ops ∧ (i : Int) < 100 := fun i => by unfold clp at m2; omega
  have e1 := clamp_r ss 1 64 (by omega)
  rw [← n3] at e1
  have hS : scr false s ss ops picks = ⟨c, ⟨false, scL false (oCnt ops) s (sCnt ss)⟩, ⟨false && (pkL (sCnt ss) (scS (oCnt ops) s (sCnt ss)) (pkN picks)).isEmpty, pkL (sCnt ss) (scS (oCnt ops) s (sCnt ss)) (pkN picks)⟩⟩ := by rw [hc]; rfl
  rw [hS]
  clear hS hc
  obtain ⟨x0, x1, x2, x3, x4, x5, x6, x7, x8⟩ := c
  have hcf : Gives F 61 [.int .u64 s] (.agg [.int .i64 x0, .int .i64 x1, .int .i64 x2, .int .i64 x3, .int .i64 x4, .int .i64 x5, .int .i64 x6, .int .i64 x7, .int .i64 x8]) := hcf
  simp -failIfUnchanged (disch := first | assumption | omega | (refine room_i _ _ ?_ ?_ <;> omega) | (refine @_root_.id _ ?_; with_unfolding_all exact Eq.refl _) | (simp only [List.length_take, List.length_drop, List.length_append, List.length_cons, List.length_nil, List.length_replicate, List.length_map] <;> omega) | fail) only [rnL, opL, ruL, hpL, rsL, natL, outL, Nat.add_sub_cancel_left, Nat.mul_one, List.length_cons, List.length_nil, Nat.zero_add, Nat.add_zero, Nat.reduceAdd, Nat.reduceMul, Nat.reduceSub, Nat.reduceEqDiff, Nat.reduceLT, Nat.reduceLeDiff, litd_t, litd_f, decide_true, decide_false, Bool.not_true, Bool.not_false, not_true_eq_false, not_false_eq_true, true_and, and_true, false_and, and_false, true_or, or_true, false_or, or_false, Int.toNat_natCast, cond_true, cond_false, List.map_cons, List.map_nil, Option.map_some, Option.map_none, bd1, bx1, e1.isp, hcf.isp, bz9]
  refine Run_loop (σ := Nat × Heap × AV) (fun σ => [(0, .int .u64 s), (1, .int .i64 ss), (2, .int .i64 ops), (3, .int .i64 picks), (8, .ptr 0 11 0), (9, .ptr 1 1 0), (10, .int .i64 (sCnt ss : Nat)), (11, .ptr 2 11 0), (12, .int .i64 (σ.1 : Nat))])
    (fun σ => [σ.2.1]) (fun σ => σ.1 ≤ sCnt ss ∧ hat σ.2.1 1 = .cells [.int .u64 (scS (oCnt ops) s σ.1)] ∧ hat σ.2.1 0 = .cells z11 ∧ hat σ.2.1 2 = .cells [.int .i64 x0, .int .i64 x1, .int .i64 x2, .int .i64 x3, .int .i64 x4, .int .i64 x5, .int .i64 x6, .int .i64 x7, .int .i64 x8, σ.2.2, .imm true 0 0 (some 0) []] ∧ 3 ≤ σ.2.1.length ∧ RowD P3 4 true σ.2.1 σ.2.2 (scL false (oCnt ops) s σ.1))
    (fun σ => sCnt ss - σ.1) (0, _, .imm true 0 0 (some 0) []) ?_ rfl ⟨Nat.zero_le _, rfl, rfl, rfl, Nat.le_refl _, RowD.nil⟩ ?_
  · rfl
  rintro ⟨j, G0, wo⟩ ⟨hj, g1, g2, g3, g4, g5⟩
  simp only at hj g1 g2 g3 g4 g5
  simp -failIfUnchanged (disch := first | assumption | omega | (refine room_i _ _ ?_ ?_ <;> omega) | (refine @_root_.id _ ?_; with_unfolding_all exact Eq.refl _) | (simp only [List.length_take, List.length_drop, List.length_append, List.length_cons, List.length_nil, List.length_replicate, List.length_map] <;> omega) | fail) only [rnL, opL, ruL, hpL, rsL, natL, outL, Nat.add_sub_cancel_left, Nat.mul_one, List.length_cons, List.length_nil, Nat.zero_add, Nat.add_zero, Nat.reduceAdd, Nat.reduceMul, Nat.reduceSub, Nat.reduceEqDiff, Nat.reduceLT, Nat.reduceLeDiff, litd_t, litd_f, decide_true, decide_false, Bool.not_true, Bool.not_false, not_true_eq_false, not_false_eq_true, true_and, and_true, false_and, and_false, true_or, or_true, false_or, or_false, Int.toNat_natCast, cond_true, cond_false, List.map_cons, List.map_nil, Option.map_some, Option.map_none]
  (first | refine RunB_i (fun h3 => ?_) (fun h3 => ?_) | refine RunG_i (fun h3 => ?_) (fun h3 => ?_) | refine RunB_ib (fun h3 => ?_) (fun h3 => ?_))
  · have hsl := scL_len false (oCnt ops) s j
    obtain ⟨st, hst⟩ : ∃ st, st = scS (oCnt ops) s j := ⟨_, rfl⟩
    rw [← hst] at g1
    simp -failIfUnchanged (disch := first | assumption | omega | (refine room_i _ _ ?_ ?_ <;> omega) | (refine @_root_.id _ ?_; with_unfolding_all exact Eq.refl _) | (simp only [List.length_take, List.length_drop, List.length_append, List.length_cons, List.length_nil, List.length_replicate, List.length_map] <;> omega) | fail) only [rnL, opL, ruL, hpL, rsL, natL, outL, Nat.add_sub_cancel_left, Nat.mul_one, List.length_cons, List.length_nil, Nat.zero_add, Nat.add_zero, Nat.reduceAdd, Nat.reduceMul, Nat.reduceSub, Nat.reduceEqDiff, Nat.reduceLT, Nat.reduceLeDiff, litd_t, litd_f, decide_true, decide_false, Bool.not_true, Bool.not_false, not_true_eq_false, not_false_eq_true, true_and, and_true, false_and, and_false, true_or, or_true, false_or, or_false, Int.toNat_natCast, cond_true, cond_false, List.map_cons, List.map_nil, Option.map_some, Option.map_none]
    refine Run_loop (σ := Nat × Heap × AV) (fun σ => [(0, .int .u64 s), (1, .int .i64 ss), (2, .int .i64 ops), (3, .int .i64 picks), (8, .ptr 0 11 0), (9, .ptr 1 1 0), (10, .int .i64 (sCnt ss : Nat)), (11, .ptr 2 11 0), (12, .int .i64 (j : Nat)), (13, σ.2.2), (14, .int .i64 (σ.1 : Nat)), (25, .bool true)])
      (fun σ => [σ.2.1]) (fun σ => σ.1 ≤ oCnt ops ∧ hat σ.2.1 1 = .cells [.int .u64 (osF st σ.1)] ∧ hat σ.2.1 0 = .cells z11 ∧ hat σ.2.1 2 = .cells [.int .i64 x0, .int .i64 x1, .int .i64 x2, .int .i64 x3, .int .i64 x4, .int .i64 x5, .int .i64 x6, .int .i64 x7, .int .i64 x8, wo, .imm true 0 0 (some 0) []] ∧ 3 ≤ σ.2.1.length ∧
        RowD (fun i => P3 i && !(isAt σ.2.2 i)) 4 true σ.2.1 wo (scL false (oCnt ops) s j) ∧ RowD (fun i => P3 i && !(isAt wo i)) 2 false σ.2.1 σ.2.2 (opsL st σ.1))
      (fun σ => oCnt ops - σ.1) (0, _, .imm false 0 0 (some 0) []) ?_ rfl ⟨Nat.zero_le _, g1, g2, g3, g4, ?_, RowD.nil⟩ ?_
    · rfl
    · exact g5.to (Nat.le_refl _) fun i _ hp => ⟨by simp only [hp, isAt, Bool.not_false, Bool.and_self], rfl⟩
    rintro ⟨i, G, w⟩ ⟨hi, k1, k2, k3, k4, k5, k6⟩
    simp only at hi k1 k2 k3 k4 k5 k6
    simp -failIfUnchanged (disch := first | assumption | omega | (refine room_i _ _ ?_ ?_ <;> omega) | (refine @_root_.id _ ?_; with_unfolding_all exact Eq.refl _) | (simp only [List.length_take, List.length_drop, List.length_append, List.length_cons, List.length_nil, List.length_replicate, List.length_map] <;> omega) | fail) only [rnL, opL, ruL, hpL, rsL, natL, outL, Nat.add_sub_cancel_left, Nat.mul_one, List.length_cons, List.length_nil, Nat.zero_add, Nat.add_zero, Nat.reduceAdd, Nat.reduceMul, Nat.reduceSub, Nat.reduceEqDiff, Nat.reduceLT, Nat.reduceLeDiff, litd_t, litd_f, decide_true, decide_false, Bool.not_true, Bool.not_false, not_true_eq_false, not_false_eq_true, true_and, and_true, false_and, and_false, true_or, or_true, false_or, or_false, Int.toNat_natCast, cond_true, cond_false, List.map_cons, List.map_nil, Option.map_some, Option.map_none]
    (first | refine RunB_i (fun h4 => ?_) (fun h4 => ?_) | refine RunG_i (fun h4 => ?_) (fun h4 => ?_) | refine RunB_ib (fun h4 => ?_) (fun h4 => ?_))
    · simp -failIfUnchanged (disch := first | assumption | omega | (refine room_i _ _ ?_ ?_ <;> omega) | (refine @_root_.id _ ?_; with_unfolding_all exact Eq.refl _) | (simp only [List.length_take, List.length_drop, List.length_append, List.length_cons, List.length_nil, List.length_replicate, List.length_map] <;> omega) | fail) only [rnL, opL, ruL, hpL, rsL, natL, outL, Nat.add_sub_cancel_left, Nat.mul_one, List.length_cons, List.length_nil, Nat.zero_add, Nat.add_zero, Nat.reduceAdd, Nat.reduceMul, Nat.reduceSub, Nat.reduceEqDiff, Nat.reduceLT, Nat.reduceLeDiff, litd_t, litd_f, decide_true, decide_false, Bool.not_true, Bool.not_false, not_true_eq_false, not_false_eq_true, true_and, and_true, false_and, and_false, true_or, or_true, false_or, or_false, Int.toNat_natCast, cond_true, cond_false, List.map_cons, List.map_nil, Option.map_some, Option.map_none]
      (first | refine RunB_i (fun h5 => ?_) (fun h5 => ?_) | refine RunG_i (fun h5 => ?_) (fun h5 => ?_) | refine RunB_ib (fun h5 => ?_) (fun h5 => ?_))
      · have hi3 : i < oCnt ops := (m3 i).2 ⟨by omega, by omega⟩
        have hol := opsL_len st i
        obtain ⟨kd, key, n, l, st2, wb, G1, ho, hs2, r1, o1, o2, o3, o4⟩ := op_rx (S := []) k1
        have q0 : hat G1 0 = _ := (o2.at_ 0 (by omega) (by decide)).trans k2
        have q2 : hat G1 2 = _ := (o2.at_ 2 (by omega) (by decide)).trans k3
        have ql := o2.len
        have f5 : RowD (fun i => P3 i && !(isAt w i)) 4 true G1 wo (scL false (oCnt ops) s j) := k5.to ql fun i hi hp => ⟨hp, o2.at_ i hi (by simp only [Bool.and_eq_true, P3_i] at hp; omega)⟩
        have f6 : RowD (fun i => P3 i && !(isAt wo i)) 2 false G1 w (opsL st i) := k6.to ql fun i hi hp => ⟨hp, o2.at_ i hi (by simp only [Bool.and_eq_true, P3_i] at hp; omega)⟩
        obtain ⟨xs', z1, z2, z3⟩ := op_fz0 (kd := kd) (key := key) (n := n) (P := fun i => (P3 i && !(isAt wo i)) && !(isAt w i)) o3 fun t ht => by
          have ht2 : G.length ≤ t := Nat.le_of_not_lt fun h => by rw [o4 t h] at ht; cases ht
          have a1 : isAt wo t = false := by
            cases h : isAt wo t with
            | false => rfl
            | true => have := (k5.isAt h).2; omega
          have a2 : isAt w t = false := by
            cases h : isAt w t with
            | false => rfl
            | true => have := (k6.isAt h).2; omega
          simp only [Bool.and_eq_true, P3_i, a1, a2, Bool.not_false, and_true]
          omega
        rw [← ho] at z3
        have hnew : (fun i => P3 i && !(isAt wo i)) G1.length = true := by
          have a1 : isAt wo G1.length = false := by
            cases h : isAt wo G1.length with
            | false => rfl
            | true => have := (k5.isAt h).2; omega
          simp only [Bool.and_eq_true, P3_i, a1, Bool.not_false, and_true]
          omega
        obtain ⟨w', G2, ha, hR, hK⟩ := RowD.append (es := 5) (bytes := 72) (opn (osF st i)) _ xs' f6 rfl rfl (by refine room_i _ _ ?_ ?_ <;> omega) rfl z1 z2 z3 hnew
        have nw : ∀ t, t < 3 → isAt w t = false := fun t ht => by
          cases h : isAt w t with
          | false => rfl
          | true => have := (k6.isAt h).1; simp only [Bool.and_eq_true, P3_i] at this; omega
        have p1 : hat G2 1 = .cells [.int .u64 st2] := (hK.same 1 (by omega) (nw 1 (by omega))).trans o1
        have p0 : hat G2 0 = _ := (hK.same 0 (by omega) (nw 0 (by omega))).trans q0
        have p2 : hat G2 2 = _ := (hK.same 2 (by omega) (nw 2 (by omega))).trans q2
        have pl := hK.len
        simp -failIfUnchanged (disch := first | assumption | omega | (refine room_i _ _ ?_ ?_ <;> omega) | (refine @_root_.id _ ?_; with_unfolding_all exact Eq.refl _) | (simp only [List.length_take, List.length_drop, List.length_append, List.length_cons, List.length_nil, List.length_replicate, List.length_map] <;> omega) | fail) only [rnL, opL, ruL, hpL, rsL, natL, outL, Nat.add_sub_cancel_left, Nat.mul_one, List.length_cons, List.length_nil, Nat.zero_add, Nat.add_zero, Nat.reduceAdd, Nat.reduceMul, Nat.reduceSub, Nat.reduceEqDiff, Nat.reduceLT, Nat.reduceLeDiff, litd_t, litd_f, decide_true, decide_false, Bool.not_true, Bool.not_false, not_true_eq_false, not_false_eq_true, true_and, and_true, false_and, and_false, true_or, or_true, false_or, or_false, Int.toNat_natCast, cond_true, cond_false, List.map_cons, List.map_nil, Option.map_some, Option.map_none]
        refine RunC_r r1 ?_
        simp -failIfUnchanged (disch := first | assumption | omega | (refine room_i _ _ ?_ ?_ <;> omega) | (refine @_root_.id _ ?_; with_unfolding_all exact Eq.refl _) | (simp only [List.length_take, List.length_drop, List.length_append, List.length_cons, List.length_nil, List.length_replicate, List.length_map] <;> omega) | fail) only [rnL, opL, ruL, hpL, rsL, natL, outL, Nat.add_sub_cancel_left, Nat.mul_one, List.length_cons, List.length_nil, Nat.zero_add, Nat.add_zero, Nat.reduceAdd, Nat.reduceMul, Nat.reduceSub, Nat.reduceEqDiff, Nat.reduceLT, Nat.reduceLeDiff, litd_t, litd_f, decide_true, decide_false, Bool.not_true, Bool.not_false, not_true_eq_false, not_false_eq_true, true_and, and_true, false_and, and_false, true_or, or_true, false_or, or_false, Int.toNat_natCast, cond_true, cond_false, List.map_cons, List.map_nil, Option.map_some, Option.map_none, bsl5, ha]
        refine Next.i (i + 1, G2, w') ?_ rfl ⟨by show i + 1 ≤ _; omega, ?_, p0, p2, by show 3 ≤ G2.length; omega, ?_, hR⟩ (by show oCnt ops - (i + 1) < oCnt ops - i; omega)
        · simp -failIfUnchanged (disch := first | assumption | omega | (refine room_i _ _ ?_ ?_ <;> omega) | (refine @_root_.id _ ?_; with_unfolding_all exact Eq.refl _) | (simp only [List.length_take, List.length_drop, List.length_append, List.length_cons, List.length_nil, List.length_replicate, List.length_map] <;> omega) | fail) only [rnL, opL, ruL, hpL, rsL, natL, outL, Nat.add_sub_cancel_left, Nat.mul_one, List.length_cons, List.length_nil, Nat.zero_add, Nat.add_zero, Nat.reduceAdd, Nat.reduceMul, Nat.reduceSub, Nat.reduceEqDiff, Nat.reduceLT, Nat.reduceLeDiff, litd_t, litd_f, decide_true, decide_false, Bool.not_true, Bool.not_false, not_true_eq_false, not_false_eq_true, true_and, and_true, false_and, and_false, true_or, or_true, false_or, or_false, Int.toNat_natCast, cond_true, cond_false, List.map_cons, List.map_nil, Option.map_some, Option.map_none]
        · show hat G2 1 = _
          rw [p1, hs2]; rfl
        · refine f5.to pl fun t ht hp => ?_
          simp only [Bool.and_eq_true, Bool.not_eq_true'] at hp ⊢
          exact ⟨⟨hp.1, hK.at_ t ht hp.2⟩, hK.same t ht hp.2⟩
      · have hi2 : i = oCnt ops := by
          rcases Nat.lt_or_ge i (oCnt ops) with h | h
          · have := (m3 i).1 h; omega
          · omega
        subst hi2
        have hol := opsL_len st (oCnt ops)
        have u5 : RowD P3 4 true G wo (scL false (oCnt ops) s j) := k5.to (Nat.le_refl _) fun t _ hp => by
          simp only [Bool.and_eq_true] at hp
          exact ⟨hp.1, rfl⟩
        obtain ⟨r, v1, v2, v3⟩ := k6.fz
        obtain ⟨w', G2, ha, hR, hK⟩ := RowD.append (es := 1) (bytes := 24) (⟨false && (opsL st (oCnt ops)).isEmpty, opsL st (oCnt ops)⟩ : Sl Opn) [w] [r] u5 rfl rfl (by refine room_i _ _ ?_ ?_ <;> omega) rfl v1 (by simp only [hfrees, v2, Bool.and_self]) (by show [fg r] = _; rw [v3]; rfl) (P3_i.2 k4)
        have nw : ∀ t, t < 3 → isAt wo t = false := fun t ht => by
          cases h : isAt wo t with
          | false => rfl
          | true => have := P3_i.1 (u5.isAt h).1; omega
        have p1 : hat G2 1 = _ := (hK.same 1 (by omega) (nw 1 (by omega))).trans k1
        have p0 : hat G2 0 = _ := (hK.same 0 (by omega) (nw 0 (by omega))).trans k2
        have p2 : hat G2 2 = _ := (hK.same 2 (by omega) (nw 2 (by omega))).trans k3
        have pl := hK.len
        have hw1 : cellsOf w' = some [w'] := hR.one
        have hw0 := one_9 (a0 := .int .i64 x0) (a1 := .int .i64 x1) (a2 := .int .i64 x2) (a3 := .int .i64 x3) (a4 := .int .i64 x4) (a5 := .int .i64 x5) (a6 := .int .i64 x6) (a7 := .int .i64 x7) (a8 := .int .i64 x8) (b := .imm true 0 0 (some 0) []) u5.one
        simp -failIfUnchanged (disch := first | assumption | omega | (refine room_i _ _ ?_ ?_ <;> omega) | (refine @_root_.id _ ?_; with_unfolding_all exact Eq.refl _) | (simp only [List.length_take, List.length_drop, List.length_append, List.length_cons, List.length_nil, List.length_replicate, List.length_map] <;> omega) | fail) only [rnL, opL, ruL, hpL, rsL, natL, outL, Nat.add_sub_cancel_left, Nat.mul_one, List.length_cons, List.length_nil, Nat.zero_add, Nat.add_zero, Nat.reduceAdd, Nat.reduceMul, Nat.reduceSub, Nat.reduceEqDiff, Nat.reduceLT, Nat.reduceLeDiff, litd_t, litd_f, decide_true, decide_false, Bool.not_true, Bool.not_false, not_true_eq_false, not_false_eq_true, true_and, and_true, false_and, and_false, true_or, or_true, false_or, or_false, Int.toNat_natCast, cond_true, cond_false, List.map_cons, List.map_nil, Option.map_some, Option.map_none, k3, hw0, bslW k6, ha, p2, hw1, sp11_9]
        refine Next.i (j + 1, hset G2 2 (.cells [.int .i64 x0, .int .i64 x1, .int .i64 x2, .int .i64 x3, .int .i64 x4, .int .i64 x5, .int .i64 x6, .int .i64 x7, .int .i64 x8, w', .imm true 0 0 (some 0) []]), w') ?_ rfl ⟨by show j + 1 ≤ _; omega, ?_, ?_, ?_, ?_, ?_⟩ (by show sCnt ss - (j + 1) < sCnt ss - j; omega)
        · simp -failIfUnchanged (disch := first | assumption | omega | (refine room_i _ _ ?_ ?_ <;> omega) | (refine @_root_.id _ ?_; with_unfolding_all exact Eq.refl _) | (simp only [List.length_take, List.length_drop, List.length_append, List.length_cons, List.length_nil, List.length_replicate, List.length_map] <;> omega) | fail) only [rnL, opL, ruL, hpL, rsL, natL, outL, Nat.add_sub_cancel_left, Nat.mul_one, List.length_cons, List.length_nil, Nat.zero_add, Nat.add_zero, Nat.reduceAdd, Nat.reduceMul, Nat.reduceSub, Nat.reduceEqDiff, Nat.reduceLT, Nat.reduceLeDiff, litd_t, litd_f, decide_true, decide_false, Bool.not_true, Bool.not_false, not_true_eq_false, not_false_eq_true, true_and, and_true, false_and, and_false, true_or, or_true, false_or, or_false, Int.toNat_natCast, cond_true, cond_false, List.map_cons, List.map_nil, Option.map_some, Option.map_none]
        · show hat (hset G2 2 _) 1 = _
          rw [hat_hset_ne _ (by decide), p1, hst]; rfl
        · show hat (hset G2 2 _) 0 = _
          rw [hat_hset_ne _ (by decide), p0]
        · exact hat_hset_eq _ (by omega)
        · show 3 ≤ (hset G2 2 _).length
          rw [hset_len]; omega
        · show RowD P3 4 true (hset G2 2 _) w' (scL false (oCnt ops) s j ++ [⟨false && (opsL (scS (oCnt ops) s j) (oCnt ops)).isEmpty, opsL (scS (oCnt ops) s j) (oCnt ops)⟩])
          rw [← hst]
          exact hR.to (by rw [hset_len]; exact Nat.le_refl _) fun t _ hp => ⟨hp, hat_hset_ne _ (by have := P3_i.1 hp; omega)⟩
    · have hi2 : i = oCnt ops := by
        rcases Nat.lt_or_ge i (oCnt ops) with h | h
        · have := (m3 i).1 h; omega
        · omega
      subst hi2
      have hol := opsL_len st (oCnt ops)
      have u5 : RowD P3 4 true G wo (scL false (oCnt ops) s j) := k5.to (Nat.le_refl _) fun t _ hp => by
        simp only [Bool.and_eq_true] at hp
        exact ⟨hp.1, rfl⟩
      obtain ⟨r, v1, v2, v3⟩ := k6.fz
      obtain ⟨w', G2, ha, hR, hK⟩ := RowD.append (es := 1) (bytes := 24) (⟨false && (opsL st (oCnt ops)).isEmpty, opsL st (oCnt ops)⟩ : Sl Opn) [w] [r] u5 rfl rfl (by refine room_i _ _ ?_ ?_ <;> omega) rfl v1 (by simp only [hfrees, v2, Bool.and_self]) (by show [fg r] = _; rw [v3]; rfl) (P3_i.2 k4)
      have nw : ∀ t, t < 3 → isAt wo t = false := fun t ht => by
        cases h : isAt wo t with
        | false => rfl
        | true => have := P3_i.1 (u5.isAt h).1; omega
      have p1 : hat G2 1 = _ := (hK.same 1 (by omega) (nw 1 (by omega))).trans k1
      have p0 : hat G2 0 = _ := (hK.same 0 (by omega) (nw 0 (by omega))).trans k2
      have p2 : hat G2 2 = _ := (hK.same 2 (by omega) (nw 2 (by omega))).trans k3
      have pl := hK.len
      have hw1 : cellsOf w' = some [w'] := hR.one
      have hw0 := one_9 (a0 := .int .i64 x0) (a1 := .int .i64 x1) (a2 := .int .i64 x2) (a3 := .int .i64 x3) (a4 := .int .i64 x4) (a5 := .int .i64 x5) (a6 := .int .i64 x6) (a7 := .int .i64 x7) (a8 := .int .i64 x8) (b := .imm true 0 0 (some 0) []) u5.one
      simp -failIfUnchanged (disch := first | assumption | omega | (refine room_i _ _ ?_ ?_ <;> omega) | (refine @_root_.id _ ?_; with_unfolding_all exact Eq.refl _) | (simp only [List.length_take, List.length_drop, List.length_append, List.length_cons, List.length_nil, List.length_replicate, List.length_map] <;> omega) | fail) only [rnL, opL, ruL, hpL, rsL, natL, outL, Nat.add_sub_cancel_left, Nat.mul_one, List.length_cons, List.length_nil, Nat.zero_add, Nat.add_zero, Nat.reduceAdd, Nat.reduceMul, Nat.reduceSub, Nat.reduceEqDiff, Nat.reduceLT, Nat.reduceLeDiff, litd_t, litd_f, decide_true, decide_false, Bool.not_true, Bool.not_false, not_true_eq_false, not_false_eq_true, true_and, and_true, false_and, and_false, true_or, or_true, false_or, or_false, Int.toNat_natCast, cond_true, cond_false, List.map_cons, List.map_nil, Option.map_some, Option.map_none, k3, hw0, bslW k6, ha, p2, hw1, sp11_9]
      refine Next.i (j + 1, hset G2 2 (.cells [.int .i64 x0, .int .i64 x1, .int .i64 x2, .int .i64 x3, .int .i64 x4, .int .i64 x5, .int .i64 x6, .int .i64 x7, .int .i64 x8, w', .imm true 0 0 (some 0) []]), w') ?_ rfl ⟨by show j + 1 ≤ _; omega, ?_, ?_, ?_, ?_, ?_⟩ (by show sCnt ss - (j + 1) < sCnt ss - j; omega)
      · simp -failIfUnchanged (disch := first | assumption | omega | (refine room_i _ _ ?_ ?_ <;> omega) | (refine @_root_.id _ ?_; with_unfolding_all exact Eq.refl _) | (simp only [List.length_take, List.length_drop, List.length_append, List.length_cons, List.length_nil, List.length_replicate, List.length_map] <;> omega) | fail) only [rnL, opL, ruL, hpL, rsL, natL, outL, Nat.add_sub_cancel_left, Nat.mul_one, List.length_cons, List.length_nil, Nat.zero_add, Nat.add_zero, Nat.reduceAdd, Nat.reduceMul, Nat.reduceSub, Nat.reduceEqDiff, Nat.reduceLT, Nat.reduceLeDiff, litd_t, litd_f, decide_true, decide_false, Bool.not_true, Bool.not_false, not_true_eq_false, not_false_eq_true, true_and, and_true, false_and, and_false, true_or, or_true, false_or, or_false, Int.toNat_natCast, cond_true, cond_false, List.map_cons, List.map_nil, Option.map_some, Option.map_none]
      · show hat (hset G2 2 _) 1 = _
        rw [hat_hset_ne _ (by decide), p1, hst]; rfl
      · show hat (hset G2 2 _) 0 = _
        rw [hat_hset_ne _ (by decide), p0]
      · exact hat_hset_eq _ (by omega)
      · show 3 ≤ (hset G2 2 _).length
        rw [hset_len]; omega
      · show RowD P3 4 true (hset G2 2 _) w' (scL false (oCnt ops) s j ++ [⟨false && (opsL (scS (oCnt ops) s j) (oCnt ops)).isEmpty, opsL (scS (oCnt ops) s j) (oCnt ops)⟩])
        rw [← hst]
        exact hR.to (by rw [hset_len]; exact Nat.le_refl _) fun t _ hp => ⟨hp, hat_hset_ne _ (by have := P3_i.1 hp; omega)⟩
  · have hj2 : j = sCnt ss := by omega
    subst hj2
    obtain ⟨v, S', r1, H', rfl, o1, o2, o3, o4⟩ := picks_r (S := []) (n := picks) g1 (ss := (sCnt ss : Nat)) (by omega) (by omega)
    have q0 : hat H' 0 = _ := (o2.at_ 0 (by omega) (by decide)).trans g2
    have q2 : hat H' 2 = _ := (o2.at_ 2 (by omega) (by decide)).trans g3
    have ql := o2.len
    have hpl := pkL_len (sCnt ss : Nat) (scS (oCnt ops) s (sCnt ss)) (pkN picks)
    have f5 : RowD P3 4 true H' wo (scL false (oCnt ops) s (sCnt ss)) := g5.to ql fun i hi hp => ⟨hp, o2.at_ i hi (by have := P3_i.1 hp; omega)⟩
    have hv1 : cellsOf v = some [v] := rowOne o3
    simp -failIfUnchanged (disch := first | assumption | omega | (refine room_i _ _ ?_ ?_ <;> omega) | (refine @_root_.id _ ?_; with_unfolding_all exact Eq.refl _) | (simp only [List.length_take, List.length_drop, List.length_append, List.length_cons, List.length_nil, List.length_replicate, List.length_map] <;> omega) | fail) only [rnL, opL, ruL, hpL, rsL, natL, outL, Nat.add_sub_cancel_left, Nat.mul_one, List.length_cons, List.length_nil, Nat.zero_add, Nat.add_zero, Nat.reduceAdd, Nat.reduceMul, Nat.reduceSub, Nat.reduceEqDiff, Nat.reduceLT, Nat.reduceLeDiff, litd_t, litd_f, decide_true, decide_false, Bool.not_true, Bool.not_false, not_true_eq_false, not_false_eq_true, true_and, and_true, false_and, and_false, true_or, or_true, false_or, or_false, Int.toNat_natCast, cond_true, cond_false, List.map_cons, List.map_nil, Option.map_some, Option.map_none]
    refine RunC_r r1 ?_
    have q3 : ∀ o, hat (hset H' 2 o) 0 = .cells z11 := fun o => (hat_hset_ne _ (by decide)).trans q0
    have q4 : ∀ o, hat (hset H' 2 o) 2 = o := fun o => hat_hset_eq _ (by omega)
    simp -failIfUnchanged (disch := first | assumption | omega | (refine room_i _ _ ?_ ?_ <;> omega) | (refine @_root_.id _ ?_; with_unfolding_all exact Eq.refl _) | (simp only [List.length_take, List.length_drop, List.length_append, List.length_cons, List.length_nil, List.length_replicate, List.length_map] <;> omega) | fail) only [rnL, opL, ruL, hpL, rsL, natL, outL, Nat.add_sub_cancel_left, Nat.mul_one, List.length_cons, List.length_nil, Nat.zero_add, Nat.add_zero, Nat.reduceAdd, Nat.reduceMul, Nat.reduceSub, Nat.reduceEqDiff, Nat.reduceLT, Nat.reduceLeDiff, litd_t, litd_f, decide_true, decide_false, Bool.not_true, Bool.not_false, not_true_eq_false, not_false_eq_true, true_and, and_true, false_and, and_false, true_or, or_true, false_or, or_false, Int.toNat_natCast, cond_true, cond_false, List.map_cons, List.map_nil, Option.map_some, Option.map_none, q2, hv1, sp11_10, one11, q3, q4]
    exact fin_cell (.inr rfl) (by rfl) (hat_hset_eq _ (by rw [hset_len]; omega)) (by rfl) (by rfl) (scr_leave f5 o3 (fun t ht => by
      have : G0.length ≤ t := Nat.le_of_not_lt fun h => by rw [o4 t h] at ht; cases ht
      omega) (scL_ne _ _ _ _ n1))
end Go.AS.Sd

namespace Go.AS.Sd
open Go Go.AS Go.Proofs
set_option maxHeartbeats 4000000
set_option maxRecDepth 100000
theorem eqa_cfg {H : Heap} {ng : Bool} {x0 x1 x2 x3 x4 x5 x6 x7 x8 : Int} : opV H (.eqa ng [(0, 0), (1, 0), (2, 0), (3, 0), (4, 0), (5, 0), (6, 0), (7, 0), (8, 0)] (.c (.agg [.int .i64 x0, .int .i64 x1, .int .i64 x2, .int .i64 x3, .int .i64 x4, .int .i64 x5, .int .i64 x6, .int .i64 x7, .int .i64 x8])) (.c (.agg [.int .i64 x0, .int .i64 x1, .int .i64 x2, .int .i64 x3, .int .i64 x4, .int .i64 x5, .int .i64 x6, .int .i64 x7, .int .i64 x8]))) = some (.bool (bif ng then false else true), H) := by
  have : primEqs [.int .i64 x0, .int .i64 x1, .int .i64 x2, .int .i64 x3, .int .i64 x4, .int .i64 x5, .int .i64 x6, .int .i64 x7, .int .i64 x8] [.int .i64 x0, .int .i64 x1, .int .i64 x2, .int .i64 x3, .int .i64 x4, .int .i64 x5, .int .i64 x6, .int .i64 x7, .int .i64 x8] [(0, 0), (1, 0), (2, 0), (3, 0), (4, 0), (5, 0), (6, 0), (7, 0), (8, 0)] = some true := by
    simp [primEqs, primEq, ikEq_refl]
  simp only [opV, evOp, Opd.ev, this]
  cases ng <;> rfl
theorem one9_11 {a0 a1 a2 a3 a4 a5 a6 a7 a8 a b : AV} : one (some 9) [a0, a1, a2, a3, a4, a5, a6, a7, a8, a, b] 0 = some (.agg [a0, a1, a2, a3, a4, a5, a6, a7, a8]) := rfl
theorem tk9 {a0 a1 a2 a3 a4 a5 a6 a7 a8 a b : AV} : List.take 9 (List.drop 0 [a0, a1, a2, a3, a4, a5, a6, a7, a8, a, b]) = [a0, a1, a2, a3, a4, a5, a6, a7, a8] := rfl
theorem encScr {x0 x1 x2 x3 x4 x5 x6 x7 x8 : Int} {n p : Bool} {la : List (Sl Opn)} {pk : List Int} : Cel.enc (Scr.mk ⟨x0, x1, x2, x3, x4, x5, x6, x7, x8⟩ ⟨n, la⟩ ⟨p, pk⟩) = [.int .i64 x0, .int .i64 x1, .int .i64 x2, .int .i64 x3, .int .i64 x4, .int .i64 x5, .int .i64 x6, .int .i64 x7, .int .i64 x8, sl n la, sl p pk] := rfl
theorem encOpn (o : Opn) : Cel.enc o = [.int .u8 o.kind.toNat, .str o.key, .str o.to, .int .i64 o.n, sl o.batch.nil o.batch.l] := rfl
theorem bx11 {H : Heap} {a0 a1 a2 a3 a4 a5 a6 a7 a8 a b : AV} : opV H (.box 11 (.c (.agg [a0, a1, a2, a3, a4, a5, a6, a7, a8, a, b]))) = some (.ptr H.length 11 0, H ++ [.cells [a0, a1, a2, a3, a4, a5, a6, a7, a8, a, b]]) := rfl
/-- What a scripts' operations are, whatever lists without elements are. -/
def lsOf (l : List (Sl Opn)) : List (List Opn) := l.map Sl.l
theorem same33 {x0 x1 x2 x3 x4 x5 x6 x7 x8 : Int} {p1 p2 : Bool} {la lb : List (Sl Opn)} {pk : List Int} (hpk : pk.length ≤ 10000) (hla : la.length ≤ 64) (hs : lsOf la = lsOf lb) (hop : ∀ s ∈ la, s.l.length ≤ 100 ∧ ∀ o ∈ s.l, o.batch.l.length ≤ 3 ∧ (o.batch.nil = true → o.batch.l = [])) :
    Gives F 39 [.agg (Cel.enc (Scr.mk ⟨x0, x1, x2, x3, x4, x5, x6, x7, x8⟩ ⟨false, la⟩ ⟨p1, pk⟩)), .agg (Cel.enc (Scr.mk ⟨x0, x1, x2, x3, x4, x5, x6, x7, x8⟩ ⟨false, lb⟩ ⟨p2, pk⟩))] (.bool true) := by
  refine Gives.of fn_r33_Same rfl rfl (args' := [.agg (Cel.enc (Scr.mk ⟨x0, x1, x2, x3, x4, x5, x6, x7, x8⟩ ⟨false, la⟩ ⟨p1, pk⟩)), .agg (Cel.enc (Scr.mk ⟨x0, x1, x2, x3, x4, x5, x6, x7, x8⟩ ⟨false, lb⟩ ⟨p2, pk⟩))]) (by simp only [mapO_nil, mapO_c2, consO_some, upf_v]) ?_
  simp only [ir_r33_Same, encScr]
  have hlen : lb.length = la.length := by
    have := congrArg List.length hs
    simpa [lsOf] using this.symm
  simp -failIfUnchanged (disch := first | assumption | omega | (refine room_i _ _ ?_ ?_ <;> omega) | (refine @_root_.id _ ?_; with_unfolding_all exact Eq.refl _) | (simp only [List.length_take, List.length_drop, List.length_append, List.length_cons, List.length_nil, List.length_replicate, List.length_map] <;> omega) | fail) only [rnL, opL, ruL, hpL, rsL, natL, outL, Nat.add_sub_cancel_left, Nat.mul_one, List.length_cons, List.length_nil, Nat.zero_add, Nat.add_zero, Nat.reduceAdd, Nat.reduceMul, Nat.reduceSub, Nat.reduceEqDiff, Nat.reduceLT, Nat.reduceLeDiff, litd_t, litd_f, decide_true, decide_false, Bool.not_true, Bool.not_false, not_true_eq_false, not_false_eq_true, true_and, and_true, false_and, and_false, true_or, or_true, false_or, or_false, Int.toNat_natCast, cond_true, cond_false, List.map_cons, List.map_nil, Option.map_some, Option.map_none, bx11, tk9, eqa_cfg, hlen]
  refine Run_upto pk.length (fun i => [(0, .agg [.int .i64 x0, .int .i64 x1, .int .i64 x2, .int .i64 x3, .int .i64 x4, .int .i64 x5, .int .i64 x6, .int .i64 x7, .int .i64 x8, sl false la, sl p1 pk]), (1, .agg [.int .i64 x0, .int .i64 x1, .int .i64 x2, .int .i64 x3, .int .i64 x4, .int .i64 x5, .int .i64 x6, .int .i64 x7, .int .i64 x8, sl false lb, sl p2 pk]), (2, .ptr 0 11 0), (3, .ptr 1 11 0), (4, .bool false), (5, .int .i64 (i : Nat)), (32, .bool false)]) (fun _ => [[.cells [.int .i64 x0, .int .i64 x1, .int .i64 x2, .int .i64 x3, .int .i64 x4, .int .i64 x5, .int .i64 x6, .int .i64 x7, .int .i64 x8, sl false la, sl p1 pk], .cells [.int .i64 x0, .int .i64 x1, .int .i64 x2, .int .i64 x3, .int .i64 x4, .int .i64 x5, .int .i64 x6, .int .i64 x7, .int .i64 x8, sl false lb, sl p2 pk]]]) (fun _ => True) rfl rfl trivial ?_
  intro i hi _
  simp -failIfUnchanged (disch := first | assumption | omega | (refine room_i _ _ ?_ ?_ <;> omega) | (refine @_root_.id _ ?_; with_unfolding_all exact Eq.refl _) | (simp only [List.length_take, List.length_drop, List.length_append, List.length_cons, List.length_nil, List.length_replicate, List.length_map] <;> omega) | fail) only [rnL, opL, ruL, hpL, rsL, natL, outL, Nat.add_sub_cancel_left, Nat.mul_one, List.length_cons, List.length_nil, Nat.zero_add, Nat.add_zero, Nat.reduceAdd, Nat.reduceMul, Nat.reduceSub, Nat.reduceEqDiff, Nat.reduceLT, Nat.reduceLeDiff, litd_t, litd_f, decide_true, decide_false, Bool.not_true, Bool.not_false, not_true_eq_false, not_false_eq_true, true_and, and_true, false_and, and_false, true_or, or_true, false_or, or_false, Int.toNat_natCast, cond_true, cond_false, List.map_cons, List.map_nil, Option.map_some, Option.map_none]
  (first | refine RunB_i (fun h3 => ?_) (fun h3 => ?_) | refine RunG_i (fun h3 => ?_) (fun h3 => ?_) | refine RunB_ib (fun h3 => ?_) (fun h3 => ?_))
  · have hi' : i < pk.length := by omega
    simp -failIfUnchanged (disch := first | assumption | omega | (refine room_i _ _ ?_ ?_ <;> omega) | (refine @_root_.id _ ?_; with_unfolding_all exact Eq.refl _) | (simp only [List.length_take, List.length_drop, List.length_append, List.length_cons, List.length_nil, List.length_replicate, List.length_map] <;> omega) | fail) only [rnL, opL, ruL, hpL, rsL, natL, outL, Nat.add_sub_cancel_left, Nat.mul_one, List.length_cons, List.length_nil, Nat.zero_add, Nat.add_zero, Nat.reduceAdd, Nat.reduceMul, Nat.reduceSub, Nat.reduceEqDiff, Nat.reduceLT, Nat.reduceLeDiff, litd_t, litd_f, decide_true, decide_false, Bool.not_true, Bool.not_false, not_true_eq_false, not_false_eq_true, true_and, and_true, false_and, and_false, true_or, or_true, false_or, or_false, Int.toNat_natCast, cond_true, cond_false, List.map_cons, List.map_nil, Option.map_some, Option.map_none, neq_ii]
    exact Nx.i hi' rfl rfl trivial
  simp -failIfUnchanged (disch := first | assumption | omega | (refine room_i _ _ ?_ ?_ <;> omega) | (refine @_root_.id _ ?_; with_unfolding_all exact Eq.refl _) | (simp only [List.length_take, List.length_drop, List.length_append, List.length_cons, List.length_nil, List.length_replicate, List.length_map] <;> omega) | fail) only [rnL, opL, ruL, hpL, rsL, natL, outL, Nat.add_sub_cancel_left, Nat.mul_one, List.length_cons, List.length_nil, Nat.zero_add, Nat.add_zero, Nat.reduceAdd, Nat.reduceMul, Nat.reduceSub, Nat.reduceEqDiff, Nat.reduceLT, Nat.reduceLeDiff, litd_t, litd_f, decide_true, decide_false, Bool.not_true, Bool.not_false, not_true_eq_false, not_false_eq_true, true_and, and_true, false_and, and_false, true_or, or_true, false_or, or_false, Int.toNat_natCast, cond_true, cond_false, List.map_cons, List.map_nil, Option.map_some, Option.map_none]
  refine Run_loop (σ := Nat × Heap) (fun σ => [(0, .agg [.int .i64 x0, .int .i64 x1, .int .i64 x2, .int .i64 x3, .int .i64 x4, .int .i64 x5, .int .i64 x6, .int .i64 x7, .int .i64 x8, sl false la, sl p1 pk]), (1, .agg [.int .i64 x0, .int .i64 x1, .int .i64 x2, .int .i64 x3, .int .i64 x4, .int .i64 x5, .int .i64 x6, .int .i64 x7, .int .i64 x8, sl false lb, sl p2 pk]), (2, .ptr 0 11 0), (3, .ptr 1 11 0), (4, .bool false), (5, .int .i64 (i : Nat)), (6, .int .i64 (σ.1 : Nat)), (32, .bool false)]) (fun σ => [σ.2]) (fun σ => σ.1 ≤ la.length ∧ hat σ.2 0 = .cells [.int .i64 x0, .int .i64 x1, .int .i64 x2, .int .i64 x3, .int .i64 x4, .int .i64 x5, .int .i64 x6, .int .i64 x7, .int .i64 x8, sl false la, sl p1 pk] ∧ hat σ.2 1 = .cells [.int .i64 x0, .int .i64 x1, .int .i64 x2, .int .i64 x3, .int .i64 x4, .int .i64 x5, .int .i64 x6, .int .i64 x7, .int .i64 x8, sl false lb, sl p2 pk]) (fun σ => la.length - σ.1) (0, _) ?_ rfl ⟨Nat.zero_le _, rfl, rfl⟩ ?_
  · rfl
  rintro ⟨j, X⟩ ⟨hj, g0, g1⟩
  simp only at hj g0 g1
  simp -failIfUnchanged (disch := first | assumption | omega | (refine room_i _ _ ?_ ?_ <;> omega) | (refine @_root_.id _ ?_; with_unfolding_all exact Eq.refl _) | (simp only [List.length_take, List.length_drop, List.length_append, List.length_cons, List.length_nil, List.length_replicate, List.length_map] <;> omega) | fail) only [rnL, opL, ruL, hpL, rsL, natL, outL, Nat.add_sub_cancel_left, Nat.mul_one, List.length_cons, List.length_nil, Nat.zero_add, Nat.add_zero, Nat.reduceAdd, Nat.reduceMul, Nat.reduceSub, Nat.reduceEqDiff, Nat.reduceLT, Nat.reduceLeDiff, litd_t, litd_f, decide_true, decide_false, Bool.not_true, Bool.not_false, not_true_eq_false, not_false_eq_true, true_and, and_true, false_and, and_false, true_or, or_true, false_or, or_false, Int.toNat_natCast, cond_true, cond_false, List.map_cons, List.map_nil, Option.map_some, Option.map_none, g0]
  (first | refine RunB_i (fun h4 => ?_) (fun h4 => ?_) | refine RunG_i (fun h4 => ?_) (fun h4 => ?_) | refine RunB_ib (fun h4 => ?_) (fun h4 => ?_))
  · have hj' : j < la.length := by omega
    have hj2 : j < lb.length := by omega
    have hll : lb[j].l = la[j].l := by
      have h1 : (lsOf la)[j]? = (lsOf lb)[j]? := by rw [hs]
      simp only [lsOf, List.getElem?_map, List.getElem?_eq_getElem hj', List.getElem?_eq_getElem hj2, Option.map_some, Option.some.injEq] at h1
      exact h1.symm
    obtain ⟨ho1, ho2⟩ := hop _ (List.getElem_mem hj')
    simp -failIfUnchanged (disch := first | assumption | omega | (refine room_i _ _ ?_ ?_ <;> omega) | (refine @_root_.id _ ?_; with_unfolding_all exact Eq.refl _) | (simp only [List.length_take, List.length_drop, List.length_append, List.length_cons, List.length_nil, List.length_replicate, List.length_map] <;> omega) | fail) only [rnL, opL, ruL, hpL, rsL, natL, outL, Nat.add_sub_cancel_left, Nat.mul_one, List.length_cons, List.length_nil, Nat.zero_add, Nat.add_zero, Nat.reduceAdd, Nat.reduceMul, Nat.reduceSub, Nat.reduceEqDiff, Nat.reduceLT, Nat.reduceLeDiff, litd_t, litd_f, decide_true, decide_false, Bool.not_true, Bool.not_false, not_true_eq_false, not_false_eq_true, true_and, and_true, false_and, and_false, true_or, or_true, false_or, or_false, Int.toNat_natCast, cond_true, cond_false, List.map_cons, List.map_nil, Option.map_some, Option.map_none, g0, g1, hll]
    obtain ⟨l, hl⟩ : ∃ l, l = la[j].l := ⟨_, rfl⟩
    rw [← hl] at ho1 ho2 hll
    refine Run_loop (σ := Nat × Heap) (fun σ => [(0, .agg [.int .i64 x0, .int .i64 x1, .int .i64 x2, .int .i64 x3, .int .i64 x4, .int .i64 x5, .int .i64 x6, .int .i64 x7, .int .i64 x8, sl false la, sl p1 pk]), (1, .agg [.int .i64 x0, .int .i64 x1, .int .i64 x2, .int .i64 x3, .int .i64 x4, .int .i64 x5, .int .i64 x6, .int .i64 x7, .int .i64 x8, sl false lb, sl p2 pk]), (2, .ptr 0 11 0), (3, .ptr 1 11 0), (4, .bool false), (5, .int .i64 (i : Nat)), (6, .int .i64 (j : Nat)), (7, .int .i64 (σ.1 : Nat)), (32, .bool false), (55, .bool true), (70, .bool false)]) (fun σ => [σ.2]) (fun σ => σ.1 ≤ l.length ∧ hat σ.2 0 = .cells [.int .i64 x0, .int .i64 x1, .int .i64 x2, .int .i64 x3, .int .i64 x4, .int .i64 x5, .int .i64 x6, .int .i64 x7, .int .i64 x8, sl false la, sl p1 pk] ∧ hat σ.2 1 = .cells [.int .i64 x0, .int .i64 x1, .int .i64 x2, .int .i64 x3, .int .i64 x4, .int .i64 x5, .int .i64 x6, .int .i64 x7, .int .i64 x8, sl false lb, sl p2 pk]) (fun σ => l.length - σ.1) (0, _) ?_ rfl ⟨Nat.zero_le _, g0, g1⟩ ?_
    · rfl
    rintro ⟨m, Y⟩ ⟨hm, k0, k1⟩
    simp only at hm k0 k1
    simp -failIfUnchanged (disch := first | assumption | omega | (refine room_i _ _ ?_ ?_ <;> omega) | (refine @_root_.id _ ?_; with_unfolding_all exact Eq.refl _) | (simp only [List.length_take, List.length_drop, List.length_append, List.length_cons, List.length_nil, List.length_replicate, List.length_map] <;> omega) | fail) only [rnL, opL, ruL, hpL, rsL, natL, outL, Nat.add_sub_cancel_left, Nat.mul_one, List.length_cons, List.length_nil, Nat.zero_add, Nat.add_zero, Nat.reduceAdd, Nat.reduceMul, Nat.reduceSub, Nat.reduceEqDiff, Nat.reduceLT, Nat.reduceLeDiff, litd_t, litd_f, decide_true, decide_false, Bool.not_true, Bool.not_false, not_true_eq_false, not_false_eq_true, true_and, and_true, false_and, and_false, true_or, or_true, false_or, or_false, Int.toNat_natCast, cond_true, cond_false, List.map_cons, List.map_nil, Option.map_some, Option.map_none, k0, k1, ← hl]
    (first | refine RunB_i (fun h5 => ?_) (fun h5 => ?_) | refine RunG_i (fun h5 => ?_) (fun h5 => ?_) | refine RunB_ib (fun h5 => ?_) (fun h5 => ?_))
    · have hm' : m < l.length := by omega
      obtain ⟨b1, b2⟩ := ho2 _ (List.getElem_mem hm')
      have hs4 : CallpIs F 29 [sl l[m].batch.nil l[m].batch.l, sl l[m].batch.nil l[m].batch.l] (.bool true) := (same4_true _ _ _ (Nat.le_trans b1 (by decide)) b2 b2).isp (by simp [hfrees, sl_free]) rfl
      have u0 : ∀ L, hat (Y ++ L) 0 = _ := fun L => (hat_app_lt (L := L) (hat_some k0)).trans k0
      have u1 : ∀ L, hat (Y ++ L) 1 = _ := fun L => (hat_app_lt (L := L) (hat_some k1)).trans k1
      simp -failIfUnchanged (disch := first | assumption | omega | (refine room_i _ _ ?_ ?_ <;> omega) | (refine @_root_.id _ ?_; with_unfolding_all exact Eq.refl _) | (simp only [List.length_take, List.length_drop, List.length_append, List.length_cons, List.length_nil, List.length_replicate, List.length_map] <;> omega) | fail) only [rnL, opL, ruL, hpL, rsL, natL, outL, Nat.add_sub_cancel_left, Nat.mul_one, List.length_cons, List.length_nil, Nat.zero_add, Nat.add_zero, Nat.reduceAdd, Nat.reduceMul, Nat.reduceSub, Nat.reduceEqDiff, Nat.reduceLT, Nat.reduceLeDiff, litd_t, litd_f, decide_true, decide_false, Bool.not_true, Bool.not_false, not_true_eq_false, not_false_eq_true, true_and, and_true, false_and, and_false, true_or, or_true, false_or, or_false, Int.toNat_natCast, cond_true, cond_false, List.map_cons, List.map_nil, Option.map_some, Option.map_none, k0, k1, u0, u1, hll, ← hl, encOpn, hxL, neq_ii, neq_ss, hs4]
      refine Next.i (m + 1, _) ?_ rfl ⟨by show m + 1 ≤ _; omega, u0 _, u1 _⟩ (by show l.length - (m + 1) < l.length - m; omega)
      simp -failIfUnchanged (disch := first | assumption | omega | (refine room_i _ _ ?_ ?_ <;> omega) | (refine @_root_.id _ ?_; with_unfolding_all exact Eq.refl _) | (simp only [List.length_take, List.length_drop, List.length_append, List.length_cons, List.length_nil, List.length_replicate, List.length_map] <;> omega) | fail) only [rnL, opL, ruL, hpL, rsL, natL, outL, Nat.add_sub_cancel_left, Nat.mul_one, List.length_cons, List.length_nil, Nat.zero_add, Nat.add_zero, Nat.reduceAdd, Nat.reduceMul, Nat.reduceSub, Nat.reduceEqDiff, Nat.reduceLT, Nat.reduceLeDiff, litd_t, litd_f, decide_true, decide_false, Bool.not_true, Bool.not_false, not_true_eq_false, not_false_eq_true, true_and, and_true, false_and, and_false, true_or, or_true, false_or, or_false, Int.toNat_natCast, cond_true, cond_false, List.map_cons, List.map_nil, Option.map_some, Option.map_none]
    · simp -failIfUnchanged (disch := first | assumption | omega | (refine room_i _ _ ?_ ?_ <;> omega) | (refine @_root_.id _ ?_; with_unfolding_all exact Eq.refl _) | (simp only [List.length_take, List.length_drop, List.length_append, List.length_cons, List.length_nil, List.length_replicate, List.length_map] <;> omega) | fail) only [rnL, opL, ruL, hpL, rsL, natL, outL, Nat.add_sub_cancel_left, Nat.mul_one, List.length_cons, List.length_nil, Nat.zero_add, Nat.add_zero, Nat.reduceAdd, Nat.reduceMul, Nat.reduceSub, Nat.reduceEqDiff, Nat.reduceLT, Nat.reduceLeDiff, litd_t, litd_f, decide_true, decide_false, Bool.not_true, Bool.not_false, not_true_eq_false, not_false_eq_true, true_and, and_true, false_and, and_false, true_or, or_true, false_or, or_false, Int.toNat_natCast, cond_true, cond_false, List.map_cons, List.map_nil, Option.map_some, Option.map_none]
      refine Next.i (j + 1, _) ?_ rfl ⟨by show j + 1 ≤ _; omega, k0, k1⟩ (by show la.length - (j + 1) < la.length - j; omega)
      simp -failIfUnchanged (disch := first | assumption | omega | (refine room_i _ _ ?_ ?_ <;> omega) | (refine @_root_.id _ ?_; with_unfolding_all exact Eq.refl _) | (simp only [List.length_take, List.length_drop, List.length_append, List.length_cons, List.length_nil, List.length_replicate, List.length_map] <;> omega) | fail) only [rnL, opL, ruL, hpL, rsL, natL, outL, Nat.add_sub_cancel_left, Nat.mul_one, List.length_cons, List.length_nil, Nat.zero_add, Nat.add_zero, Nat.reduceAdd, Nat.reduceMul, Nat.reduceSub, Nat.reduceEqDiff, Nat.reduceLT, Nat.reduceLeDiff, litd_t, litd_f, decide_true, decide_false, Bool.not_true, Bool.not_false, not_true_eq_false, not_false_eq_true, true_and, and_true, false_and, and_false, true_or, or_true, false_or, or_false, Int.toNat_natCast, cond_true, cond_false, List.map_cons, List.map_nil, Option.map_some, Option.map_none]
  · simp -failIfUnchanged (disch := first | assumption | omega | (refine room_i _ _ ?_ ?_ <;> omega) | (refine @_root_.id _ ?_; with_unfolding_all exact Eq.refl _) | (simp only [List.length_take, List.length_drop, List.length_append, List.length_cons, List.length_nil, List.length_replicate, List.length_map] <;> omega) | fail) only [rnL, opL, ruL, hpL, rsL, natL, outL, Nat.add_sub_cancel_left, Nat.mul_one, List.length_cons, List.length_nil, Nat.zero_add, Nat.add_zero, Nat.reduceAdd, Nat.reduceMul, Nat.reduceSub, Nat.reduceEqDiff, Nat.reduceLT, Nat.reduceLeDiff, litd_t, litd_f, decide_true, decide_false, Bool.not_true, Bool.not_false, not_true_eq_false, not_false_eq_true, true_and, and_true, false_and, and_false, true_or, or_true, false_or, or_false, Int.toNat_natCast, cond_true, cond_false, List.map_cons, List.map_nil, Option.map_some, Option.map_none]
    (refine Fin_g (.inr rfl) (by simp -failIfUnchanged (disch := first | assumption | omega | (refine room_i _ _ ?_ ?_ <;> omega) | (refine @_root_.id _ ?_; with_unfolding_all exact Eq.refl _) | (simp only [List.length_take, List.length_drop, List.length_append, List.length_cons, List.length_nil, List.length_replicate, List.length_map] <;> omega) | fail) only [rnL, opL, ruL, hpL, rsL, natL, outL, Nat.add_sub_cancel_left, Nat.mul_one, List.length_cons, List.length_nil, Nat.zero_add, Nat.add_zero, Nat.reduceAdd, Nat.reduceMul, Nat.reduceSub, Nat.reduceEqDiff, Nat.reduceLT, Nat.reduceLeDiff, litd_t, litd_f, decide_true, decide_false, Bool.not_true, Bool.not_false, not_true_eq_false, not_false_eq_true, true_and, and_true, false_and, and_false, true_or, or_true, false_or, or_false, Int.toNat_natCast, cond_true, cond_false, List.map_cons, List.map_nil, Option.map_some, Option.map_none]; rfl) ?_; simp -failIfUnchanged (disch := first | assumption | omega | (refine room_i _ _ ?_ ?_ <;> omega) | (refine @_root_.id _ ?_; with_unfolding_all exact Eq.refl _) | (simp only [List.length_take, List.length_drop, List.length_append, List.length_cons, List.length_nil, List.length_replicate, List.length_map] <;> omega) | fail) only [rnL, opL, ruL, hpL, rsL, natL, outL, Nat.add_sub_cancel_left, Nat.mul_one, List.length_cons, List.length_nil, Nat.zero_add, Nat.add_zero, Nat.reduceAdd, Nat.reduceMul, Nat.reduceSub, Nat.reduceEqDiff, Nat.reduceLT, Nat.reduceLeDiff, litd_t, litd_f, decide_true, decide_false, Bool.not_true, Bool.not_false, not_true_eq_false, not_false_eq_true, true_and, and_true, false_and, and_false, true_or, or_true, false_or, or_false, Int.toNat_natCast, cond_true, cond_false, List.map_cons, List.map_nil, Option.map_some, Option.map_none])
end Go.AS.Sd

namespace Go.AS.Sd
open Go Go.AS Go.Proofs
set_option maxHeartbeats 4000000
set_option maxRecDepth 100000
theorem bx6 {H : Heap} {a0 a1 a2 a3 a4 a5 : AV} : opV H (.box 6 (.c (.agg [a0, a1, a2, a3, a4, a5]))) = some (.ptr H.length 6 0, H ++ [.cells [a0, a1, a2, a3, a4, a5]]) := rfl
theorem bx9 {H : Heap} {a0 a1 a2 a3 a4 a5 a6 a7 a8 : AV} : opV H (.box 9 (.c (.agg [a0, a1, a2, a3, a4, a5, a6, a7, a8]))) = some (.ptr H.length 9 0, H ++ [.cells [a0, a1, a2, a3, a4, a5, a6, a7, a8]]) := rfl
theorem encMsg (m : Msg) : Cel.enc m = [.int .u8 m.kind.toNat, .int .i64 m.seq, .str m.key, .str m.to, .str m.value, .int .u64 m.delta.toNat] := rfl
theorem encCfg (c : Cfg) : Cel.enc c = [.int .i64 c.key, .int .i64 c.value, .int .i64 c.fanout, .int .i64 c.buffer, .int .i64 c.leaf, .int .i64 c.block, .int .i64 c.nodes, .int .i64 c.budget, .int .i64 c.chunk] := rfl
theorem point1 (m : Msg) (k : Int) (hk : (m.kind.toNat : Int) = k) (h1 : 1 ≤ k) (h3 : k ≤ 4) : Gives F 89 [.agg (Cel.enc m)] (.bool (decide (k ≤ 3))) := by
  refine Gives.of fn_r04_Point rfl rfl (args' := [.agg (Cel.enc m)]) (by simp only [mapO_nil, mapO_c2, consO_some, upf_v]) ?_
  simp only [ir_r04_Point, encMsg, hk]
  have e1 : decide (1 ≤ k) = true := by simpa using h1
  simp -failIfUnchanged (disch := first | assumption | omega | (refine room_i _ _ ?_ ?_ <;> omega) | (refine @_root_.id _ ?_; with_unfolding_all exact Eq.refl _) | (simp only [List.length_take, List.length_drop, List.length_append, List.length_cons, List.length_nil, List.length_replicate, List.length_map] <;> omega) | fail) only [rnL, opL, ruL, hpL, rsL, natL, outL, Nat.add_sub_cancel_left, Nat.mul_one, List.length_cons, List.length_nil, Nat.zero_add, Nat.add_zero, Nat.reduceAdd, Nat.reduceMul, Nat.reduceSub, Nat.reduceEqDiff, Nat.reduceLT, Nat.reduceLeDiff, litd_t, litd_f, decide_true, decide_false, Bool.not_true, Bool.not_false, not_true_eq_false, not_false_eq_true, true_and, and_true, false_and, and_false, true_or, or_true, false_or, or_false, Int.toNat_natCast, cond_true, cond_false, List.map_cons, List.map_nil, Option.map_some, Option.map_none, bx6, e1]
  (refine Fin_g (.inr rfl) (by simp -failIfUnchanged (disch := first | assumption | omega | (refine room_i _ _ ?_ ?_ <;> omega) | (refine @_root_.id _ ?_; with_unfolding_all exact Eq.refl _) | (simp only [List.length_take, List.length_drop, List.length_append, List.length_cons, List.length_nil, List.length_replicate, List.length_map] <;> omega) | fail) only [rnL, opL, ruL, hpL, rsL, natL, outL, Nat.add_sub_cancel_left, Nat.mul_one, List.length_cons, List.length_nil, Nat.zero_add, Nat.add_zero, Nat.reduceAdd, Nat.reduceMul, Nat.reduceSub, Nat.reduceEqDiff, Nat.reduceLT, Nat.reduceLeDiff, litd_t, litd_f, decide_true, decide_false, Bool.not_true, Bool.not_false, not_true_eq_false, not_false_eq_true, true_and, and_true, false_and, and_false, true_or, or_true, false_or, or_false, Int.toNat_natCast, cond_true, cond_false, List.map_cons, List.map_nil, Option.map_some, Option.map_none]; rfl) ?_; simp -failIfUnchanged (disch := first | assumption | omega | (refine room_i _ _ ?_ ?_ <;> omega) | (refine @_root_.id _ ?_; with_unfolding_all exact Eq.refl _) | (simp only [List.length_take, List.length_drop, List.length_append, List.length_cons, List.length_nil, List.length_replicate, List.length_map] <;> omega) | fail) only [rnL, opL, ruL, hpL, rsL, natL, outL, Nat.add_sub_cancel_left, Nat.mul_one, List.length_cons, List.length_nil, Nat.zero_add, Nat.add_zero, Nat.reduceAdd, Nat.reduceMul, Nat.reduceSub, Nat.reduceEqDiff, Nat.reduceLT, Nat.reduceLeDiff, litd_t, litd_f, decide_true, decide_false, Bool.not_true, Bool.not_false, not_true_eq_false, not_false_eq_true, true_and, and_true, false_and, and_false, true_or, or_true, false_or, or_false, Int.toNat_natCast, cond_true, cond_false, List.map_cons, List.map_nil, Option.map_some, Option.map_none])
theorem u8_1 : ((UInt8.toNat 1 : Nat) : Int) = 1 := rfl
theorem u8_2 : ((UInt8.toNat 2 : Nat) : Int) = 2 := rfl
theorem u8_3 : ((UInt8.toNat 3 : Nat) : Int) = 3 := rfl
theorem u8_4 : ((UInt8.toNat 4 : Nat) : Int) = 4 := rfl
theorem u8_5 : ((UInt8.toNat 5 : Nat) : Int) = 5 := rfl
theorem u64_0 : ((UInt64.toNat 0 : Nat) : Int) = 0 := rfl
theorem u8L : Ty (And.intro u8_1 <| And.intro u8_2 <| And.intro u8_3 <| And.intro u8_4 <| And.intro u8_5 u64_0) := And.intro u8_1 <| And.intro u8_2 <| And.intro u8_3 <| And.intro u8_4 <| And.intro u8_5 u64_0
theorem tk6 {a0 a1 a2 a3 a4 a5 : AV} : List.take 6 (List.drop 0 [a0, a1, a2, a3, a4, a5]) = [a0, a1, a2, a3, a4, a5] := rfl
theorem eql_ne {H : Heap} {k : Str} (h : k ≠ []) : opV H (.bin .eql (.c (.str k)) (.c (.str []))) = some (.bool false, H) := by simp [opV, evOp, Opd.ev, binA, h]
theorem neq_ne {H : Heap} {k : Str} (h : k ≠ []) : opV H (.bin .neq (.c (.str k)) (.c (.str []))) = some (.bool true, H) := by simp [opV, evOp, Opd.ev, binA, h]
theorem blt_snoc (k x : List UInt8) : bytesLt (k ++ x) k = false := by
  induction k with
  | nil => cases x <;> rfl
  | cons a k ih => simp [bytesLt, ih]
def MsgOK (m : Msg) : Prop := m.seq = 0 ∧ 1 ≤ m.key.length ∧ m.key.length ≤ 2 ∧
  ((m.kind = 1 ∧ m.to = [] ∧ m.value.length ≤ 2 ∧ m.delta = 0) ∨ (m.kind = 2 ∧ m.to = [] ∧ m.value = [] ∧ m.delta = 0) ∨ (m.kind = 3 ∧ m.to = [] ∧ m.value = []) ∨ (m.kind = 4 ∧ m.value = [] ∧ m.delta = 0 ∧ m.key.length = 1 ∧ m.to = m.key ++ [122]))
theorem chk04 (m : Msg) (hm : MsgOK m) (c : Cfg) (hc : c.key = 4) (hv : c.value = 16) : Gives F 79 [.agg (Cel.enc m), .agg (Cel.enc c)] (.int .i64 0) := by
  refine Gives.of fn_r04_Check rfl rfl (args' := [.agg (Cel.enc m), .agg (Cel.enc c)]) (by simp only [mapO_nil, mapO_c2, consO_some, upf_v]) ?_
  obtain ⟨kd, sq, key, to, value, delta⟩ := m
  obtain ⟨c0, c1, c2, c3, c4, c5, c6, c7, c8⟩ := c
  simp only at hc hv
  subst hc hv
  obtain ⟨h0, h1, h2, h3⟩ := hm
  simp only at h0 h1 h2 h3
  subst h0
  have hne : key ≠ [] := fun e => by rw [e] at h1; simp at h1
  rcases h3 with ⟨rfl, rfl, h4, rfl⟩ | ⟨rfl, rfl, rfl, rfl⟩ | ⟨rfl, rfl, rfl⟩ | ⟨rfl, rfl, rfl, h4, rfl⟩
  · have hp := point1 ⟨1, 0, key, [], value, 0⟩ 1 rfl (by decide) (by decide)
    simp only [encMsg, u8L] at hp
    simp only [ir_r04_Check, encMsg, encCfg]
    simp -failIfUnchanged (disch := first | assumption | omega | (refine room_i _ _ ?_ ?_ <;> omega) | (refine @_root_.id _ ?_; with_unfolding_all exact Eq.refl _) | (simp only [List.length_take, List.length_drop, List.length_append, List.length_cons, List.length_nil, List.length_replicate, List.length_map] <;> omega) | fail) only [rnL, opL, ruL, hpL, rsL, natL, outL, Nat.add_sub_cancel_left, Nat.mul_one, List.length_cons, List.length_nil, Nat.zero_add, Nat.add_zero, Nat.reduceAdd, Nat.reduceMul, Nat.reduceSub, Nat.reduceEqDiff, Nat.reduceLT, Nat.reduceLeDiff, litd_t, litd_f, decide_true, decide_false, Bool.not_true, Bool.not_false, not_true_eq_false, not_false_eq_true, true_and, and_true, false_and, and_false, true_or, or_true, false_or, or_false, Int.toNat_natCast, cond_true, cond_false, List.map_cons, List.map_nil, Option.map_some, Option.map_none, bx6, bx9, hp.is, u8L, tk6, eql_ne hne]
    (refine Fin_g (.inr rfl) (by simp -failIfUnchanged (disch := first | assumption | omega | (refine room_i _ _ ?_ ?_ <;> omega) | (refine @_root_.id _ ?_; with_unfolding_all exact Eq.refl _) | (simp only [List.length_take, List.length_drop, List.length_append, List.length_cons, List.length_nil, List.length_replicate, List.length_map] <;> omega) | fail) only [rnL, opL, ruL, hpL, rsL, natL, outL, Nat.add_sub_cancel_left, Nat.mul_one, List.length_cons, List.length_nil, Nat.zero_add, Nat.add_zero, Nat.reduceAdd, Nat.reduceMul, Nat.reduceSub, Nat.reduceEqDiff, Nat.reduceLT, Nat.reduceLeDiff, litd_t, litd_f, decide_true, decide_false, Bool.not_true, Bool.not_false, not_true_eq_false, not_false_eq_true, true_and, and_true, false_and, and_false, true_or, or_true, false_or, or_false, Int.toNat_natCast, cond_true, cond_false, List.map_cons, List.map_nil, Option.map_some, Option.map_none]; rfl) ?_; simp -failIfUnchanged (disch := first | assumption | omega | (refine room_i _ _ ?_ ?_ <;> omega) | (refine @_root_.id _ ?_; with_unfolding_all exact Eq.refl _) | (simp only [List.length_take, List.length_drop, List.length_append, List.length_cons, List.length_nil, List.length_replicate, List.length_map] <;> omega) | fail) only [rnL, opL, ruL, hpL, rsL, natL, outL, Nat.add_sub_cancel_left, Nat.mul_one, List.length_cons, List.length_nil, Nat.zero_add, Nat.add_zero, Nat.reduceAdd, Nat.reduceMul, Nat.reduceSub, Nat.reduceEqDiff, Nat.reduceLT, Nat.reduceLeDiff, litd_t, litd_f, decide_true, decide_false, Bool.not_true, Bool.not_false, not_true_eq_false, not_false_eq_true, true_and, and_true, false_and, and_false, true_or, or_true, false_or, or_false, Int.toNat_natCast, cond_true, cond_false, List.map_cons, List.map_nil, Option.map_some, Option.map_none])
  · have hp := point1 ⟨2, 0, key, [], [], 0⟩ 2 rfl (by decide) (by decide)
    simp only [encMsg, u8L] at hp
    simp only [ir_r04_Check, encMsg, encCfg]
    simp -failIfUnchanged (disch := first | assumption | omega | (refine room_i _ _ ?_ ?_ <;> omega) | (refine @_root_.id _ ?_; with_unfolding_all exact Eq.refl _) | (simp only [List.length_take, List.length_drop, List.length_append, List.length_cons, List.length_nil, List.length_replicate, List.length_map] <;> omega) | fail) only [rnL, opL, ruL, hpL, rsL, natL, outL, Nat.add_sub_cancel_left, Nat.mul_one, List.length_cons, List.length_nil, Nat.zero_add, Nat.add_zero, Nat.reduceAdd, Nat.reduceMul, Nat.reduceSub, Nat.reduceEqDiff, Nat.reduceLT, Nat.reduceLeDiff, litd_t, litd_f, decide_true, decide_false, Bool.not_true, Bool.not_false, not_true_eq_false, not_false_eq_true, true_and, and_true, false_and, and_false, true_or, or_true, false_or, or_false, Int.toNat_natCast, cond_true, cond_false, List.map_cons, List.map_nil, Option.map_some, Option.map_none, bx6, bx9, hp.is, u8L, tk6, eql_ne hne]
    (refine Fin_g (.inr rfl) (by simp -failIfUnchanged (disch := first | assumption | omega | (refine room_i _ _ ?_ ?_ <;> omega) | (refine @_root_.id _ ?_; with_unfolding_all exact Eq.refl _) | (simp only [List.length_take, List.length_drop, List.length_append, List.length_cons, List.length_nil, List.length_replicate, List.length_map] <;> omega) | fail) only [rnL, opL, ruL, hpL, rsL, natL, outL, Nat.add_sub_cancel_left, Nat.mul_one, List.length_cons, List.length_nil, Nat.zero_add, Nat.add_zero, Nat.reduceAdd, Nat.reduceMul, Nat.reduceSub, Nat.reduceEqDiff, Nat.reduceLT, Nat.reduceLeDiff, litd_t, litd_f, decide_true, decide_false, Bool.not_true, Bool.not_false, not_true_eq_false, not_false_eq_true, true_and, and_true, false_and, and_false, true_or, or_true, false_or, or_false, Int.toNat_natCast, cond_true, cond_false, List.map_cons, List.map_nil, Option.map_some, Option.map_none]; rfl) ?_; simp -failIfUnchanged (disch := first | assumption | omega | (refine room_i _ _ ?_ ?_ <;> omega) | (refine @_root_.id _ ?_; with_unfolding_all exact Eq.refl _) | (simp only [List.length_take, List.length_drop, List.length_append, List.length_cons, List.length_nil, List.length_replicate, List.length_map] <;> omega) | fail) only [rnL, opL, ruL, hpL, rsL, natL, outL, Nat.add_sub_cancel_left, Nat.mul_one, List.length_cons, List.length_nil, Nat.zero_add, Nat.add_zero, Nat.reduceAdd, Nat.reduceMul, Nat.reduceSub, Nat.reduceEqDiff, Nat.reduceLT, Nat.reduceLeDiff, litd_t, litd_f, decide_true, decide_false, Bool.not_true, Bool.not_false, not_true_eq_false, not_false_eq_true, true_and, and_true, false_and, and_false, true_or, or_true, false_or, or_false, Int.toNat_natCast, cond_true, cond_false, List.map_cons, List.map_nil, Option.map_some, Option.map_none])
  · have hp := point1 ⟨3, 0, key, [], [], delta⟩ 3 rfl (by decide) (by decide)
    simp only [encMsg, u8L] at hp
    simp only [ir_r04_Check, encMsg, encCfg]
    simp -failIfUnchanged (disch := first | assumption | omega | (refine room_i _ _ ?_ ?_ <;> omega) | (refine @_root_.id _ ?_; with_unfolding_all exact Eq.refl _) | (simp only [List.length_take, List.length_drop, List.length_append, List.length_cons, List.length_nil, List.length_replicate, List.length_map] <;> omega) | fail) only [rnL, opL, ruL, hpL, rsL, natL, outL, Nat.add_sub_cancel_left, Nat.mul_one, List.length_cons, List.length_nil, Nat.zero_add, Nat.add_zero, Nat.reduceAdd, Nat.reduceMul, Nat.reduceSub, Nat.reduceEqDiff, Nat.reduceLT, Nat.reduceLeDiff, litd_t, litd_f, decide_true, decide_false, Bool.not_true, Bool.not_false, not_true_eq_false, not_false_eq_true, true_and, and_true, false_and, and_false, true_or, or_true, false_or, or_false, Int.toNat_natCast, cond_true, cond_false, List.map_cons, List.map_nil, Option.map_some, Option.map_none, bx6, bx9, hp.is, u8L, tk6, eql_ne hne]
    (refine Fin_g (.inr rfl) (by simp -failIfUnchanged (disch := first | assumption | omega | (refine room_i _ _ ?_ ?_ <;> omega) | (refine @_root_.id _ ?_; with_unfolding_all exact Eq.refl _) | (simp only [List.length_take, List.length_drop, List.length_append, List.length_cons, List.length_nil, List.length_replicate, List.length_map] <;> omega) | fail) only [rnL, opL, ruL, hpL, rsL, natL, outL, Nat.add_sub_cancel_left, Nat.mul_one, List.length_cons, List.length_nil, Nat.zero_add, Nat.add_zero, Nat.reduceAdd, Nat.reduceMul, Nat.reduceSub, Nat.reduceEqDiff, Nat.reduceLT, Nat.reduceLeDiff, litd_t, litd_f, decide_true, decide_false, Bool.not_true, Bool.not_false, not_true_eq_false, not_false_eq_true, true_and, and_true, false_and, and_false, true_or, or_true, false_or, or_false, Int.toNat_natCast, cond_true, cond_false, List.map_cons, List.map_nil, Option.map_some, Option.map_none]; rfl) ?_; simp -failIfUnchanged (disch := first | assumption | omega | (refine room_i _ _ ?_ ?_ <;> omega) | (refine @_root_.id _ ?_; with_unfolding_all exact Eq.refl _) | (simp only [List.length_take, List.length_drop, List.length_append, List.length_cons, List.length_nil, List.length_replicate, List.length_map] <;> omega) | fail) only [rnL, opL, ruL, hpL, rsL, natL, outL, Nat.add_sub_cancel_left, Nat.mul_one, List.length_cons, List.length_nil, Nat.zero_add, Nat.add_zero, Nat.reduceAdd, Nat.reduceMul, Nat.reduceSub, Nat.reduceEqDiff, Nat.reduceLT, Nat.reduceLeDiff, litd_t, litd_f, decide_true, decide_false, Bool.not_true, Bool.not_false, not_true_eq_false, not_false_eq_true, true_and, and_true, false_and, and_false, true_or, or_true, false_or, or_false, Int.toNat_natCast, cond_true, cond_false, List.map_cons, List.map_nil, Option.map_some, Option.map_none])
  · have hp := point1 ⟨4, 0, key, key ++ [122], [], 0⟩ 4 rfl (by decide) (by decide)
    have hlen : (key ++ [122]).length = 2 := by simp [h4]
    have hd : decide (slt (key ++ [122]) key ∨ key ++ [122] = key) = false := by simp [slt, blt_snoc]
    simp only [encMsg, u8L] at hp
    simp only [ir_r04_Check, encMsg, encCfg]
    have hnk := fun H => neq_ne (H := H) (k := key ++ [122]) (by simp)
    simp -failIfUnchanged (disch := first | assumption | omega | (refine room_i _ _ ?_ ?_ <;> omega) | (refine @_root_.id _ ?_; with_unfolding_all exact Eq.refl _) | (simp only [List.length_take, List.length_drop, List.length_append, List.length_cons, List.length_nil, List.length_replicate, List.length_map] <;> omega) | fail) only [rnL, opL, ruL, hpL, rsL, natL, outL, Nat.add_sub_cancel_left, Nat.mul_one, List.length_cons, List.length_nil, Nat.zero_add, Nat.add_zero, Nat.reduceAdd, Nat.reduceMul, Nat.reduceSub, Nat.reduceEqDiff, Nat.reduceLT, Nat.reduceLeDiff, litd_t, litd_f, decide_true, decide_false, Bool.not_true, Bool.not_false, not_true_eq_false, not_false_eq_true, true_and, and_true, false_and, and_false, true_or, or_true, false_or, or_false, Int.toNat_natCast, cond_true, cond_false, List.map_cons, List.map_nil, Option.map_some, Option.map_none, bx6, bx9, hp.is, u8L, tk6, hlen, hnk, hd]
    (refine Fin_g (.inr rfl) (by simp -failIfUnchanged (disch := first | assumption | omega | (refine room_i _ _ ?_ ?_ <;> omega) | (refine @_root_.id _ ?_; with_unfolding_all exact Eq.refl _) | (simp only [List.length_take, List.length_drop, List.length_append, List.length_cons, List.length_nil, List.length_replicate, List.length_map] <;> omega) | fail) only [rnL, opL, ruL, hpL, rsL, natL, outL, Nat.add_sub_cancel_left, Nat.mul_one, List.length_cons, List.length_nil, Nat.zero_add, Nat.add_zero, Nat.reduceAdd, Nat.reduceMul, Nat.reduceSub, Nat.reduceEqDiff, Nat.reduceLT, Nat.reduceLeDiff, litd_t, litd_f, decide_true, decide_false, Bool.not_true, Bool.not_false, not_true_eq_false, not_false_eq_true, true_and, and_true, false_and, and_false, true_or, or_true, false_or, or_false, Int.toNat_natCast, cond_true, cond_false, List.map_cons, List.map_nil, Option.map_some, Option.map_none]; rfl) ?_; simp -failIfUnchanged (disch := first | assumption | omega | (refine room_i _ _ ?_ ?_ <;> omega) | (refine @_root_.id _ ?_; with_unfolding_all exact Eq.refl _) | (simp only [List.length_take, List.length_drop, List.length_append, List.length_cons, List.length_nil, List.length_replicate, List.length_map] <;> omega) | fail) only [rnL, opL, ruL, hpL, rsL, natL, outL, Nat.add_sub_cancel_left, Nat.mul_one, List.length_cons, List.length_nil, Nat.zero_add, Nat.add_zero, Nat.reduceAdd, Nat.reduceMul, Nat.reduceSub, Nat.reduceEqDiff, Nat.reduceLT, Nat.reduceLeDiff, litd_t, litd_f, decide_true, decide_false, Bool.not_true, Bool.not_false, not_true_eq_false, not_false_eq_true, true_and, and_true, false_and, and_false, true_or, or_true, false_or, or_false, Int.toNat_natCast, cond_true, cond_false, List.map_cons, List.map_nil, Option.map_some, Option.map_none])
/-- What is asked, and may be. -/
def OpOK (o : Opn) (c : Cfg) : Prop := o.to = [] ∧ (o.batch.nil = true → o.batch.l = []) ∧
  ((o.kind = 1 ∧ 1 ≤ o.key.length ∧ o.key.length ≤ 2 ∧ o.n = 0 ∧ o.batch.l = []) ∨
   (o.kind = 2 ∧ o.key = [] ∧ o.n = 0 ∧ o.batch.l.length ≤ 3 ∧ ∀ m ∈ o.batch.l, MsgOK m) ∨
   (o.kind = 3 ∧ o.key.length ≤ 2 ∧ 1 ≤ o.n ∧ o.n ≤ c.chunk ∧ o.n ≤ 3 ∧ o.batch.l = []) ∨
   (o.kind = 4 ∧ o.key = [] ∧ o.n = 0 ∧ o.batch.l = []) ∨
   (o.kind = 5 ∧ o.key = [] ∧ o.n = 1 ∧ o.batch.l = []))
theorem bx5 {H : Heap} {a0 a1 a2 a3 a4 : AV} : opV H (.box 5 (.c (.agg [a0, a1, a2, a3, a4]))) = some (.ptr H.length 5 0, H ++ [.cells [a0, a1, a2, a3, a4]]) := rfl
theorem tk5 {a0 a1 a2 a3 a4 : AV} : List.take 5 (List.drop 0 [a0, a1, a2, a3, a4]) = [a0, a1, a2, a3, a4] := rfl
theorem zero21 (o : Opn) (c : Cfg) (ho : OpOK o c) : Gives F 78 [.agg (Cel.enc o)] (.bool true) := by
  refine Gives.of fn_r21_zero rfl rfl (args' := [.agg (Cel.enc o)]) (by simp only [mapO_nil, mapO_c2, consO_some, upf_v]) ?_
  obtain ⟨kd, key, to, n, bn, bl⟩ := o
  obtain ⟨h1, h2, h3⟩ := ho
  simp only at h1 h2 h3
  subst h1
  rcases h3 with ⟨rfl, a1, a2, rfl, rfl⟩ | ⟨rfl, rfl, rfl, a1, a2⟩ | ⟨rfl, a1, a2, a3, a4, rfl⟩ | ⟨rfl, rfl, rfl, rfl⟩ | ⟨rfl, rfl, rfl, rfl⟩
  all_goals
    simp only [ir_r21_zero, encOpn]
    simp -failIfUnchanged (disch := first | assumption | omega | (refine room_i _ _ ?_ ?_ <;> omega) | (refine @_root_.id _ ?_; with_unfolding_all exact Eq.refl _) | (simp only [List.length_take, List.length_drop, List.length_append, List.length_cons, List.length_nil, List.length_replicate, List.length_map] <;> omega) | fail) only [rnL, opL, ruL, hpL, rsL, natL, outL, Nat.add_sub_cancel_left, Nat.mul_one, List.length_cons, List.length_nil, Nat.zero_add, Nat.add_zero, Nat.reduceAdd, Nat.reduceMul, Nat.reduceSub, Nat.reduceEqDiff, Nat.reduceLT, Nat.reduceLeDiff, litd_t, litd_f, decide_true, decide_false, Bool.not_true, Bool.not_false, not_true_eq_false, not_false_eq_true, true_and, and_true, false_and, and_false, true_or, or_true, false_or, or_false, Int.toNat_natCast, cond_true, cond_false, List.map_cons, List.map_nil, Option.map_some, Option.map_none, bx5, u8L]
    (refine Fin_g (.inr rfl) (by simp -failIfUnchanged (disch := first | assumption | omega | (refine room_i _ _ ?_ ?_ <;> omega) | (refine @_root_.id _ ?_; with_unfolding_all exact Eq.refl _) | (simp only [List.length_take, List.length_drop, List.length_append, List.length_cons, List.length_nil, List.length_replicate, List.length_map] <;> omega) | fail) only [rnL, opL, ruL, hpL, rsL, natL, outL, Nat.add_sub_cancel_left, Nat.mul_one, List.length_cons, List.length_nil, Nat.zero_add, Nat.add_zero, Nat.reduceAdd, Nat.reduceMul, Nat.reduceSub, Nat.reduceEqDiff, Nat.reduceLT, Nat.reduceLeDiff, litd_t, litd_f, decide_true, decide_false, Bool.not_true, Bool.not_false, not_true_eq_false, not_false_eq_true, true_and, and_true, false_and, and_false, true_or, or_true, false_or, or_false, Int.toNat_natCast, cond_true, cond_false, List.map_cons, List.map_nil, Option.map_some, Option.map_none]; rfl) ?_; simp -failIfUnchanged (disch := first | assumption | omega | (refine room_i _ _ ?_ ?_ <;> omega) | (refine @_root_.id _ ?_; with_unfolding_all exact Eq.refl _) | (simp only [List.length_take, List.length_drop, List.length_append, List.length_cons, List.length_nil, List.length_replicate, List.length_map] <;> omega) | fail) only [rnL, opL, ruL, hpL, rsL, natL, outL, Nat.add_sub_cancel_left, Nat.mul_one, List.length_cons, List.length_nil, Nat.zero_add, Nat.add_zero, Nat.reduceAdd, Nat.reduceMul, Nat.reduceSub, Nat.reduceEqDiff, Nat.reduceLT, Nat.reduceLeDiff, litd_t, litd_f, decide_true, decide_false, Bool.not_true, Bool.not_false, not_true_eq_false, not_false_eq_true, true_and, and_true, false_and, and_false, true_or, or_true, false_or, or_false, Int.toNat_natCast, cond_true, cond_false, List.map_cons, List.map_nil, Option.map_some, Option.map_none])
end Go.AS.Sd

namespace Go.AS.Sd
open Go Go.AS Go.Proofs
set_option maxHeartbeats 4000000
set_option maxRecDepth 100000
theorem tk9' {a0 a1 a2 a3 a4 a5 a6 a7 a8 : AV} : List.take 9 (List.drop 0 [a0, a1, a2, a3, a4, a5, a6, a7, a8]) = [a0, a1, a2, a3, a4, a5, a6, a7, a8] := rfl
theorem ask21_1 (key : Str) (bn : Bool) (l : List Msg) (c2 c3 c4 c5 c6 c7 c8 : Int) (h1 : 1 ≤ key.length) (h2 : key.length ≤ 2) (hl : l.length ≤ 3) (hall : ∀ m ∈ l, MsgOK m) (hz0 : Gives F 78 [.agg (Cel.enc (Opn.mk 1 key [] 0 ⟨bn, l⟩))] (.bool true)) :
    Gives F 63 [.agg (Cel.enc (Opn.mk 1 key [] 0 ⟨bn, l⟩)), .agg (Cel.enc (Cfg.mk 4 16 c2 c3 c4 c5 c6 c7 c8))] (.int .i64 0) := by
  refine Gives.of fn_r21_Ask rfl rfl (args' := [.agg (Cel.enc (Opn.mk 1 key [] 0 ⟨bn, l⟩)), .agg (Cel.enc (Cfg.mk 4 16 c2 c3 c4 c5 c6 c7 c8))]) (by simp only [mapO_nil, mapO_c2, consO_some, upf_v]) ?_
  have hz : CallpIs F 78 [.agg [.int .u8 1, .str key, .str [], .int .i64 0, sl bn l]] (.bool true) := by
    rw [encOpn] at hz0
    exact hz0.isp (by simp [hfrees, hfree, sl_free]) rfl
  have hne : key ≠ [] := fun e => by rw [e] at h1; simp at h1
  simp only [ir_r21_Ask, encOpn, encCfg]
  simp -failIfUnchanged (disch := first | assumption | omega | (refine room_i _ _ ?_ ?_ <;> omega) | (refine @_root_.id _ ?_; with_unfolding_all exact Eq.refl _) | (simp only [List.length_take, List.length_drop, List.length_append, List.length_cons, List.length_nil, List.length_replicate, List.length_map] <;> omega) | fail) only [rnL, opL, ruL, hpL, rsL, natL, outL, Nat.add_sub_cancel_left, Nat.mul_one, List.length_cons, List.length_nil, Nat.zero_add, Nat.add_zero, Nat.reduceAdd, Nat.reduceMul, Nat.reduceSub, Nat.reduceEqDiff, Nat.reduceLT, Nat.reduceLeDiff, litd_t, litd_f, decide_true, decide_false, Bool.not_true, Bool.not_false, not_true_eq_false, not_false_eq_true, true_and, and_true, false_and, and_false, true_or, or_true, false_or, or_false, Int.toNat_natCast, cond_true, cond_false, List.map_cons, List.map_nil, Option.map_some, Option.map_none, bx5, bx9, u8L, tk5, hz, eql_ne hne]
  refine Run_upto l.length (fun i => [(0, .agg [.int .u8 1, .str key, .str [], .int .i64 0, sl bn l]), (1, .agg [.int .i64 4, .int .i64 16, .int .i64 c2, .int .i64 c3, .int .i64 c4, .int .i64 c5, .int .i64 c6, .int .i64 c7, .int .i64 c8]), (2, .ptr 0 5 0), (3, .ptr 1 9 0), (4, .int .i64 0), (5, .int .i64 (i : Nat)), (20, .bool false), (36, .bool false), (45, .bool false)]) (fun _ => [[.cells [.int .u8 1, .str key, .str [], .int .i64 0, sl bn l], .cells [.int .i64 4, .int .i64 16, .int .i64 c2, .int .i64 c3, .int .i64 c4, .int .i64 c5, .int .i64 c6, .int .i64 c7, .int .i64 c8]]]) (fun _ => True) rfl rfl trivial ?_
  intro i hi _
  simp -failIfUnchanged (disch := first | assumption | omega | (refine room_i _ _ ?_ ?_ <;> omega) | (refine @_root_.id _ ?_; with_unfolding_all exact Eq.refl _) | (simp only [List.length_take, List.length_drop, List.length_append, List.length_cons, List.length_nil, List.length_replicate, List.length_map] <;> omega) | fail) only [rnL, opL, ruL, hpL, rsL, natL, outL, Nat.add_sub_cancel_left, Nat.mul_one, List.length_cons, List.length_nil, Nat.zero_add, Nat.add_zero, Nat.reduceAdd, Nat.reduceMul, Nat.reduceSub, Nat.reduceEqDiff, Nat.reduceLT, Nat.reduceLeDiff, litd_t, litd_f, decide_true, decide_false, Bool.not_true, Bool.not_false, not_true_eq_false, not_false_eq_true, true_and, and_true, false_and, and_false, true_or, or_true, false_or, or_false, Int.toNat_natCast, cond_true, cond_false, List.map_cons, List.map_nil, Option.map_some, Option.map_none]
  (first | refine RunB_i (fun q1 => ?_) (fun q1 => ?_) | refine RunG_i (fun q1 => ?_) (fun q1 => ?_) | refine RunB_ib (fun q1 => ?_) (fun q1 => ?_))
  · have hi' : i < l.length := by omega
    have hq : l[i].seq = 0 := (hall _ (List.getElem_mem hi')).1
    simp -failIfUnchanged (disch := first | assumption | omega | (refine room_i _ _ ?_ ?_ <;> omega) | (refine @_root_.id _ ?_; with_unfolding_all exact Eq.refl _) | (simp only [List.length_take, List.length_drop, List.length_append, List.length_cons, List.length_nil, List.length_replicate, List.length_map] <;> omega) | fail) only [rnL, opL, ruL, hpL, rsL, natL, outL, Nat.add_sub_cancel_left, Nat.mul_one, List.length_cons, List.length_nil, Nat.zero_add, Nat.add_zero, Nat.reduceAdd, Nat.reduceMul, Nat.reduceSub, Nat.reduceEqDiff, Nat.reduceLT, Nat.reduceLeDiff, litd_t, litd_f, decide_true, decide_false, Bool.not_true, Bool.not_false, not_true_eq_false, not_false_eq_true, true_and, and_true, false_and, and_false, true_or, or_true, false_or, or_false, Int.toNat_natCast, cond_true, cond_false, List.map_cons, List.map_nil, Option.map_some, Option.map_none, datL, hq, neq_ii]
    exact Nx.i hi' rfl rfl trivial
  simp -failIfUnchanged (disch := first | assumption | omega | (refine room_i _ _ ?_ ?_ <;> omega) | (refine @_root_.id _ ?_; with_unfolding_all exact Eq.refl _) | (simp only [List.length_take, List.length_drop, List.length_append, List.length_cons, List.length_nil, List.length_replicate, List.length_map] <;> omega) | fail) only [rnL, opL, ruL, hpL, rsL, natL, outL, Nat.add_sub_cancel_left, Nat.mul_one, List.length_cons, List.length_nil, Nat.zero_add, Nat.add_zero, Nat.reduceAdd, Nat.reduceMul, Nat.reduceSub, Nat.reduceEqDiff, Nat.reduceLT, Nat.reduceLeDiff, litd_t, litd_f, decide_true, decide_false, Bool.not_true, Bool.not_false, not_true_eq_false, not_false_eq_true, true_and, and_true, false_and, and_false, true_or, or_true, false_or, or_false, Int.toNat_natCast, cond_true, cond_false, List.map_cons, List.map_nil, Option.map_some, Option.map_none]
  refine Run_upto l.length (fun j => [(0, .agg [.int .u8 1, .str key, .str [], .int .i64 0, sl bn l]), (1, .agg [.int .i64 4, .int .i64 16, .int .i64 c2, .int .i64 c3, .int .i64 c4, .int .i64 c5, .int .i64 c6, .int .i64 c7, .int .i64 c8]), (2, .ptr 0 5 0), (3, .ptr 1 9 0), (4, .int .i64 0), (5, .int .i64 (i : Nat)), (6, .int .i64 (j : Nat)), (20, .bool false), (36, .bool false), (45, .bool false)]) (fun _ => [[.cells [.int .u8 1, .str key, .str [], .int .i64 0, sl bn l], .cells [.int .i64 4, .int .i64 16, .int .i64 c2, .int .i64 c3, .int .i64 c4, .int .i64 c5, .int .i64 c6, .int .i64 c7, .int .i64 c8]]]) (fun _ => True) rfl rfl trivial ?_
  intro j hj _
  simp -failIfUnchanged (disch := first | assumption | omega | (refine room_i _ _ ?_ ?_ <;> omega) | (refine @_root_.id _ ?_; with_unfolding_all exact Eq.refl _) | (simp only [List.length_take, List.length_drop, List.length_append, List.length_cons, List.length_nil, List.length_replicate, List.length_map] <;> omega) | fail) only [rnL, opL, ruL, hpL, rsL, natL, outL, Nat.add_sub_cancel_left, Nat.mul_one, List.length_cons, List.length_nil, Nat.zero_add, Nat.add_zero, Nat.reduceAdd, Nat.reduceMul, Nat.reduceSub, Nat.reduceEqDiff, Nat.reduceLT, Nat.reduceLeDiff, litd_t, litd_f, decide_true, decide_false, Bool.not_true, Bool.not_false, not_true_eq_false, not_false_eq_true, true_and, and_true, false_and, and_false, true_or, or_true, false_or, or_false, Int.toNat_natCast, cond_true, cond_false, List.map_cons, List.map_nil, Option.map_some, Option.map_none]
  (first | refine RunB_i (fun q2 => ?_) (fun q2 => ?_) | refine RunG_i (fun q2 => ?_) (fun q2 => ?_) | refine RunB_ib (fun q2 => ?_) (fun q2 => ?_))
  · have hj' : j < l.length := by omega
    have hc := chk04 _ (hall _ (List.getElem_mem hj')) (Cfg.mk 4 16 c2 c3 c4 c5 c6 c7 c8) rfl rfl
    rw [encCfg] at hc
    have hc := hc.isp (by simp [hfrees, hfree, Cel.free]) rfl
    simp -failIfUnchanged (disch := first | assumption | omega | (refine room_i _ _ ?_ ?_ <;> omega) | (refine @_root_.id _ ?_; with_unfolding_all exact Eq.refl _) | (simp only [List.length_take, List.length_drop, List.length_append, List.length_cons, List.length_nil, List.length_replicate, List.length_map] <;> omega) | fail) only [rnL, opL, ruL, hpL, rsL, natL, outL, Nat.add_sub_cancel_left, Nat.mul_one, List.length_cons, List.length_nil, Nat.zero_add, Nat.add_zero, Nat.reduceAdd, Nat.reduceMul, Nat.reduceSub, Nat.reduceEqDiff, Nat.reduceLT, Nat.reduceLeDiff, litd_t, litd_f, decide_true, decide_false, Bool.not_true, Bool.not_false, not_true_eq_false, not_false_eq_true, true_and, and_true, false_and, and_false, true_or, or_true, false_or, or_false, Int.toNat_natCast, cond_true, cond_false, List.map_cons, List.map_nil, Option.map_some, Option.map_none, datL, tk9', hc, neq_ii]
    exact Nx.i hj' rfl rfl trivial
  simp -failIfUnchanged (disch := first | assumption | omega | (refine room_i _ _ ?_ ?_ <;> omega) | (refine @_root_.id _ ?_; with_unfolding_all exact Eq.refl _) | (simp only [List.length_take, List.length_drop, List.length_append, List.length_cons, List.length_nil, List.length_replicate, List.length_map] <;> omega) | fail) only [rnL, opL, ruL, hpL, rsL, natL, outL, Nat.add_sub_cancel_left, Nat.mul_one, List.length_cons, List.length_nil, Nat.zero_add, Nat.add_zero, Nat.reduceAdd, Nat.reduceMul, Nat.reduceSub, Nat.reduceEqDiff, Nat.reduceLT, Nat.reduceLeDiff, litd_t, litd_f, decide_true, decide_false, Bool.not_true, Bool.not_false, not_true_eq_false, not_false_eq_true, true_and, and_true, false_and, and_false, true_or, or_true, false_or, or_false, Int.toNat_natCast, cond_true, cond_false, List.map_cons, List.map_nil, Option.map_some, Option.map_none]
  (refine Fin_g (.inr rfl) (by simp -failIfUnchanged (disch := first | assumption | omega | (refine room_i _ _ ?_ ?_ <;> omega) | (refine @_root_.id _ ?_; with_unfolding_all exact Eq.refl _) | (simp only [List.length_take, List.length_drop, List.length_append, List.length_cons, List.length_nil, List.length_replicate, List.length_map] <;> omega) | fail) only [rnL, opL, ruL, hpL, rsL, natL, outL, Nat.add_sub_cancel_left, Nat.mul_one, List.length_cons, List.length_nil, Nat.zero_add, Nat.add_zero, Nat.reduceAdd, Nat.reduceMul, Nat.reduceSub, Nat.reduceEqDiff, Nat.reduceLT, Nat.reduceLeDiff, litd_t, litd_f, decide_true, decide_false, Bool.not_true, Bool.not_false, not_true_eq_false, not_false_eq_true, true_and, and_true, false_and, and_false, true_or, or_true, false_or, or_false, Int.toNat_natCast, cond_true, cond_false, List.map_cons, List.map_nil, Option.map_some, Option.map_none]; rfl) ?_; simp -failIfUnchanged (disch := first | assumption | omega | (refine room_i _ _ ?_ ?_ <;> omega) | (refine @_root_.id _ ?_; with_unfolding_all exact Eq.refl _) | (simp only [List.length_take, List.length_drop, List.length_append, List.length_cons, List.length_nil, List.length_replicate, List.length_map] <;> omega) | fail) only [rnL, opL, ruL, hpL, rsL, natL, outL, Nat.add_sub_cancel_left, Nat.mul_one, List.length_cons, List.length_nil, Nat.zero_add, Nat.add_zero, Nat.reduceAdd, Nat.reduceMul, Nat.reduceSub, Nat.reduceEqDiff, Nat.reduceLT, Nat.reduceLeDiff, litd_t, litd_f, decide_true, decide_false, Bool.not_true, Bool.not_false, not_true_eq_false, not_false_eq_true, true_and, and_true, false_and, and_false, true_or, or_true, false_or, or_false, Int.toNat_natCast, cond_true, cond_false, List.map_cons, List.map_nil, Option.map_some, Option.map_none])
theorem ask21_2 (bn : Bool) (l : List Msg) (c2 c3 c4 c5 c6 c7 c8 : Int)  (hl : l.length ≤ 3) (hall : ∀ m ∈ l, MsgOK m) (hz0 : Gives F 78 [.agg (Cel.enc (Opn.mk 2 [] [] 0 ⟨bn, l⟩))] (.bool true)) :
    Gives F 63 [.agg (Cel.enc (Opn.mk 2 [] [] 0 ⟨bn, l⟩)), .agg (Cel.enc (Cfg.mk 4 16 c2 c3 c4 c5 c6 c7 c8))] (.int .i64 0) := by
  refine Gives.of fn_r21_Ask rfl rfl (args' := [.agg (Cel.enc (Opn.mk 2 [] [] 0 ⟨bn, l⟩)), .agg (Cel.enc (Cfg.mk 4 16 c2 c3 c4 c5 c6 c7 c8))]) (by simp only [mapO_nil, mapO_c2, consO_some, upf_v]) ?_
  have hz : CallpIs F 78 [.agg [.int .u8 2, .str [], .str [], .int .i64 0, sl bn l]] (.bool true) := by
    rw [encOpn] at hz0
    exact hz0.isp (by simp [hfrees, hfree, sl_free]) rfl
  simp only [ir_r21_Ask, encOpn, encCfg]
  simp -failIfUnchanged (disch := first | assumption | omega | (refine room_i _ _ ?_ ?_ <;> omega) | (refine @_root_.id _ ?_; with_unfolding_all exact Eq.refl _) | (simp only [List.length_take, List.length_drop, List.length_append, List.length_cons, List.length_nil, List.length_replicate, List.length_map] <;> omega) | fail) only [rnL, opL, ruL, hpL, rsL, natL, outL, Nat.add_sub_cancel_left, Nat.mul_one, List.length_cons, List.length_nil, Nat.zero_add, Nat.add_zero, Nat.reduceAdd, Nat.reduceMul, Nat.reduceSub, Nat.reduceEqDiff, Nat.reduceLT, Nat.reduceLeDiff, litd_t, litd_f, decide_true, decide_false, Bool.not_true, Bool.not_false, not_true_eq_false, not_false_eq_true, true_and, and_true, false_and, and_false, true_or, or_true, false_or, or_false, Int.toNat_natCast, cond_true, cond_false, List.map_cons, List.map_nil, Option.map_some, Option.map_none, bx5, bx9, u8L, tk5, hz]
  refine Run_upto l.length (fun i => [(0, .agg [.int .u8 2, .str [], .str [], .int .i64 0, sl bn l]), (1, .agg [.int .i64 4, .int .i64 16, .int .i64 c2, .int .i64 c3, .int .i64 c4, .int .i64 c5, .int .i64 c6, .int .i64 c7, .int .i64 c8]), (2, .ptr 0 5 0), (3, .ptr 1 9 0), (4, .int .i64 0), (5, .int .i64 (i : Nat)), (20, .bool false), (36, .bool false), (45, .bool false)]) (fun _ => [[.cells [.int .u8 2, .str [], .str [], .int .i64 0, sl bn l], .cells [.int .i64 4, .int .i64 16, .int .i64 c2, .int .i64 c3, .int .i64 c4, .int .i64 c5, .int .i64 c6, .int .i64 c7, .int .i64 c8]]]) (fun _ => True) rfl rfl trivial ?_
  intro i hi _
  simp -failIfUnchanged (disch := first | assumption | omega | (refine room_i _ _ ?_ ?_ <;> omega) | (refine @_root_.id _ ?_; with_unfolding_all exact Eq.refl _) | (simp only [List.length_take, List.length_drop, List.length_append, List.length_cons, List.length_nil, List.length_replicate, List.length_map] <;> omega) | fail) only [rnL, opL, ruL, hpL, rsL, natL, outL, Nat.add_sub_cancel_left, Nat.mul_one, List.length_cons, List.length_nil, Nat.zero_add, Nat.add_zero, Nat.reduceAdd, Nat.reduceMul, Nat.reduceSub, Nat.reduceEqDiff, Nat.reduceLT, Nat.reduceLeDiff, litd_t, litd_f, decide_true, decide_false, Bool.not_true, Bool.not_false, not_true_eq_false, not_false_eq_true, true_and, and_true, false_and, and_false, true_or, or_true, false_or, or_false, Int.toNat_natCast, cond_true, cond_false, List.map_cons, List.map_nil, Option.map_some, Option.map_none]
  (first | refine RunB_i (fun q1 => ?_) (fun q1 => ?_) | refine RunG_i (fun q1 => ?_) (fun q1 => ?_) | refine RunB_ib (fun q1 => ?_) (fun q1 => ?_))
  · have hi' : i < l.length := by omega
    have hq : l[i].seq = 0 := (hall _ (List.getElem_mem hi')).1
    simp -failIfUnchanged (disch := first | assumption | omega | (refine room_i _ _ ?_ ?_ <;> omega) | (refine @_root_.id _ ?_; with_unfolding_all exact Eq.refl _) | (simp only [List.length_take, List.length_drop, List.length_append, List.length_cons, List.length_nil, List.length_replicate, List.length_map] <;> omega) | fail) only [rnL, opL, ruL, hpL, rsL, natL, outL, Nat.add_sub_cancel_left, Nat.mul_one, List.length_cons, List.length_nil, Nat.zero_add, Nat.add_zero, Nat.reduceAdd, Nat.reduceMul, Nat.reduceSub, Nat.reduceEqDiff, Nat.reduceLT, Nat.reduceLeDiff, litd_t, litd_f, decide_true, decide_false, Bool.not_true, Bool.not_false, not_true_eq_false, not_false_eq_true, true_and, and_true, false_and, and_false, true_or, or_true, false_or, or_false, Int.toNat_natCast, cond_true, cond_false, List.map_cons, List.map_nil, Option.map_some, Option.map_none, datL, hq, neq_ii]
    exact Nx.i hi' rfl rfl trivial
  simp -failIfUnchanged (disch := first | assumption | omega | (refine room_i _ _ ?_ ?_ <;> omega) | (refine @_root_.id _ ?_; with_unfolding_all exact Eq.refl _) | (simp only [List.length_take, List.length_drop, List.length_append, List.length_cons, List.length_nil, List.length_replicate, List.length_map] <;> omega) | fail) only [rnL, opL, ruL, hpL, rsL, natL, outL, Nat.add_sub_cancel_left, Nat.mul_one, List.length_cons, List.length_nil, Nat.zero_add, Nat.add_zero, Nat.reduceAdd, Nat.reduceMul, Nat.reduceSub, Nat.reduceEqDiff, Nat.reduceLT, Nat.reduceLeDiff, litd_t, litd_f, decide_true, decide_false, Bool.not_true, Bool.not_false, not_true_eq_false, not_false_eq_true, true_and, and_true, false_and, and_false, true_or, or_true, false_or, or_false, Int.toNat_natCast, cond_true, cond_false, List.map_cons, List.map_nil, Option.map_some, Option.map_none]
  refine Run_upto l.length (fun j => [(0, .agg [.int .u8 2, .str [], .str [], .int .i64 0, sl bn l]), (1, .agg [.int .i64 4, .int .i64 16, .int .i64 c2, .int .i64 c3, .int .i64 c4, .int .i64 c5, .int .i64 c6, .int .i64 c7, .int .i64 c8]), (2, .ptr 0 5 0), (3, .ptr 1 9 0), (4, .int .i64 0), (5, .int .i64 (i : Nat)), (6, .int .i64 (j : Nat)), (20, .bool false), (36, .bool false), (45, .bool false)]) (fun _ => [[.cells [.int .u8 2, .str [], .str [], .int .i64 0, sl bn l], .cells [.int .i64 4, .int .i64 16, .int .i64 c2, .int .i64 c3, .int .i64 c4, .int .i64 c5, .int .i64 c6, .int .i64 c7, .int .i64 c8]]]) (fun _ => True) rfl rfl trivial ?_
  intro j hj _
  simp -failIfUnchanged (disch := first | assumption | omega | (refine room_i _ _ ?_ ?_ <;> omega) | (refine @_root_.id _ ?_; with_unfolding_all exact Eq.refl _) | (simp only [List.length_take, List.length_drop, List.length_append, List.length_cons, List.length_nil, List.length_replicate, List.length_map] <;> omega) | fail) only [rnL, opL, ruL, hpL, rsL, natL, outL, Nat.add_sub_cancel_left, Nat.mul_one, List.length_cons, List.length_nil, Nat.zero_add, Nat.add_zero, Nat.reduceAdd, Nat.reduceMul, Nat.reduceSub, Nat.reduceEqDiff, Nat.reduceLT, Nat.reduceLeDiff, litd_t, litd_f, decide_true, decide_false, Bool.not_true, Bool.not_false, not_true_eq_false, not_false_eq_true, true_and, and_true, false_and, and_false, true_or, or_true, false_or, or_false, Int.toNat_natCast, cond_true, cond_false, List.map_cons, List.map_nil, Option.map_some, Option.map_none]
  (first | refine RunB_i (fun q2 => ?_) (fun q2 => ?_) | refine RunG_i (fun q2 => ?_) (fun q2 => ?_) | refine RunB_ib (fun q2 => ?_) (fun q2 => ?_))
  · have hj' : j < l.length := by omega
    have hc := chk04 _ (hall _ (List.getElem_mem hj')) (Cfg.mk 4 16 c2 c3 c4 c5 c6 c7 c8) rfl rfl
    rw [encCfg] at hc
    have hc := hc.isp (by simp [hfrees, hfree, Cel.free]) rfl
    simp -failIfUnchanged (disch := first | assumption | omega | (refine room_i _ _ ?_ ?_ <;> omega) | (refine @_root_.id _ ?_; with_unfolding_all exact Eq.refl _) | (simp only [List.length_take, List.length_drop, List.length_append, List.length_cons, List.length_nil, List.length_replicate, List.length_map] <;> omega) | fail) only [rnL, opL, ruL, hpL, rsL, natL, outL, Nat.add_sub_cancel_left, Nat.mul_one, List.length_cons, List.length_nil, Nat.zero_add, Nat.add_zero, Nat.reduceAdd, Nat.reduceMul, Nat.reduceSub, Nat.reduceEqDiff, Nat.reduceLT, Nat.reduceLeDiff, litd_t, litd_f, decide_true, decide_false, Bool.not_true, Bool.not_false, not_true_eq_false, not_false_eq_true, true_and, and_true, false_and, and_false, true_or, or_true, false_or, or_false, Int.toNat_natCast, cond_true, cond_false, List.map_cons, List.map_nil, Option.map_some, Option.map_none, datL, tk9', hc, neq_ii]
    exact Nx.i hj' rfl rfl trivial
  simp -failIfUnchanged (disch := first | assumption | omega | (refine room_i _ _ ?_ ?_ <;> omega) | (refine @_root_.id _ ?_; with_unfolding_all exact Eq.refl _) | (simp only [List.length_take, List.length_drop, List.length_append, List.length_cons, List.length_nil, List.length_replicate, List.length_map] <;> omega) | fail) only [rnL, opL, ruL, hpL, rsL, natL, outL, Nat.add_sub_cancel_left, Nat.mul_one, List.length_cons, List.length_nil, Nat.zero_add, Nat.add_zero, Nat.reduceAdd, Nat.reduceMul, Nat.reduceSub, Nat.reduceEqDiff, Nat.reduceLT, Nat.reduceLeDiff, litd_t, litd_f, decide_true, decide_false, Bool.not_true, Bool.not_false, not_true_eq_false, not_false_eq_true, true_and, and_true, false_and, and_false, true_or, or_true, false_or, or_false, Int.toNat_natCast, cond_true, cond_false, List.map_cons, List.map_nil, Option.map_some, Option.map_none]
  (refine Fin_g (.inr rfl) (by simp -failIfUnchanged (disch := first | assumption | omega | (refine room_i _ _ ?_ ?_ <;> omega) | (refine @_root_.id _ ?_; with_unfolding_all exact Eq.refl _) | (simp only [List.length_take, List.length_drop, List.length_append, List.length_cons, List.length_nil, List.length_replicate, List.length_map] <;> omega) | fail) only [rnL, opL, ruL, hpL, rsL, natL, outL, Nat.add_sub_cancel_left, Nat.mul_one, List.length_cons, List.length_nil, Nat.zero_add, Nat.add_zero, Nat.reduceAdd, Nat.reduceMul, Nat.reduceSub, Nat.reduceEqDiff, Nat.reduceLT, Nat.reduceLeDiff, litd_t, litd_f, decide_true, decide_false, Bool.not_true, Bool.not_false, not_true_eq_false, not_false_eq_true, true_and, and_true, false_and, and_false, true_or, or_true, false_or, or_false, Int.toNat_natCast, cond_true, cond_false, List.map_cons, List.map_nil, Option.map_some, Option.map_none]; rfl) ?_; simp -failIfUnchanged (disch := first | assumption | omega | (refine room_i _ _ ?_ ?_ <;> omega) | (refine @_root_.id _ ?_; with_unfolding_all exact Eq.refl _) | (simp only [List.length_take, List.length_drop, List.length_append, List.length_cons, List.length_nil, List.length_replicate, List.length_map] <;> omega) | fail) only [rnL, opL, ruL, hpL, rsL, natL, outL, Nat.add_sub_cancel_left, Nat.mul_one, List.length_cons, List.length_nil, Nat.zero_add, Nat.add_zero, Nat.reduceAdd, Nat.reduceMul, Nat.reduceSub, Nat.reduceEqDiff, Nat.reduceLT, Nat.reduceLeDiff, litd_t, litd_f, decide_true, decide_false, Bool.not_true, Bool.not_false, not_true_eq_false, not_false_eq_true, true_and, and_true, false_and, and_false, true_or, or_true, false_or, or_false, Int.toNat_natCast, cond_true, cond_false, List.map_cons, List.map_nil, Option.map_some, Option.map_none])
theorem ask21_3 (key : Str) (n : Int) (bn : Bool) (l : List Msg) (c2 c3 c4 c5 c6 c7 c8 : Int) (h2 : key.length ≤ 2) (h3 : 1 ≤ n) (h4 : n ≤ c8) (h5 : n ≤ 3) (hl : l.length ≤ 3) (hall : ∀ m ∈ l, MsgOK m) (hz0 : Gives F 78 [.agg (Cel.enc (Opn.mk 3 key [] n ⟨bn, l⟩))] (.bool true)) :
    Gives F 63 [.agg (Cel.enc (Opn.mk 3 key [] n ⟨bn, l⟩)), .agg (Cel.enc (Cfg.mk 4 16 c2 c3 c4 c5 c6 c7 c8))] (.int .i64 0) := by
  refine Gives.of fn_r21_Ask rfl rfl (args' := [.agg (Cel.enc (Opn.mk 3 key [] n ⟨bn, l⟩)), .agg (Cel.enc (Cfg.mk 4 16 c2 c3 c4 c5 c6 c7 c8))]) (by simp only [mapO_nil, mapO_c2, consO_some, upf_v]) ?_
  have hz : CallpIs F 78 [.agg [.int .u8 3, .str key, .str [], .int .i64 n, sl bn l]] (.bool true) := by
    rw [encOpn] at hz0
    exact hz0.isp (by simp [hfrees, hfree, sl_free]) rfl
  simp only [ir_r21_Ask, encOpn, encCfg]
  simp -failIfUnchanged (disch := first | assumption | omega | (refine room_i _ _ ?_ ?_ <;> omega) | (refine @_root_.id _ ?_; with_unfolding_all exact Eq.refl _) | (simp only [List.length_take, List.length_drop, List.length_append, List.length_cons, List.length_nil, List.length_replicate, List.length_map] <;> omega) | fail) only [rnL, opL, ruL, hpL, rsL, natL, outL, Nat.add_sub_cancel_left, Nat.mul_one, List.length_cons, List.length_nil, Nat.zero_add, Nat.add_zero, Nat.reduceAdd, Nat.reduceMul, Nat.reduceSub, Nat.reduceEqDiff, Nat.reduceLT, Nat.reduceLeDiff, litd_t, litd_f, decide_true, decide_false, Bool.not_true, Bool.not_false, not_true_eq_false, not_false_eq_true, true_and, and_true, false_and, and_false, true_or, or_true, false_or, or_false, Int.toNat_natCast, cond_true, cond_false, List.map_cons, List.map_nil, Option.map_some, Option.map_none, bx5, bx9, u8L, tk5, hz]
  refine Run_upto l.length (fun i => [(0, .agg [.int .u8 3, .str key, .str [], .int .i64 n, sl bn l]), (1, .agg [.int .i64 4, .int .i64 16, .int .i64 c2, .int .i64 c3, .int .i64 c4, .int .i64 c5, .int .i64 c6, .int .i64 c7, .int .i64 c8]), (2, .ptr 0 5 0), (3, .ptr 1 9 0), (4, .int .i64 0), (5, .int .i64 (i : Nat)), (20, .bool false), (36, .bool false), (45, .bool false)]) (fun _ => [[.cells [.int .u8 3, .str key, .str [], .int .i64 n, sl bn l], .cells [.int .i64 4, .int .i64 16, .int .i64 c2, .int .i64 c3, .int .i64 c4, .int .i64 c5, .int .i64 c6, .int .i64 c7, .int .i64 c8]]]) (fun _ => True) rfl rfl trivial ?_
  intro i hi _
  simp -failIfUnchanged (disch := first | assumption | omega | (refine room_i _ _ ?_ ?_ <;> omega) | (refine @_root_.id _ ?_; with_unfolding_all exact Eq.refl _) | (simp only [List.length_take, List.length_drop, List.length_append, List.length_cons, List.length_nil, List.length_replicate, List.length_map] <;> omega) | fail) only [rnL, opL, ruL, hpL, rsL, natL, outL, Nat.add_sub_cancel_left, Nat.mul_one, List.length_cons, List.length_nil, Nat.zero_add, Nat.add_zero, Nat.reduceAdd, Nat.reduceMul, Nat.reduceSub, Nat.reduceEqDiff, Nat.reduceLT, Nat.reduceLeDiff, litd_t, litd_f, decide_true, decide_false, Bool.not_true, Bool.not_false, not_true_eq_false, not_false_eq_true, true_and, and_true, false_and, and_false, true_or, or_true, false_or, or_false, Int.toNat_natCast, cond_true, cond_false, List.map_cons, List.map_nil, Option.map_some, Option.map_none]
  (first | refine RunB_i (fun q1 => ?_) (fun q1 => ?_) | refine RunG_i (fun q1 => ?_) (fun q1 => ?_) | refine RunB_ib (fun q1 => ?_) (fun q1 => ?_))
  · have hi' : i < l.length := by omega
    have hq : l[i].seq = 0 := (hall _ (List.getElem_mem hi')).1
    simp -failIfUnchanged (disch := first | assumption | omega | (refine room_i _ _ ?_ ?_ <;> omega) | (refine @_root_.id _ ?_; with_unfolding_all exact Eq.refl _) | (simp only [List.length_take, List.length_drop, List.length_append, List.length_cons, List.length_nil, List.length_replicate, List.length_map] <;> omega) | fail) only [rnL, opL, ruL, hpL, rsL, natL, outL, Nat.add_sub_cancel_left, Nat.mul_one, List.length_cons, List.length_nil, Nat.zero_add, Nat.add_zero, Nat.reduceAdd, Nat.reduceMul, Nat.reduceSub, Nat.reduceEqDiff, Nat.reduceLT, Nat.reduceLeDiff, litd_t, litd_f, decide_true, decide_false, Bool.not_true, Bool.not_false, not_true_eq_false, not_false_eq_true, true_and, and_true, false_and, and_false, true_or, or_true, false_or, or_false, Int.toNat_natCast, cond_true, cond_false, List.map_cons, List.map_nil, Option.map_some, Option.map_none, datL, hq, neq_ii]
    exact Nx.i hi' rfl rfl trivial
  simp -failIfUnchanged (disch := first | assumption | omega | (refine room_i _ _ ?_ ?_ <;> omega) | (refine @_root_.id _ ?_; with_unfolding_all exact Eq.refl _) | (simp only [List.length_take, List.length_drop, List.length_append, List.length_cons, List.length_nil, List.length_replicate, List.length_map] <;> omega) | fail) only [rnL, opL, ruL, hpL, rsL, natL, outL, Nat.add_sub_cancel_left, Nat.mul_one, List.length_cons, List.length_nil, Nat.zero_add, Nat.add_zero, Nat.reduceAdd, Nat.reduceMul, Nat.reduceSub, Nat.reduceEqDiff, Nat.reduceLT, Nat.reduceLeDiff, litd_t, litd_f, decide_true, decide_false, Bool.not_true, Bool.not_false, not_true_eq_false, not_false_eq_true, true_and, and_true, false_and, and_false, true_or, or_true, false_or, or_false, Int.toNat_natCast, cond_true, cond_false, List.map_cons, List.map_nil, Option.map_some, Option.map_none]
  refine Run_upto l.length (fun j => [(0, .agg [.int .u8 3, .str key, .str [], .int .i64 n, sl bn l]), (1, .agg [.int .i64 4, .int .i64 16, .int .i64 c2, .int .i64 c3, .int .i64 c4, .int .i64 c5, .int .i64 c6, .int .i64 c7, .int .i64 c8]), (2, .ptr 0 5 0), (3, .ptr 1 9 0), (4, .int .i64 0), (5, .int .i64 (i : Nat)), (6, .int .i64 (j : Nat)), (20, .bool false), (36, .bool false), (45, .bool false)]) (fun _ => [[.cells [.int .u8 3, .str key, .str [], .int .i64 n, sl bn l], .cells [.int .i64 4, .int .i64 16, .int .i64 c2, .int .i64 c3, .int .i64 c4, .int .i64 c5, .int .i64 c6, .int .i64 c7, .int .i64 c8]]]) (fun _ => True) rfl rfl trivial ?_
  intro j hj _
  simp -failIfUnchanged (disch := first | assumption | omega | (refine room_i _ _ ?_ ?_ <;> omega) | (refine @_root_.id _ ?_; with_unfolding_all exact Eq.refl _) | (simp only [List.length_take, List.length_drop, List.length_append, List.length_cons, List.length_nil, List.length_replicate, List.length_map] <;> omega) | fail) only [rnL, opL, ruL, hpL, rsL, natL, outL, Nat.add_sub_cancel_left, Nat.mul_one, List.length_cons, List.length_nil, Nat.zero_add, Nat.add_zero, Nat.reduceAdd, Nat.reduceMul, Nat.reduceSub, Nat.reduceEqDiff, Nat.reduceLT, Nat.reduceLeDiff, litd_t, litd_f, decide_true, decide_false, Bool.not_true, Bool.not_false, not_true_eq_false, not_false_eq_true, true_and, and_true, false_and, and_false, true_or, or_true, false_or, or_false, Int.toNat_natCast, cond_true, cond_false, List.map_cons, List.map_nil, Option.map_some, Option.map_none]
  (first | refine RunB_i (fun q2 => ?_) (fun q2 => ?_) | refine RunG_i (fun q2 => ?_) (fun q2 => ?_) | refine RunB_ib (fun q2 => ?_) (fun q2 => ?_))
  · have hj' : j < l.length := by omega
    have hc := chk04 _ (hall _ (List.getElem_mem hj')) (Cfg.mk 4 16 c2 c3 c4 c5 c6 c7 c8) rfl rfl
    rw [encCfg] at hc
    have hc := hc.isp (by simp [hfrees, hfree, Cel.free]) rfl
    simp -failIfUnchanged (disch := first | assumption | omega | (refine room_i _ _ ?_ ?_ <;> omega) | (refine @_root_.id _ ?_; with_unfolding_all exact Eq.refl _) | (simp only [List.length_take, List.length_drop, List.length_append, List.length_cons, List.length_nil, List.length_replicate, List.length_map] <;> omega) | fail) only [rnL, opL, ruL, hpL, rsL, natL, outL, Nat.add_sub_cancel_left, Nat.mul_one, List.length_cons, List.length_nil, Nat.zero_add, Nat.add_zero, Nat.reduceAdd, Nat.reduceMul, Nat.reduceSub, Nat.reduceEqDiff, Nat.reduceLT, Nat.reduceLeDiff, litd_t, litd_f, decide_true, decide_false, Bool.not_true, Bool.not_false, not_true_eq_false, not_false_eq_true, true_and, and_true, false_and, and_false, true_or, or_true, false_or, or_false, Int.toNat_natCast, cond_true, cond_false, List.map_cons, List.map_nil, Option.map_some, Option.map_none, datL, tk9', hc, neq_ii]
    exact Nx.i hj' rfl rfl trivial
  simp -failIfUnchanged (disch := first | assumption | omega | (refine room_i _ _ ?_ ?_ <;> omega) | (refine @_root_.id _ ?_; with_unfolding_all exact Eq.refl _) | (simp only [List.length_take, List.length_drop, List.length_append, List.length_cons, List.length_nil, List.length_replicate, List.length_map] <;> omega) | fail) only [rnL, opL, ruL, hpL, rsL, natL, outL, Nat.add_sub_cancel_left, Nat.mul_one, List.length_cons, List.length_nil, Nat.zero_add, Nat.add_zero, Nat.reduceAdd, Nat.reduceMul, Nat.reduceSub, Nat.reduceEqDiff, Nat.reduceLT, Nat.reduceLeDiff, litd_t, litd_f, decide_true, decide_false, Bool.not_true, Bool.not_false, not_true_eq_false, not_false_eq_true, true_and, and_true, false_and, and_false, true_or, or_true, false_or, or_false, Int.toNat_natCast, cond_true, cond_false, List.map_cons, List.map_nil, Option.map_some, Option.map_none]
  (refine Fin_g (.inr rfl) (by simp -failIfUnchanged (disch := first | assumption | omega | (refine room_i _ _ ?_ ?_ <;> omega) | (refine @_root_.id _ ?_; with_unfolding_all exact Eq.refl _) | (simp only [List.length_take, List.length_drop, List.length_append, List.length_cons, List.length_nil, List.length_replicate, List.length_map] <;> omega) | fail) only [rnL, opL, ruL, hpL, rsL, natL, outL, Nat.add_sub_cancel_left, Nat.mul_one, List.length_cons, List.length_nil, Nat.zero_add, Nat.add_zero, Nat.reduceAdd, Nat.reduceMul, Nat.reduceSub, Nat.reduceEqDiff, Nat.reduceLT, Nat.reduceLeDiff, litd_t, litd_f, decide_true, decide_false, Bool.not_true, Bool.not_false, not_true_eq_false, not_false_eq_true, true_and, and_true, false_and, and_false, true_or, or_true, false_or, or_false, Int.toNat_natCast, cond_true, cond_false, List.map_cons, List.map_nil, Option.map_some, Option.map_none]; rfl) ?_; simp -failIfUnchanged (disch := first | assumption | omega | (refine room_i _ _ ?_ ?_ <;> omega) | (refine @_root_.id _ ?_; with_unfolding_all exact Eq.refl _) | (simp only [List.length_take, List.length_drop, List.length_append, List.length_cons, List.length_nil, List.length_replicate, List.length_map] <;> omega) | fail) only [rnL, opL, ruL, hpL, rsL, natL, outL, Nat.add_sub_cancel_left, Nat.mul_one, List.length_cons, List.length_nil, Nat.zero_add, Nat.add_zero, Nat.reduceAdd, Nat.reduceMul, Nat.reduceSub, Nat.reduceEqDiff, Nat.reduceLT, Nat.reduceLeDiff, litd_t, litd_f, decide_true, decide_false, Bool.not_true, Bool.not_false, not_true_eq_false, not_false_eq_true, true_and, and_true, false_and, and_false, true_or, or_true, false_or, or_false, Int.toNat_natCast, cond_true, cond_false, List.map_cons, List.map_nil, Option.map_some, Option.map_none])
theorem ask21_4 (bn : Bool) (l : List Msg) (c2 c3 c4 c5 c6 c7 c8 : Int)  (hl : l.length ≤ 3) (hall : ∀ m ∈ l, MsgOK m) (hz0 : Gives F 78 [.agg (Cel.enc (Opn.mk 4 [] [] 0 ⟨bn, l⟩))] (.bool true)) :
    Gives F 63 [.agg (Cel.enc (Opn.mk 4 [] [] 0 ⟨bn, l⟩)), .agg (Cel.enc (Cfg.mk 4 16 c2 c3 c4 c5 c6 c7 c8))] (.int .i64 0) := by
  refine Gives.of fn_r21_Ask rfl rfl (args' := [.agg (Cel.enc (Opn.mk 4 [] [] 0 ⟨bn, l⟩)), .agg (Cel.enc (Cfg.mk 4 16 c2 c3 c4 c5 c6 c7 c8))]) (by simp only [mapO_nil, mapO_c2, consO_some, upf_v]) ?_
  have hz : CallpIs F 78 [.agg [.int .u8 4, .str [], .str [], .int .i64 0, sl bn l]] (.bool true) := by
    rw [encOpn] at hz0
    exact hz0.isp (by simp [hfrees, hfree, sl_free]) rfl
  simp only [ir_r21_Ask, encOpn, encCfg]
  simp -failIfUnchanged (disch := first | assumption | omega | (refine room_i _ _ ?_ ?_ <;> omega) | (refine @_root_.id _ ?_; with_unfolding_all exact Eq.refl _) | (simp only [List.length_take, List.length_drop, List.length_append, List.length_cons, List.length_nil, List.length_replicate, List.length_map] <;> omega) | fail) only [rnL, opL, ruL, hpL, rsL, natL, outL, Nat.add_sub_cancel_left, Nat.mul_one, List.length_cons, List.length_nil, Nat.zero_add, Nat.add_zero, Nat.reduceAdd, Nat.reduceMul, Nat.reduceSub, Nat.reduceEqDiff, Nat.reduceLT, Nat.reduceLeDiff, litd_t, litd_f, decide_true, decide_false, Bool.not_true, Bool.not_false, not_true_eq_false, not_false_eq_true, true_and, and_true, false_and, and_false, true_or, or_true, false_or, or_false, Int.toNat_natCast, cond_true, cond_false, List.map_cons, List.map_nil, Option.map_some, Option.map_none, bx5, bx9, u8L, tk5, hz]
  refine Run_upto l.length (fun i => [(0, .agg [.int .u8 4, .str [], .str [], .int .i64 0, sl bn l]), (1, .agg [.int .i64 4, .int .i64 16, .int .i64 c2, .int .i64 c3, .int .i64 c4, .int .i64 c5, .int .i64 c6, .int .i64 c7, .int .i64 c8]), (2, .ptr 0 5 0), (3, .ptr 1 9 0), (4, .int .i64 0), (5, .int .i64 (i : Nat)), (20, .bool false), (36, .bool false), (45, .bool false)]) (fun _ => [[.cells [.int .u8 4, .str [], .str [], .int .i64 0, sl bn l], .cells [.int .i64 4, .int .i64 16, .int .i64 c2, .int .i64 c3, .int .i64 c4, .int .i64 c5, .int .i64 c6, .int .i64 c7, .int .i64 c8]]]) (fun _ => True) rfl rfl trivial ?_
  intro i hi _
  simp -failIfUnchanged (disch := first | assumption | omega | (refine room_i _ _ ?_ ?_ <;> omega) | (refine @_root_.id _ ?_; with_unfolding_all exact Eq.refl _) | (simp only [List.length_take, List.length_drop, List.length_append, List.length_cons, List.length_nil, List.length_replicate, List.length_map] <;> omega) | fail) only [rnL, opL, ruL, hpL, rsL, natL, outL, Nat.add_sub_cancel_left, Nat.mul_one, List.length_cons, List.length_nil, Nat.zero_add, Nat.add_zero, Nat.reduceAdd, Nat.reduceMul, Nat.reduceSub, Nat.reduceEqDiff, Nat.reduceLT, Nat.reduceLeDiff, litd_t, litd_f, decide_true, decide_false, Bool.not_true, Bool.not_false, not_true_eq_false, not_false_eq_true, true_and, and_true, false_and, and_false, true_or, or_true, false_or, or_false, Int.toNat_natCast, cond_true, cond_false, List.map_cons, List.map_nil, Option.map_some, Option.map_none]
  (first | refine RunB_i (fun q1 => ?_) (fun q1 => ?_) | refine RunG_i (fun q1 => ?_) (fun q1 => ?_) | refine RunB_ib (fun q1 => ?_) (fun q1 => ?_))
  · have hi' : i < l.length := by omega
    have hq : l[i].seq = 0 := (hall _ (List.getElem_mem hi')).1
    simp -failIfUnchanged (disch := first | assumption | omega | (refine room_i _ _ ?_ ?_ <;> omega) | (refine @_root_.id _ ?_; with_unfolding_all exact Eq.refl _) | (simp only [List.length_take, List.length_drop, List.length_append, List.length_cons, List.length_nil, List.length_replicate, List.length_map] <;> omega) | fail) only [rnL, opL, ruL, hpL, rsL, natL, outL, Nat.add_sub_cancel_left, Nat.mul_one, List.length_cons, List.length_nil, Nat.zero_add, Nat.add_zero, Nat.reduceAdd, Nat.reduceMul, Nat.reduceSub, Nat.reduceEqDiff, Nat.reduceLT, Nat.reduceLeDiff, litd_t, litd_f, decide_true, decide_false, Bool.not_true, Bool.not_false, not_true_eq_false, not_false_eq_true, true_and, and_true, false_and, and_false, true_or, or_true, false_or, or_false, Int.toNat_natCast, cond_true, cond_false, List.map_cons, List.map_nil, Option.map_some, Option.map_none, datL, hq, neq_ii]
    exact Nx.i hi' rfl rfl trivial
  simp -failIfUnchanged (disch := first | assumption | omega | (refine room_i _ _ ?_ ?_ <;> omega) | (refine @_root_.id _ ?_; with_unfolding_all exact Eq.refl _) | (simp only [List.length_take, List.length_drop, List.length_append, List.length_cons, List.length_nil, List.length_replicate, List.length_map] <;> omega) | fail) only [rnL, opL, ruL, hpL, rsL, natL, outL, Nat.add_sub_cancel_left, Nat.mul_one, List.length_cons, List.length_nil, Nat.zero_add, Nat.add_zero, Nat.reduceAdd, Nat.reduceMul, Nat.reduceSub, Nat.reduceEqDiff, Nat.reduceLT, Nat.reduceLeDiff, litd_t, litd_f, decide_true, decide_false, Bool.not_true, Bool.not_false, not_true_eq_false, not_false_eq_true, true_and, and_true, false_and, and_false, true_or, or_true, false_or, or_false, Int.toNat_natCast, cond_true, cond_false, List.map_cons, List.map_nil, Option.map_some, Option.map_none]
  refine Run_upto l.length (fun j => [(0, .agg [.int .u8 4, .str [], .str [], .int .i64 0, sl bn l]), (1, .agg [.int .i64 4, .int .i64 16, .int .i64 c2, .int .i64 c3, .int .i64 c4, .int .i64 c5, .int .i64 c6, .int .i64 c7, .int .i64 c8]), (2, .ptr 0 5 0), (3, .ptr 1 9 0), (4, .int .i64 0), (5, .int .i64 (i : Nat)), (6, .int .i64 (j : Nat)), (20, .bool false), (36, .bool false), (45, .bool false)]) (fun _ => [[.cells [.int .u8 4, .str [], .str [], .int .i64 0, sl bn l], .cells [.int .i64 4, .int .i64 16, .int .i64 c2, .int .i64 c3, .int .i64 c4, .int .i64 c5, .int .i64 c6, .int .i64 c7, .int .i64 c8]]]) (fun _ => True) rfl rfl trivial ?_
  intro j hj _
  simp -failIfUnchanged (disch := first | assumption | omega | (refine room_i _ _ ?_ ?_ <;> omega) | (refine @_root_.id _ ?_; with_unfolding_all exact Eq.refl _) | (simp only [List.length_take, List.length_drop, List.length_append, List.length_cons, List.length_nil, List.length_replicate, List.length_map] <;> omega) | fail) only [rnL, opL, ruL, hpL, rsL, natL, outL, Nat.add_sub_cancel_left, Nat.mul_one, List.length_cons, List.length_nil, Nat.zero_add, Nat.add_zero, Nat.reduceAdd, Nat.reduceMul, Nat.reduceSub, Nat.reduceEqDiff, Nat.reduceLT, Nat.reduceLeDiff, litd_t, litd_f, decide_true, decide_false, Bool.not_true, Bool.not_false, not_true_eq_false, not_false_eq_true, true_and, and_true, false_and, and_false, true_or, or_true, false_or, or_false, Int.toNat_natCast, cond_true, cond_false, List.map_cons, List.map_nil, Option.map_some, Option.map_none]
  (first | refine RunB_i (fun q2 => ?_) (fun q2 => ?_) | refine RunG_i (fun q2 => ?_) (fun q2 => ?_) | refine RunB_ib (fun q2 => ?_) (fun q2 => ?_))
  · have hj' : j < l.length := by omega
    have hc := chk04 _ (hall _ (List.getElem_mem hj')) (Cfg.mk 4 16 c2 c3 c4 c5 c6 c7 c8) rfl rfl
    rw [encCfg] at hc
    have hc := hc.isp (by simp [hfrees, hfree, Cel.free]) rfl
    simp -failIfUnchanged (disch := first | assumption | omega | (refine room_i _ _ ?_ ?_ <;> omega) | (refine @_root_.id _ ?_; with_unfolding_all exact Eq.refl _) | (simp only [List.length_take, List.length_drop, List.length_append, List.length_cons, List.length_nil, List.length_replicate, List.length_map] <;> omega) | fail) only [rnL, opL, ruL, hpL, rsL, natL, outL, Nat.add_sub_cancel_left, Nat.mul_one, List.length_cons, List.length_nil, Nat.zero_add, Nat.add_zero, Nat.reduceAdd, Nat.reduceMul, Nat.reduceSub, Nat.reduceEqDiff, Nat.reduceLT, Nat.reduceLeDiff, litd_t, litd_f, decide_true, decide_false, Bool.not_true, Bool.not_false, not_true_eq_false, not_false_eq_true, true_and, and_true, false_and, and_false, true_or, or_true, false_or, or_false, Int.toNat_natCast, cond_true, cond_false, List.map_cons, List.map_nil, Option.map_some, Option.map_none, datL, tk9', hc, neq_ii]
    exact Nx.i hj' rfl rfl trivial
  simp -failIfUnchanged (disch := first | assumption | omega | (refine room_i _ _ ?_ ?_ <;> omega) | (refine @_root_.id _ ?_; with_unfolding_all exact Eq.refl _) | (simp only [List.length_take, List.length_drop, List.length_append, List.length_cons, List.length_nil, List.length_replicate, List.length_map] <;> omega) | fail) only [rnL, opL, ruL, hpL, rsL, natL, outL, Nat.add_sub_cancel_left, Nat.mul_one, List.length_cons, List.length_nil, Nat.zero_add, Nat.add_zero, Nat.reduceAdd, Nat.reduceMul, Nat.reduceSub, Nat.reduceEqDiff, Nat.reduceLT, Nat.reduceLeDiff, litd_t, litd_f, decide_true, decide_false, Bool.not_true, Bool.not_false, not_true_eq_false, not_false_eq_true, true_and, and_true, false_and, and_false, true_or, or_true, false_or, or_false, Int.toNat_natCast, cond_true, cond_false, List.map_cons, List.map_nil, Option.map_some, Option.map_none]
  (refine Fin_g (.inr rfl) (by simp -failIfUnchanged (disch := first | assumption | omega | (refine room_i _ _ ?_ ?_ <;> omega) | (refine @_root_.id _ ?_; with_unfolding_all exact Eq.refl _) | (simp only [List.length_take, List.length_drop, List.length_append, List.length_cons, List.length_nil, List.length_replicate, List.length_map] <;> omega) | fail) only [rnL, opL, ruL, hpL, rsL, natL, outL, Nat.add_sub_cancel_left, Nat.mul_one, List.length_cons, List.length_nil, Nat.zero_add, Nat.add_zero, Nat.reduceAdd, Nat.reduceMul, Nat.reduceSub, Nat.reduceEqDiff, Nat.reduceLT, Nat.reduceLeDiff, litd_t, litd_f, decide_true, decide_false, Bool.not_true, Bool.not_false, not_true_eq_false, not_false_eq_true, true_and, and_true, false_and, and_false, true_or, or_true, false_or, or_false, Int.toNat_natCast, cond_true, cond_false, List.map_cons, List.map_nil, Option.map_some, Option.map_none]; rfl) ?_; simp -failIfUnchanged (disch := first | assumption | omega | (refine room_i _ _ ?_ ?_ <;> omega) | (refine @_root_.id _ ?_; with_unfolding_all exact Eq.refl _) | (simp only [List.length_take, List.length_drop, List.length_append, List.length_cons, List.length_nil, List.length_replicate, List.length_map] <;> omega) | fail) only [rnL, opL, ruL, hpL, rsL, natL, outL, Nat.add_sub_cancel_left, Nat.mul_one, List.length_cons, List.length_nil, Nat.zero_add, Nat.add_zero, Nat.reduceAdd, Nat.reduceMul, Nat.reduceSub, Nat.reduceEqDiff, Nat.reduceLT, Nat.reduceLeDiff, litd_t, litd_f, decide_true, decide_false, Bool.not_true, Bool.not_false, not_true_eq_false, not_false_eq_true, true_and, and_true, false_and, and_false, true_or, or_true, false_or, or_false, Int.toNat_natCast, cond_true, cond_false, List.map_cons, List.map_nil, Option.map_some, Option.map_none])
theorem ask21_5 (bn : Bool) (l : List Msg) (c2 c3 c4 c5 c6 c7 c8 : Int)  (hl : l.length ≤ 3) (hall : ∀ m ∈ l, MsgOK m) (hz0 : Gives F 78 [.agg (Cel.enc (Opn.mk 5 [] [] 1 ⟨bn, l⟩))] (.bool true)) :
    Gives F 63 [.agg (Cel.enc (Opn.mk 5 [] [] 1 ⟨bn, l⟩)), .agg (Cel.enc (Cfg.mk 4 16 c2 c3 c4 c5 c6 c7 c8))] (.int .i64 0) := by
  refine Gives.of fn_r21_Ask rfl rfl (args' := [.agg (Cel.enc (Opn.mk 5 [] [] 1 ⟨bn, l⟩)), .agg (Cel.enc (Cfg.mk 4 16 c2 c3 c4 c5 c6 c7 c8))]) (by simp only [mapO_nil, mapO_c2, consO_some, upf_v]) ?_
  have hz : CallpIs F 78 [.agg [.int .u8 5, .str [], .str [], .int .i64 1, sl bn l]] (.bool true) := by
    rw [encOpn] at hz0
    exact hz0.isp (by simp [hfrees, hfree, sl_free]) rfl
  simp only [ir_r21_Ask, encOpn, encCfg]
  simp -failIfUnchanged (disch := first | assumption | omega | (refine room_i _ _ ?_ ?_ <;> omega) | (refine @_root_.id _ ?_; with_unfolding_all exact Eq.refl _) | (simp only [List.length_take, List.length_drop, List.length_append, List.length_cons, List.length_nil, List.length_replicate, List.length_map] <;> omega) | fail) only [rnL, opL, ruL, hpL, rsL, natL, outL, Nat.add_sub_cancel_left, Nat.mul_one, List.length_cons, List.length_nil, Nat.zero_add, Nat.add_zero, Nat.reduceAdd, Nat.reduceMul, Nat.reduceSub, Nat.reduceEqDiff, Nat.reduceLT, Nat.reduceLeDiff, litd_t, litd_f, decide_true, decide_false, Bool.not_true, Bool.not_false, not_true_eq_false, not_false_eq_true, true_and, and_true, false_and, and_false, true_or, or_true, false_or, or_false, Int.toNat_natCast, cond_true, cond_false, List.map_cons, List.map_nil, Option.map_some, Option.map_none, bx5, bx9, u8L, tk5, hz]
  refine Run_upto l.length (fun i => [(0, .agg [.int .u8 5, .str [], .str [], .int .i64 1, sl bn l]), (1, .agg [.int .i64 4, .int .i64 16, .int .i64 c2, .int .i64 c3, .int .i64 c4, .int .i64 c5, .int .i64 c6, .int .i64 c7, .int .i64 c8]), (2, .ptr 0 5 0), (3, .ptr 1 9 0), (4, .int .i64 0), (5, .int .i64 (i : Nat)), (20, .bool false), (36, .bool false), (45, .bool false)]) (fun _ => [[.cells [.int .u8 5, .str [], .str [], .int .i64 1, sl bn l], .cells [.int .i64 4, .int .i64 16, .int .i64 c2, .int .i64 c3, .int .i64 c4, .int .i64 c5, .int .i64 c6, .int .i64 c7, .int .i64 c8]]]) (fun _ => True) rfl rfl trivial ?_
  intro i hi _
  simp -failIfUnchanged (disch := first | assumption | omega | (refine room_i _ _ ?_ ?_ <;> omega) | (refine @_root_.id _ ?_; with_unfolding_all exact Eq.refl _) | (simp only [List.length_take, List.length_drop, List.length_append, List.length_cons, List.length_nil, List.length_replicate, List.length_map] <;> omega) | fail) only [rnL, opL, ruL, hpL, rsL, natL, outL, Nat.add_sub_cancel_left, Nat.mul_one, List.length_cons, List.length_nil, Nat.zero_add, Nat.add_zero, Nat.reduceAdd, Nat.reduceMul, Nat.reduceSub, Nat.reduceEqDiff, Nat.reduceLT, Nat.reduceLeDiff, litd_t, litd_f, decide_true, decide_false, Bool.not_true, Bool.not_false, not_true_eq_false, not_false_eq_true, true_and, and_true, false_and, and_false, true_or, or_true, false_or, or_false, Int.toNat_natCast, cond_true, cond_false, List.map_cons, List.map_nil, Option.map_some, Option.map_none]
  (first | refine RunB_i (fun q1 => ?_) (fun q1 => ?_) | refine RunG_i (fun q1 => ?_) (fun q1 => ?_) | refine RunB_ib (fun q1 => ?_) (fun q1 => ?_))
  · have hi' : i < l.length := by omega
    have hq : l[i].seq = 0 := (hall _ (List.getElem_mem hi')).1
    simp -failIfUnchanged (disch := first | assumption | omega | (refine room_i _ _ ?_ ?_ <;> omega) | (refine @_root_.id _ ?_; with_unfolding_all exact Eq.refl _) | (simp only [List.length_take, List.length_drop, List.length_append, List.length_cons, List.length_nil, List.length_replicate, List.length_map] <;> omega) | fail) only [rnL, opL, ruL, hpL, rsL, natL, outL, Nat.add_sub_cancel_left, Nat.mul_one, List.length_cons, List.length_nil, Nat.zero_add, Nat.add_zero, Nat.reduceAdd, Nat.reduceMul, Nat.reduceSub, Nat.reduceEqDiff, Nat.reduceLT, Nat.reduceLeDiff, litd_t, litd_f, decide_true, decide_false, Bool.not_true, Bool.not_false, not_true_eq_false, not_false_eq_true, true_and, and_true, false_and, and_false, true_or, or_true, false_or, or_false, Int.toNat_natCast, cond_true, cond_false, List.map_cons, List.map_nil, Option.map_some, Option.map_none, datL, hq, neq_ii]
    exact Nx.i hi' rfl rfl trivial
  simp -failIfUnchanged (disch := first | assumption | omega | (refine room_i _ _ ?_ ?_ <;> omega) | (refine @_root_.id _ ?_; with_unfolding_all exact Eq.refl _) | (simp only [List.length_take, List.length_drop, List.length_append, List.length_cons, List.length_nil, List.length_replicate, List.length_map] <;> omega) | fail) only [rnL, opL, ruL, hpL, rsL, natL, outL, Nat.add_sub_cancel_left, Nat.mul_one, List.length_cons, List.length_nil, Nat.zero_add, Nat.add_zero, Nat.reduceAdd, Nat.reduceMul, Nat.reduceSub, Nat.reduceEqDiff, Nat.reduceLT, Nat.reduceLeDiff, litd_t, litd_f, decide_true, decide_false, Bool.not_true, Bool.not_false, not_true_eq_false, not_false_eq_true, true_and, and_true, false_and, and_false, true_or, or_true, false_or, or_false, Int.toNat_natCast, cond_true, cond_false, List.map_cons, List.map_nil, Option.map_some, Option.map_none]
  refine Run_upto l.length (fun j => [(0, .agg [.int .u8 5, .str [], .str [], .int .i64 1, sl bn l]), (1, .agg [.int .i64 4, .int .i64 16, .int .i64 c2, .int .i64 c3, .int .i64 c4, .int .i64 c5, .int .i64 c6, .int .i64 c7, .int .i64 c8]), (2, .ptr 0 5 0), (3, .ptr 1 9 0), (4, .int .i64 0), (5, .int .i64 (i : Nat)), (6, .int .i64 (j : Nat)), (20, .bool false), (36, .bool false), (45, .bool false)]) (fun _ => [[.cells [.int .u8 5, .str [], .str [], .int .i64 1, sl bn l], .cells [.int .i64 4, .int .i64 16, .int .i64 c2, .int .i64 c3, .int .i64 c4, .int .i64 c5, .int .i64 c6, .int .i64 c7, .int .i64 c8]]]) (fun _ => True) rfl rfl trivial ?_
  intro j hj _
  simp -failIfUnchanged (disch := first | assumption | omega | (refine room_i _ _ ?_ ?_ <;> omega) | (refine @_root_.id _ ?_; with_unfolding_all exact Eq.refl _) | (simp only [List.length_take, List.length_drop, List.length_append, List.length_cons, List.length_nil, List.length_replicate, List.length_map] <;> omega) | fail) only [rnL, opL, ruL, hpL, rsL, natL, outL, Nat.add_sub_cancel_left, Nat.mul_one, List.length_cons, List.length_nil, Nat.zero_add, Nat.add_zero, Nat.reduceAdd, Nat.reduceMul, Nat.reduceSub, Nat.reduceEqDiff, Nat.reduceLT, Nat.reduceLeDiff, litd_t, litd_f, decide_true, decide_false, Bool.not_true, Bool.not_false, not_true_eq_false, not_false_eq_true, true_and, and_true, false_and, and_false, true_or, or_true, false_or, or_false, Int.toNat_natCast, cond_true, cond_false, List.map_cons, List.map_nil, Option.map_some, Option.map_none]
  (first | refine RunB_i (fun q2 => ?_) (fun q2 => ?_) | refine RunG_i (fun q2 => ?_) (fun q2 => ?_) | refine RunB_ib (fun q2 => ?_) (fun q2 => ?_))
  · have hj' : j < l.length := by omega
    have hc := chk04 _ (hall _ (List.getElem_mem hj')) (Cfg.mk 4 16 c2 c3 c4 c5 c6 c7 c8) rfl rfl
    rw [encCfg] at hc
    have hc := hc.isp (by simp [hfrees, hfree, Cel.free]) rfl
    simp -failIfUnchanged (disch := first | assumption | omega | (refine room_i _ _ ?_ ?_ <;> omega) | (refine @_root_.id _ ?_; with_unfolding_all exact Eq.refl _) | (simp only [List.length_take, List.length_drop, List.length_append, List.length_cons, List.length_nil, List.length_replicate, List.length_map] <;> omega) | fail) only [rnL, opL, ruL, hpL, rsL, natL, outL, Nat.add_sub_cancel_left, Nat.mul_one, List.length_cons, List.length_nil, Nat.zero_add, Nat.add_zero, Nat.reduceAdd, Nat.reduceMul, Nat.reduceSub, Nat.reduceEqDiff, Nat.reduceLT, Nat.reduceLeDiff, litd_t, litd_f, decide_true, decide_false, Bool.not_true, Bool.not_false, not_true_eq_false, not_false_eq_true, true_and, and_true, false_and, and_false, true_or, or_true, false_or, or_false, Int.toNat_natCast, cond_true, cond_false, List.map_cons, List.map_nil, Option.map_some, Option.map_none, datL, tk9', hc, neq_ii]
    exact Nx.i hj' rfl rfl trivial
  simp -failIfUnchanged (disch := first | assumption | omega | (refine room_i _ _ ?_ ?_ <;> omega) | (refine @_root_.id _ ?_; with_unfolding_all exact Eq.refl _) | (simp only [List.length_take, List.length_drop, List.length_append, List.length_cons, List.length_nil, List.length_replicate, List.length_map] <;> omega) | fail) only [rnL, opL, ruL, hpL, rsL, natL, outL, Nat.add_sub_cancel_left, Nat.mul_one, List.length_cons, List.length_nil, Nat.zero_add, Nat.add_zero, Nat.reduceAdd, Nat.reduceMul, Nat.reduceSub, Nat.reduceEqDiff, Nat.reduceLT, Nat.reduceLeDiff, litd_t, litd_f, decide_true, decide_false, Bool.not_true, Bool.not_false, not_true_eq_false, not_false_eq_true, true_and, and_true, false_and, and_false, true_or, or_true, false_or, or_false, Int.toNat_natCast, cond_true, cond_false, List.map_cons, List.map_nil, Option.map_some, Option.map_none]
  (refine Fin_g (.inr rfl) (by simp -failIfUnchanged (disch := first | assumption | omega | (refine room_i _ _ ?_ ?_ <;> omega) | (refine @_root_.id _ ?_; with_unfolding_all exact Eq.refl _) | (simp only [List.length_take, List.length_drop, List.length_append, List.length_cons, List.length_nil, List.length_replicate, List.length_map] <;> omega) | fail) only [rnL, opL, ruL, hpL, rsL, natL, outL, Nat.add_sub_cancel_left, Nat.mul_one, List.length_cons, List.length_nil, Nat.zero_add, Nat.add_zero, Nat.reduceAdd, Nat.reduceMul, Nat.reduceSub, Nat.reduceEqDiff, Nat.reduceLT, Nat.reduceLeDiff, litd_t, litd_f, decide_true, decide_false, Bool.not_true, Bool.not_false, not_true_eq_false, not_false_eq_true, true_and, and_true, false_and, and_false, true_or, or_true, false_or, or_false, Int.toNat_natCast, cond_true, cond_false, List.map_cons, List.map_nil, Option.map_some, Option.map_none]; rfl) ?_; simp -failIfUnchanged (disch := first | assumption | omega | (refine room_i _ _ ?_ ?_ <;> omega) | (refine @_root_.id _ ?_; with_unfolding_all exact Eq.refl _) | (simp only [List.length_take, List.length_drop, List.length_append, List.length_cons, List.length_nil, List.length_replicate, List.length_map] <;> omega) | fail) only [rnL, opL, ruL, hpL, rsL, natL, outL, Nat.add_sub_cancel_left, Nat.mul_one, List.length_cons, List.length_nil, Nat.zero_add, Nat.add_zero, Nat.reduceAdd, Nat.reduceMul, Nat.reduceSub, Nat.reduceEqDiff, Nat.reduceLT, Nat.reduceLeDiff, litd_t, litd_f, decide_true, decide_false, Bool.not_true, Bool.not_false, not_true_eq_false, not_false_eq_true, true_and, and_true, false_and, and_false, true_or, or_true, false_or, or_false, Int.toNat_natCast, cond_true, cond_false, List.map_cons, List.map_nil, Option.map_some, Option.map_none])
/-- Sizes that may be. -/
def CfgOK (c : Cfg) : Prop := c.key = 4 ∧ c.value = 16 ∧ 4 ≤ c.fanout ∧ c.fanout ≤ 8 ∧ 0 ≤ c.buffer ∧ c.buffer ≤ 99 ∧ 4 ≤ c.leaf ∧ c.leaf ≤ 12 ∧ 2 ≤ c.block ∧ c.block ≤ 4 ∧ 20 ≤ c.nodes ∧ c.nodes ≤ 219 ∧ 0 ≤ c.budget ∧ c.budget ≤ 4 ∧ 3 ≤ c.chunk ∧ c.chunk ≤ 8
theorem cfgV_ok (s : Int) : CfgOK (cfgV s) := by
  have b1 := bV_lt 5 s (by omega)
  have b1' := bV_nn 5 s
  have b2 := bV_lt 100 (g1 s) (by omega)
  have b2' := bV_nn 100 (g1 s)
  have b3 := bV_lt 9 (g2 s) (by omega)
  have b3' := bV_nn 9 (g2 s)
  have b4 := bV_lt 3 (g3 s) (by omega)
  have b4' := bV_nn 3 (g3 s)
  have b5 := bV_lt 200 (g4 s) (by omega)
  have b5' := bV_nn 200 (g4 s)
  have b6 := bV_lt 5 (g5 s) (by omega)
  have b6' := bV_nn 5 (g5 s)
  have b7 := bV_lt 6 (g6 s) (by omega)
  have b7' := bV_nn 6 (g6 s)
  unfold CfgOK cfgV
  simp only
  generalize bV 5 s = y1 at *
  generalize bV 100 (g1 s) = y2 at *
  generalize bV 9 (g2 s) = y3 at *
  generalize bV 3 (g3 s) = y4 at *
  generalize bV 200 (g4 s) = y5 at *
  generalize bV 5 (g5 s) = y6 at *
  generalize bV 6 (g6 s) = y7 at *
  refine ⟨trivial, trivial, ?_⟩
  omega
theorem ask21 (o : Opn) (c : Cfg) (hc : CfgOK c) (ho : OpOK o c) : Gives F 63 [.agg (Cel.enc o), .agg (Cel.enc c)] (.int .i64 0) := by
  have hz := zero21 o c ho
  obtain ⟨kd, key, to, n, bn, bl⟩ := o
  obtain ⟨c0, c1, c2, c3, c4, c5, c6, c7, c8⟩ := c
  obtain ⟨h1, h2, h3⟩ := ho
  obtain ⟨k0, k1, _⟩ := hc
  simp only at h1 h2 h3 k0 k1
  subst h1 k0 k1
  have hv : ∀ m ∈ ([] : List Msg), MsgOK m := fun m hm => by cases hm
  rcases h3 with ⟨rfl, a1, a2, rfl, rfl⟩ | ⟨rfl, rfl, rfl, a1, a2⟩ | ⟨rfl, a1, a2, a3, a4, rfl⟩ | ⟨rfl, rfl, rfl, rfl⟩ | ⟨rfl, rfl, rfl, rfl⟩
  · exact ask21_1 key bn [] c2 c3 c4 c5 c6 c7 c8 a1 a2 (Nat.zero_le _) hv hz
  · exact ask21_2 bn bl c2 c3 c4 c5 c6 c7 c8 a1 a2 hz
  · exact ask21_3 key n bn [] c2 c3 c4 c5 c6 c7 c8 a1 a2 a3 a4 (Nat.zero_le _) hv hz
  · exact ask21_4 bn [] c2 c3 c4 c5 c6 c7 c8 (Nat.zero_le _) hv hz
  · exact ask21_5 bn [] c2 c3 c4 c5 c6 c7 c8 (Nat.zero_le _) hv hz
theorem chk21 (c : Cfg) (hc : CfgOK c) : Gives F 42 [.agg (Cel.enc c)] (.int .i64 0) := by
  refine Gives.of fn_r21_Check rfl rfl (args' := [.agg (Cel.enc c)]) (by simp only [mapO_nil, mapO_c2, consO_some, upf_v]) ?_
  obtain ⟨c0, c1, c2, c3, c4, c5, c6, c7, c8⟩ := c
  obtain ⟨h0, h1, h2, h3, h4, h5, h6, h7, h8, h9, h10, h11, h12, h13, h14, h15⟩ := hc
  simp only at h0 h1 h2 h3 h4 h5 h6 h7 h8 h9 h10 h11 h12 h13 h14 h15
  subst h0 h1
  simp only [ir_r21_Check, encCfg]
  have d : ∀ {p : Prop} [Decidable p], ¬ p → decide p = false := fun h => decide_eq_false h
  simp -failIfUnchanged (disch := first | assumption | omega | (refine room_i _ _ ?_ ?_ <;> omega) | (refine @_root_.id _ ?_; with_unfolding_all exact Eq.refl _) | (simp only [List.length_take, List.length_drop, List.length_append, List.length_cons, List.length_nil, List.length_replicate, List.length_map] <;> omega) | fail) only [rnL, opL, ruL, hpL, rsL, natL, outL, Nat.add_sub_cancel_left, Nat.mul_one, List.length_cons, List.length_nil, Nat.zero_add, Nat.add_zero, Nat.reduceAdd, Nat.reduceMul, Nat.reduceSub, Nat.reduceEqDiff, Nat.reduceLT, Nat.reduceLeDiff, litd_t, litd_f, decide_true, decide_false, Bool.not_true, Bool.not_false, not_true_eq_false, not_false_eq_true, true_and, and_true, false_and, and_false, true_or, or_true, false_or, or_false, Int.toNat_natCast, cond_true, cond_false, List.map_cons, List.map_nil, Option.map_some, Option.map_none, bx9, d (show ¬ c2 < 4 by omega), d (show ¬ 64 < c2 by omega), d (show ¬ c3 < 0 by omega), d (show ¬ 1048576 < c3 by omega), d (show ¬ c4 < 4 by omega), d (show ¬ 256 < c4 by omega), d (show ¬ c5 < 2 by omega), d (show ¬ c4 < c5 by omega), d (show ¬ c6 < 2 by omega), d (show ¬ 4096 < c6 by omega), d (show ¬ c7 < 0 by omega), d (show ¬ 1000 < c7 by omega), d (show ¬ c8 < 1 by omega), d (show ¬ 1024 < c8 by omega)]
  (refine Fin_g (.inr rfl) (by simp -failIfUnchanged (disch := first | assumption | omega | (refine room_i _ _ ?_ ?_ <;> omega) | (refine @_root_.id _ ?_; with_unfolding_all exact Eq.refl _) | (simp only [List.length_take, List.length_drop, List.length_append, List.length_cons, List.length_nil, List.length_replicate, List.length_map] <;> omega) | fail) only [rnL, opL, ruL, hpL, rsL, natL, outL, Nat.add_sub_cancel_left, Nat.mul_one, List.length_cons, List.length_nil, Nat.zero_add, Nat.add_zero, Nat.reduceAdd, Nat.reduceMul, Nat.reduceSub, Nat.reduceEqDiff, Nat.reduceLT, Nat.reduceLeDiff, litd_t, litd_f, decide_true, decide_false, Bool.not_true, Bool.not_false, not_true_eq_false, not_false_eq_true, true_and, and_true, false_and, and_false, true_or, or_true, false_or, or_false, Int.toNat_natCast, cond_true, cond_false, List.map_cons, List.map_nil, Option.map_some, Option.map_none]; rfl) ?_; simp -failIfUnchanged (disch := first | assumption | omega | (refine room_i _ _ ?_ ?_ <;> omega) | (refine @_root_.id _ ?_; with_unfolding_all exact Eq.refl _) | (simp only [List.length_take, List.length_drop, List.length_append, List.length_cons, List.length_nil, List.length_replicate, List.length_map] <;> omega) | fail) only [rnL, opL, ruL, hpL, rsL, natL, outL, Nat.add_sub_cancel_left, Nat.mul_one, List.length_cons, List.length_nil, Nat.zero_add, Nat.add_zero, Nat.reduceAdd, Nat.reduceMul, Nat.reduceSub, Nat.reduceEqDiff, Nat.reduceLT, Nat.reduceLeDiff, litd_t, litd_f, decide_true, decide_false, Bool.not_true, Bool.not_false, not_true_eq_false, not_false_eq_true, true_and, and_true, false_and, and_false, true_or, or_true, false_or, or_false, Int.toNat_natCast, cond_true, cond_false, List.map_cons, List.map_nil, Option.map_some, Option.map_none])
end Go.AS.Sd
