import Derived.Test.YtefnpnokbanbkaaSd10
import Derived.Test.YtefnpnokbanbkaaSd0
import Derived.Test.YtefnpnokbanbkaaAs1
set_option linter.all false
namespace Go.AS.Sd
open Go Go.AS Go.Proofs
set_option maxHeartbeats 4000000
set_option maxRecDepth 100000
theorem chk33 (c : Cfg) (hc : CfgOK c) (la : List (Sl Opn)) (p1 : Bool) (pk : List Int) (h1 : 1 ≤ la.length) (h2 : la.length ≤ 64) (hop : ∀ s ∈ la, s.l.length ≤ 100 ∧ ∀ o ∈ s.l, OpOK o c) :
    Gives F 41 [.agg (Cel.enc (Scr.mk c ⟨false, la⟩ ⟨p1, pk⟩))] (.tuple [.int .i64 0, .int .i64 0, .int .i64 0]) := by
  have hck := chk21 c hc
  have hask := fun o ho => ask21 o c hc ho
  obtain ⟨x0, x1, x2, x3, x4, x5, x6, x7, x8⟩ := c
  refine Gives.of fn_r33_Check rfl rfl (args' := [.agg (Cel.enc (Scr.mk ⟨x0, x1, x2, x3, x4, x5, x6, x7, x8⟩ ⟨false, la⟩ ⟨p1, pk⟩))]) (by simp only [mapO_nil, mapO_c2, consO_some, upf_v]) ?_
  rw [encCfg] at hck
  have hck := hck.isp (by simp [hfrees, hfree]) rfl
  simp only [ir_r33_Check, encScr]
  simp -failIfUnchanged (disch := first | assumption | omega | (refine room_i _ _ ?_ ?_ <;> omega) | (refine @_root_.id _ ?_; with_unfolding_all exact Eq.refl _) | (simp only [List.length_take, List.length_drop, List.length_append, List.length_cons, List.length_nil, List.length_replicate, List.length_map] <;> omega) | fail) only [rnL, opL, ruL, hpL, rsL, natL, outL, Nat.add_sub_cancel_left, Nat.mul_one, List.length_cons, List.length_nil, Nat.zero_add, Nat.add_zero, Nat.reduceAdd, Nat.reduceMul, Nat.reduceSub, Nat.reduceEqDiff, Nat.reduceLT, Nat.reduceLeDiff, litd_t, litd_f, decide_true, decide_false, Bool.not_true, Bool.not_false, not_true_eq_false, not_false_eq_true, true_and, and_true, false_and, and_false, true_or, or_true, false_or, or_false, Int.toNat_natCast, cond_true, cond_false, List.map_cons, List.map_nil, Option.map_some, Option.map_none, bx11, tk9, hck, neq_ii]
  refine Run_upto la.length (fun j => [(0, .agg [.int .i64 x0, .int .i64 x1, .int .i64 x2, .int .i64 x3, .int .i64 x4, .int .i64 x5, .int .i64 x6, .int .i64 x7, .int .i64 x8, sl false la, sl p1 pk]), (1, .ptr 0 11 0), (2, .int .i64 0), (3, .int .i64 0), (4, .int .i64 0), (5, .int .i64 (j : Nat)), (23, .bool false)]) (fun _ => [[.cells [.int .i64 x0, .int .i64 x1, .int .i64 x2, .int .i64 x3, .int .i64 x4, .int .i64 x5, .int .i64 x6, .int .i64 x7, .int .i64 x8, sl false la, sl p1 pk]]]) (fun _ => True) ?_ rfl trivial ?_
  · rfl
  intro j hj _
  simp -failIfUnchanged (disch := first | assumption | omega | (refine room_i _ _ ?_ ?_ <;> omega) | (refine @_root_.id _ ?_; with_unfolding_all exact Eq.refl _) | (simp only [List.length_take, List.length_drop, List.length_append, List.length_cons, List.length_nil, List.length_replicate, List.length_map] <;> omega) | fail) only [rnL, opL, ruL, hpL, rsL, natL, outL, Nat.add_sub_cancel_left, Nat.mul_one, List.length_cons, List.length_nil, Nat.zero_add, Nat.add_zero, Nat.reduceAdd, Nat.reduceMul, Nat.reduceSub, Nat.reduceEqDiff, Nat.reduceLT, Nat.reduceLeDiff, litd_t, litd_f, decide_true, decide_false, Bool.not_true, Bool.not_false, not_true_eq_false, not_false_eq_true, true_and, and_true, false_and, and_false, true_or, or_true, false_or, or_false, Int.toNat_natCast, cond_true, cond_false, List.map_cons, List.map_nil, Option.map_some, Option.map_none]
  (first | refine RunB_i (fun q1 => ?_) (fun q1 => ?_) | refine RunG_i (fun q1 => ?_) (fun q1 => ?_) | refine RunB_ib (fun q1 => ?_) (fun q1 => ?_))
  · have hj' : j < la.length := by omega
    obtain ⟨ho1, ho2⟩ := hop _ (List.getElem_mem hj')
    simp -failIfUnchanged (disch := first | assumption | omega | (refine room_i _ _ ?_ ?_ <;> omega) | (refine @_root_.id _ ?_; with_unfolding_all exact Eq.refl _) | (simp only [List.length_take, List.length_drop, List.length_append, List.length_cons, List.length_nil, List.length_replicate, List.length_map] <;> omega) | fail) only [rnL, opL, ruL, hpL, rsL, natL, outL, Nat.add_sub_cancel_left, Nat.mul_one, List.length_cons, List.length_nil, Nat.zero_add, Nat.add_zero, Nat.reduceAdd, Nat.reduceMul, Nat.reduceSub, Nat.reduceEqDiff, Nat.reduceLT, Nat.reduceLeDiff, litd_t, litd_f, decide_true, decide_false, Bool.not_true, Bool.not_false, not_true_eq_false, not_false_eq_true, true_and, and_true, false_and, and_false, true_or, or_true, false_or, or_false, Int.toNat_natCast, cond_true, cond_false, List.map_cons, List.map_nil, Option.map_some, Option.map_none]
    obtain ⟨l, hl⟩ : ∃ l, l = la[j].l := ⟨_, rfl⟩
    rw [← hl] at ho1 ho2
    refine Run_upto l.length (fun i => [(0, .agg [.int .i64 x0, .int .i64 x1, .int .i64 x2, .int .i64 x3, .int .i64 x4, .int .i64 x5, .int .i64 x6, .int .i64 x7, .int .i64 x8, sl false la, sl p1 pk]), (1, .ptr 0 11 0), (2, .int .i64 0), (3, .int .i64 0), (4, .int .i64 0), (5, .int .i64 (j : Nat)), (6, .int .i64 (i : Nat)), (23, .bool false), (28, .bool true)]) (fun _ => [[.cells [.int .i64 x0, .int .i64 x1, .int .i64 x2, .int .i64 x3, .int .i64 x4, .int .i64 x5, .int .i64 x6, .int .i64 x7, .int .i64 x8, sl false la, sl p1 pk]]]) (fun _ => True) ?_ rfl trivial ?_
    · rfl
    intro i hi _
    simp -failIfUnchanged (disch := first | assumption | omega | (refine room_i _ _ ?_ ?_ <;> omega) | (refine @_root_.id _ ?_; with_unfolding_all exact Eq.refl _) | (simp only [List.length_take, List.length_drop, List.length_append, List.length_cons, List.length_nil, List.length_replicate, List.length_map] <;> omega) | fail) only [rnL, opL, ruL, hpL, rsL, natL, outL, Nat.add_sub_cancel_left, Nat.mul_one, List.length_cons, List.length_nil, Nat.zero_add, Nat.add_zero, Nat.reduceAdd, Nat.reduceMul, Nat.reduceSub, Nat.reduceEqDiff, Nat.reduceLT, Nat.reduceLeDiff, litd_t, litd_f, decide_true, decide_false, Bool.not_true, Bool.not_false, not_true_eq_false, not_false_eq_true, true_and, and_true, false_and, and_false, true_or, or_true, false_or, or_false, Int.toNat_natCast, cond_true, cond_false, List.map_cons, List.map_nil, Option.map_some, Option.map_none, ← hl]
    (first | refine RunB_i (fun q2 => ?_) (fun q2 => ?_) | refine RunG_i (fun q2 => ?_) (fun q2 => ?_) | refine RunB_ib (fun q2 => ?_) (fun q2 => ?_))
    · have hi' : i < l.length := by omega
      have ha := hask _ (ho2 _ (List.getElem_mem hi'))
      rw [encCfg] at ha
      have ha := ha.isp (by simp [hfrees, hfree, Cel.free]) rfl
      simp -failIfUnchanged (disch := first | assumption | omega | (refine room_i _ _ ?_ ?_ <;> omega) | (refine @_root_.id _ ?_; with_unfolding_all exact Eq.refl _) | (simp only [List.length_take, List.length_drop, List.length_append, List.length_cons, List.length_nil, List.length_replicate, List.length_map] <;> omega) | fail) only [rnL, opL, ruL, hpL, rsL, natL, outL, Nat.add_sub_cancel_left, Nat.mul_one, List.length_cons, List.length_nil, Nat.zero_add, Nat.add_zero, Nat.reduceAdd, Nat.reduceMul, Nat.reduceSub, Nat.reduceEqDiff, Nat.reduceLT, Nat.reduceLeDiff, litd_t, litd_f, decide_true, decide_false, Bool.not_true, Bool.not_false, not_true_eq_false, not_false_eq_true, true_and, and_true, false_and, and_false, true_or, or_true, false_or, or_false, Int.toNat_natCast, cond_true, cond_false, List.map_cons, List.map_nil, Option.map_some, Option.map_none, ← hl, tk9, ha, neq_ii]
      exact Nx.i hi' rfl rfl trivial
    · simp -failIfUnchanged (disch := first | assumption | omega | (refine room_i _ _ ?_ ?_ <;> omega) | (refine @_root_.id _ ?_; with_unfolding_all exact Eq.refl _) | (simp only [List.length_take, List.length_drop, List.length_append, List.length_cons, List.length_nil, List.length_replicate, List.length_map] <;> omega) | fail) only [rnL, opL, ruL, hpL, rsL, natL, outL, Nat.add_sub_cancel_left, Nat.mul_one, List.length_cons, List.length_nil, Nat.zero_add, Nat.add_zero, Nat.reduceAdd, Nat.reduceMul, Nat.reduceSub, Nat.reduceEqDiff, Nat.reduceLT, Nat.reduceLeDiff, litd_t, litd_f, decide_true, decide_false, Bool.not_true, Bool.not_false, not_true_eq_false, not_false_eq_true, true_and, and_true, false_and, and_false, true_or, or_true, false_or, or_false, Int.toNat_natCast, cond_true, cond_false, List.map_cons, List.map_nil, Option.map_some, Option.map_none]
      exact Nx.i hj' rfl rfl trivial
  · simp -failIfUnchanged (disch := first | assumption | omega | (refine room_i _ _ ?_ ?_ <;> omega) | (refine @_root_.id _ ?_; with_unfolding_all exact Eq.refl _) | (simp only [List.length_take, List.length_drop, List.length_append, List.length_cons, List.length_nil, List.length_replicate, List.length_map] <;> omega) | fail) only [rnL, opL, ruL, hpL, rsL, natL, outL, Nat.add_sub_cancel_left, Nat.mul_one, List.length_cons, List.length_nil, Nat.zero_add, Nat.add_zero, Nat.reduceAdd, Nat.reduceMul, Nat.reduceSub, Nat.reduceEqDiff, Nat.reduceLT, Nat.reduceLeDiff, litd_t, litd_f, decide_true, decide_false, Bool.not_true, Bool.not_false, not_true_eq_false, not_false_eq_true, true_and, and_true, false_and, and_false, true_or, or_true, false_or, or_false, Int.toNat_natCast, cond_true, cond_false, List.map_cons, List.map_nil, Option.map_some, Option.map_none]
    (refine Fin_g (.inr rfl) (by simp -failIfUnchanged (disch := first | assumption | omega | (refine room_i _ _ ?_ ?_ <;> omega) | (refine @_root_.id _ ?_; with_unfolding_all exact Eq.refl _) | (simp only [List.length_take, List.length_drop, List.length_append, List.length_cons, List.length_nil, List.length_replicate, List.length_map] <;> omega) | fail) only [rnL, opL, ruL, hpL, rsL, natL, outL, Nat.add_sub_cancel_left, Nat.mul_one, List.length_cons, List.length_nil, Nat.zero_add, Nat.add_zero, Nat.reduceAdd, Nat.reduceMul, Nat.reduceSub, Nat.reduceEqDiff, Nat.reduceLT, Nat.reduceLeDiff, litd_t, litd_f, decide_true, decide_false, Bool.not_true, Bool.not_false, not_true_eq_false, not_false_eq_true, true_and, and_true, false_and, and_false, true_or, or_true, false_or, or_false, Int.toNat_natCast, cond_true, cond_false, List.map_cons, List.map_nil, Option.map_some, Option.map_none]; rfl) ?_; simp -failIfUnchanged (disch := first | assumption | omega | (refine room_i _ _ ?_ ?_ <;> omega) | (refine @_root_.id _ ?_; with_unfolding_all exact Eq.refl _) | (simp only [List.length_take, List.length_drop, List.length_append, List.length_cons, List.length_nil, List.length_replicate, List.length_map] <;> omega) | fail) only [rnL, opL, ruL, hpL, rsL, natL, outL, Nat.add_sub_cancel_left, Nat.mul_one, List.length_cons, List.length_nil, Nat.zero_add, Nat.add_zero, Nat.reduceAdd, Nat.reduceMul, Nat.reduceSub, Nat.reduceEqDiff, Nat.reduceLT, Nat.reduceLeDiff, litd_t, litd_f, decide_true, decide_false, Bool.not_true, Bool.not_false, not_true_eq_false, not_false_eq_true, true_and, and_true, false_and, and_false, true_or, or_true, false_or, or_false, Int.toNat_natCast, cond_true, cond_false, List.map_cons, List.map_nil, Option.map_some, Option.map_none])
theorem kN1 (st : Int) : kN 1 st = 1 := by
  obtain ⟨a, b, c⟩ := kN_b 1 st
  have h := bV_lt (clp 1 1 16) st (by decide)
  have h2 : clp 1 1 16 = 1 := by decide
  omega
theorem kN2 (st : Int) : 1 ≤ kN 2 st ∧ kN 2 st ≤ 2 := by
  obtain ⟨a, b, c⟩ := kN_b 2 st
  have h := bV_lt (clp 2 1 16) st (by decide)
  have h2 : clp 2 1 16 = 2 := by decide
  omega
theorem kV1 (l st : Int) : (kV l 1 st).length = 1 := by unfold kV; rw [klF_len, kN1]
theorem kV2 (l st : Int) : 1 ≤ (kV l 2 st).length ∧ (kV l 2 st).length ≤ 2 := by unfold kV; rw [klF_len]; exact kN2 st
theorem mV_ok (st : Int) : MsgOK (mV st) := by
  have h1 := kV1 4 (bS 8 st)
  have h2 := kV2 4 (bS 8 st)
  have h3 := bV_lt 3 (kS 4 2 (bS 8 st)) (by omega)
  have h4 := bV_nn 3 (kS 4 2 (bS 8 st))
  unfold mV
  generalize kV 4 1 (bS 8 st) = k1 at *
  generalize kV 4 2 (bS 8 st) = k2 at *
  generalize bV 3 (kS 4 2 (bS 8 st)) = y3 at *
  generalize bV 100 (kS 4 2 (bS 8 st)) = y4 at *
  generalize bV 8 st = y at *
  split
  · exact ⟨rfl, by show 1 ≤ k1.length; omega, by show k1.length ≤ 2; omega, .inr (.inr (.inr ⟨rfl, rfl, rfl, h1, rfl⟩))⟩
  split
  · exact ⟨rfl, h2.1, h2.2, .inr (.inl ⟨rfl, rfl, rfl, rfl⟩)⟩
  split
  · exact ⟨rfl, h2.1, h2.2, .inr (.inr (.inl ⟨rfl, rfl, rfl⟩))⟩
  · exact ⟨rfl, h2.1, h2.2, .inl ⟨rfl, rfl, by rw [List.length_replicate]; omega, rfl⟩⟩
theorem mLF_ok (st : Int) (m : Nat) : ∀ x ∈ mLF st m, MsgOK x := by
  induction m with
  | zero => intro x hx; cases hx
  | succ m ih =>
    intro x hx
    simp only [mLF, List.mem_append, List.mem_singleton] at hx
    rcases hx with hx | rfl
    · exact ih x hx
    · exact mV_ok _
theorem OpOK_mk (kd : UInt8) (key : Str) (n : Int) (l : List Msg) (c : Cfg) (h : (kd = 1 ∧ 1 ≤ key.length ∧ key.length ≤ 2 ∧ n = 0 ∧ l = []) ∨ (kd = 2 ∧ key = [] ∧ n = 0 ∧ l.length ≤ 3 ∧ ∀ m ∈ l, MsgOK m) ∨ (kd = 3 ∧ key.length ≤ 2 ∧ 1 ≤ n ∧ n ≤ c.chunk ∧ n ≤ 3 ∧ l = []) ∨ (kd = 4 ∧ key = [] ∧ n = 0 ∧ l = []) ∨ (kd = 5 ∧ key = [] ∧ n = 1 ∧ l = [])) : OpOK (Opn.mk kd key [] n ⟨l.isEmpty, l⟩) c :=
  ⟨rfl, fun e => by simpa using e, h⟩
theorem opn_ok (st : Int) (c : Cfg) (hc : 3 ≤ c.chunk) : OpOK (opn st) c := by
  have h1 := kV1 4 (bS 8 st)
  have h2 := kV2 4 (bS 8 st)
  have h3 := bV_lt 3 (kS 4 1 (bS 8 st)) (by omega)
  have h4 := bV_nn 3 (kS 4 1 (bS 8 st))
  have h5 := mLF_len (bS 3 (bS 8 st)) (oM (bS 8 st))
  have h6 := (oM_b (bS 8 st)).2.1
  have h7 := mLF_ok (bS 3 (bS 8 st)) (oM (bS 8 st))
  unfold opn
  refine OpOK_mk _ _ _ _ _ ?_
  unfold oK oKey oN oL
  generalize kV 4 1 (bS 8 st) = k1 at *
  generalize kV 4 2 (bS 8 st) = k2 at *
  generalize bV 3 (kS 4 1 (bS 8 st)) = y3 at *
  generalize mLF (bS 3 (bS 8 st)) (oM (bS 8 st)) = ml at *
  generalize bV 8 st = y at *
  by_cases c1 : y < 2
  · simp only [if_pos c1]
    exact .inl ⟨trivial, h2.1, h2.2, trivial, trivial⟩
  by_cases c2 : y < 5
  · simp only [if_neg c1, if_pos c2]
    exact .inr (.inl ⟨trivial, trivial, trivial, by omega, h7⟩)
  by_cases c3 : y = 5
  · simp only [if_neg c1, if_neg c2, if_pos c3]
    exact .inr (.inr (.inl ⟨trivial, by omega, by omega, by omega, by omega, trivial⟩))
  by_cases c4 : y = 6
  · simp only [if_neg c1, if_neg c2, if_neg c3, if_pos c4]
    exact .inr (.inr (.inr (.inl ⟨trivial, trivial, trivial, trivial⟩)))
  · simp only [if_neg c1, if_neg c2, if_neg c3, if_neg c4]
    exact .inr (.inr (.inr (.inr ⟨trivial, trivial, trivial, trivial⟩)))
theorem opsL_mem (st : Int) (m : Nat) : ∀ o ∈ opsL st m, ∃ s, o = opn s := by
  induction m with
  | zero => intro x hx; cases hx
  | succ m ih =>
    intro x hx
    simp only [opsL, List.mem_append, List.mem_singleton] at hx
    rcases hx with hx | rfl
    · exact ih x hx
    · exact ⟨_, rfl⟩
theorem scL_mem (nl : Bool) (m : Nat) (st : Int) (j : Nat) : ∀ s ∈ scL nl m st j, ∃ t, s.l = opsL t m := by
  induction j with
  | zero => intro x hx; cases hx
  | succ j ih =>
    intro x hx
    simp only [scL, List.mem_append, List.mem_singleton] at hx
    rcases hx with hx | rfl
    · exact ih x hx
    · exact ⟨_, rfl⟩
theorem scL_ls (n1 n2 : Bool) (m : Nat) (st : Int) (j : Nat) : lsOf (scL n1 m st j) = lsOf (scL n2 m st j) := by
  induction j with
  | zero => rfl
  | succ j ih =>
    have h : ∀ a b : List (Sl Opn), lsOf (a ++ b) = lsOf a ++ lsOf b := fun a b => List.map_append
    rw [scL, scL, h, h, ih]
    rfl
end Go.AS.Sd

namespace Go.AS.Sd
open Go Go.AS Go.Proofs
set_option maxHeartbeats 4000000
set_option maxRecDepth 100000
theorem batch_mk (kd : UInt8) (key : Str) (n : Int) (l : List Msg) (h : l.length ≤ 3) : (Opn.mk kd key [] n ⟨l.isEmpty, l⟩).batch.l.length ≤ 3 ∧ ((Opn.mk kd key [] n ⟨l.isEmpty, l⟩).batch.nil = true → (Opn.mk kd key [] n ⟨l.isEmpty, l⟩).batch.l = []) :=
  ⟨h, fun e => by simpa using e⟩
theorem opn_batch (t : Int) : (opn t).batch.l.length ≤ 3 ∧ ((opn t).batch.nil = true → (opn t).batch.l = []) := by
  unfold opn
  exact batch_mk _ _ _ _ (oL_len t)
theorem core {s ss ops picks x0 x1 x2 x3 x4 x5 x6 x7 x8 : Int} {la lb : List (Sl Opn)} {p1 p2 : Bool} {pk : List Int} (hlive : Gives F 30 [] (.bool true))
    (hp : Gives F 37 [.int .u64 s, .int .i64 ss, .int .i64 ops, .int .i64 picks] (.agg (Cel.enc (Scr.mk ⟨x0, x1, x2, x3, x4, x5, x6, x7, x8⟩ ⟨false, la⟩ ⟨p1, pk⟩))))
    (hr : Gives F 38 [.int .u64 s, .int .i64 ss, .int .i64 ops, .int .i64 picks] (.agg (Cel.enc (Scr.mk ⟨x0, x1, x2, x3, x4, x5, x6, x7, x8⟩ ⟨false, lb⟩ ⟨p2, pk⟩))))
    (hcf : Gives F 40 [.int .u64 s] (.agg (Cel.enc (Cfg.mk x0 x1 x2 x3 x4 x5 x6 x7 x8))))
    (hsame : Gives F 39 [.agg (Cel.enc (Scr.mk ⟨x0, x1, x2, x3, x4, x5, x6, x7, x8⟩ ⟨false, la⟩ ⟨p1, pk⟩)), .agg (Cel.enc (Scr.mk ⟨x0, x1, x2, x3, x4, x5, x6, x7, x8⟩ ⟨false, lb⟩ ⟨p2, pk⟩))] (.bool true))
    (hck3 : Gives F 41 [.agg (Cel.enc (Scr.mk ⟨x0, x1, x2, x3, x4, x5, x6, x7, x8⟩ ⟨false, lb⟩ ⟨p2, pk⟩))] (.tuple [.int .i64 0, .int .i64 0, .int .i64 0]))
    (hck : Gives F 42 [.agg (Cel.enc (Cfg.mk x0 x1 x2 x3 x4 x5 x6 x7 x8))] (.int .i64 0)) :
    Gives F 7 [.int .u64 s, .int .i64 ss, .int .i64 ops, .int .i64 picks] (.bool true) := by
  rw [encScr] at hp hr hck3
  rw [encScr, encScr] at hsame
  rw [encCfg] at hcf hck
  have hp := hp.isp (by simp [hfrees, hfree]) (by simp [hfrees, hfree, sl_free])
  have hr := hr.isp (by simp [hfrees, hfree]) (by simp [hfrees, hfree, sl_free])
  have hcf := hcf.isp (by simp [hfrees, hfree]) (by simp [hfrees, hfree])
  have hsame := hsame.isp (by simp [hfrees, hfree, sl_free]) rfl
  have hck3 := hck3.isp (by simp [hfrees, hfree, sl_free]) rfl
  have hck := hck.isp (by simp [hfrees, hfree]) rfl
  refine Gives.of fn_l40_SeedScripts rfl rfl (args' := [.int .u64 s, .int .i64 ss, .int .i64 ops, .int .i64 picks]) (by simp only [mapO_nil, mapO_c2, consO_some, upf_v]) ?_
  simp only [ir_l40_SeedScripts]
  have tk11 : ∀ (a0 a1 a2 a3 a4 a5 a6 a7 a8 a b : AV), List.take 11 (List.drop 0 [a0, a1, a2, a3, a4, a5, a6, a7, a8, a, b]) = [a0, a1, a2, a3, a4, a5, a6, a7, a8, a, b] := fun _ _ _ _ _ _ _ _ _ _ _ => rfl
  simp -failIfUnchanged (disch := first | assumption | omega | (refine room_i _ _ ?_ ?_ <;> omega) | (refine @_root_.id _ ?_; with_unfolding_all exact Eq.refl _) | (simp only [List.length_take, List.length_drop, List.length_append, List.length_cons, List.length_nil, List.length_replicate, List.length_map] <;> omega) | fail) only [rnL, opL, ruL, hpL, rsL, natL, outL, Nat.add_sub_cancel_left, Nat.mul_one, List.length_cons, List.length_nil, Nat.zero_add, Nat.add_zero, Nat.reduceAdd, Nat.reduceMul, Nat.reduceSub, Nat.reduceEqDiff, Nat.reduceLT, Nat.reduceLeDiff, litd_t, litd_f, decide_true, decide_false, Bool.not_true, Bool.not_false, not_true_eq_false, not_false_eq_true, true_and, and_true, false_and, and_false, true_or, or_true, false_or, or_false, Int.toNat_natCast, cond_true, cond_false, List.map_cons, List.map_nil, Option.map_some, Option.map_none]
  (first | refine RunB_i (fun q1 => ?_) (fun q1 => ?_) | refine RunG_i (fun q1 => ?_) (fun q1 => ?_) | refine RunB_ib (fun q1 => ?_) (fun q1 => ?_))
  · simp -failIfUnchanged (disch := first | assumption | omega | (refine room_i _ _ ?_ ?_ <;> omega) | (refine @_root_.id _ ?_; with_unfolding_all exact Eq.refl _) | (simp only [List.length_take, List.length_drop, List.length_append, List.length_cons, List.length_nil, List.length_replicate, List.length_map] <;> omega) | fail) only [rnL, opL, ruL, hpL, rsL, natL, outL, Nat.add_sub_cancel_left, Nat.mul_one, List.length_cons, List.length_nil, Nat.zero_add, Nat.add_zero, Nat.reduceAdd, Nat.reduceMul, Nat.reduceSub, Nat.reduceEqDiff, Nat.reduceLT, Nat.reduceLeDiff, litd_t, litd_f, decide_true, decide_false, Bool.not_true, Bool.not_false, not_true_eq_false, not_false_eq_true, true_and, and_true, false_and, and_false, true_or, or_true, false_or, or_false, Int.toNat_natCast, cond_true, cond_false, List.map_cons, List.map_nil, Option.map_some, Option.map_none, hlive.isp]
    (refine Fin_g (.inr rfl) (by simp -failIfUnchanged (disch := first | assumption | omega | (refine room_i _ _ ?_ ?_ <;> omega) | (refine @_root_.id _ ?_; with_unfolding_all exact Eq.refl _) | (simp only [List.length_take, List.length_drop, List.length_append, List.length_cons, List.length_nil, List.length_replicate, List.length_map] <;> omega) | fail) only [rnL, opL, ruL, hpL, rsL, natL, outL, Nat.add_sub_cancel_left, Nat.mul_one, List.length_cons, List.length_nil, Nat.zero_add, Nat.add_zero, Nat.reduceAdd, Nat.reduceMul, Nat.reduceSub, Nat.reduceEqDiff, Nat.reduceLT, Nat.reduceLeDiff, litd_t, litd_f, decide_true, decide_false, Bool.not_true, Bool.not_false, not_true_eq_false, not_false_eq_true, true_and, and_true, false_and, and_false, true_or, or_true, false_or, or_false, Int.toNat_natCast, cond_true, cond_false, List.map_cons, List.map_nil, Option.map_some, Option.map_none]; rfl) ?_; simp -failIfUnchanged (disch := first | assumption | omega | (refine room_i _ _ ?_ ?_ <;> omega) | (refine @_root_.id _ ?_; with_unfolding_all exact Eq.refl _) | (simp only [List.length_take, List.length_drop, List.length_append, List.length_cons, List.length_nil, List.length_replicate, List.length_map] <;> omega) | fail) only [rnL, opL, ruL, hpL, rsL, natL, outL, Nat.add_sub_cancel_left, Nat.mul_one, List.length_cons, List.length_nil, Nat.zero_add, Nat.add_zero, Nat.reduceAdd, Nat.reduceMul, Nat.reduceSub, Nat.reduceEqDiff, Nat.reduceLT, Nat.reduceLeDiff, litd_t, litd_f, decide_true, decide_false, Bool.not_true, Bool.not_false, not_true_eq_false, not_false_eq_true, true_and, and_true, false_and, and_false, true_or, or_true, false_or, or_false, Int.toNat_natCast, cond_true, cond_false, List.map_cons, List.map_nil, Option.map_some, Option.map_none])
  simp -failIfUnchanged (disch := first | assumption | omega | (refine room_i _ _ ?_ ?_ <;> omega) | (refine @_root_.id _ ?_; with_unfolding_all exact Eq.refl _) | (simp only [List.length_take, List.length_drop, List.length_append, List.length_cons, List.length_nil, List.length_replicate, List.length_map] <;> omega) | fail) only [rnL, opL, ruL, hpL, rsL, natL, outL, Nat.add_sub_cancel_left, Nat.mul_one, List.length_cons, List.length_nil, Nat.zero_add, Nat.add_zero, Nat.reduceAdd, Nat.reduceMul, Nat.reduceSub, Nat.reduceEqDiff, Nat.reduceLT, Nat.reduceLeDiff, litd_t, litd_f, decide_true, decide_false, Bool.not_true, Bool.not_false, not_true_eq_false, not_false_eq_true, true_and, and_true, false_and, and_false, true_or, or_true, false_or, or_false, Int.toNat_natCast, cond_true, cond_false, List.map_cons, List.map_nil, Option.map_some, Option.map_none, hp, hr, tk11, hsame, hcf, tk9, eqa_cfg, hck3, hlive.isp, hck]
  (refine Fin_g (.inr rfl) (by simp -failIfUnchanged (disch := first | assumption | omega | (refine room_i _ _ ?_ ?_ <;> omega) | (refine @_root_.id _ ?_; with_unfolding_all exact Eq.refl _) | (simp only [List.length_take, List.length_drop, List.length_append, List.length_cons, List.length_nil, List.length_replicate, List.length_map] <;> omega) | fail) only [rnL, opL, ruL, hpL, rsL, natL, outL, Nat.add_sub_cancel_left, Nat.mul_one, List.length_cons, List.length_nil, Nat.zero_add, Nat.add_zero, Nat.reduceAdd, Nat.reduceMul, Nat.reduceSub, Nat.reduceEqDiff, Nat.reduceLT, Nat.reduceLeDiff, litd_t, litd_f, decide_true, decide_false, Bool.not_true, Bool.not_false, not_true_eq_false, not_false_eq_true, true_and, and_true, false_and, and_false, true_or, or_true, false_or, or_false, Int.toNat_natCast, cond_true, cond_false, List.map_cons, List.map_nil, Option.map_some, Option.map_none]; rfl) ?_; simp -failIfUnchanged (disch := first | assumption | omega | (refine room_i _ _ ?_ ?_ <;> omega) | (refine @_root_.id _ ?_; with_unfolding_all exact Eq.refl _) | (simp only [List.length_take, List.length_drop, List.length_append, List.length_cons, List.length_nil, List.length_replicate, List.length_map] <;> omega) | fail) only [rnL, opL, ruL, hpL, rsL, natL, outL, Nat.add_sub_cancel_left, Nat.mul_one, List.length_cons, List.length_nil, Nat.zero_add, Nat.add_zero, Nat.reduceAdd, Nat.reduceMul, Nat.reduceSub, Nat.reduceEqDiff, Nat.reduceLT, Nat.reduceLeDiff, litd_t, litd_f, decide_true, decide_false, Bool.not_true, Bool.not_false, not_true_eq_false, not_false_eq_true, true_and, and_true, false_and, and_false, true_or, or_true, false_or, or_false, Int.toNat_natCast, cond_true, cond_false, List.map_cons, List.map_nil, Option.map_some, Option.map_none])
theorem law2 (hlive : Gives F 30 [] (.bool true)) (s ss ops picks : Int) : Gives F 7 [.int .u64 s, .int .i64 ss, .int .i64 ops, .int .i64 picks] (.bool true) := by
  have hp := script_p s ss ops picks
  have hr := script_r s ss ops picks
  have hcf := config_p s
  have hok := cfgV_ok s
  have hpk : (pkL (sCnt ss : Nat) (scS (oCnt ops) s (sCnt ss)) (pkN picks)).length ≤ 10000 := by rw [pkL_len]; exact (pkN_b picks).1
  have hls := scL_ls true false (oCnt ops) s (sCnt ss)
  obtain ⟨n1, n2, _⟩ := sCnt_b ss
  have m1 := (oCnt_b ops).1
  have ha := scL_mem true (oCnt ops) s (sCnt ss)
  have hb := scL_mem false (oCnt ops) s (sCnt ss)
  have la1 := scL_len true (oCnt ops) s (sCnt ss)
  have lb1 := scL_len false (oCnt ops) s (sCnt ss)
  unfold scr at hp hr
  generalize scL true (oCnt ops) s (sCnt ss) = la at *
  generalize scL false (oCnt ops) s (sCnt ss) = lb at *
  generalize pkL (sCnt ss : Nat) (scS (oCnt ops) s (sCnt ss)) (pkN picks) = pk at *
  generalize cfgV s = c at *
  have hch : 3 ≤ c.chunk := hok.2.2.2.2.2.2.2.2.2.2.2.2.2.2.1
  have hck3 := chk33 c hok lb (false && pk.isEmpty) pk (by omega) (by omega) fun t ht => by
    obtain ⟨u, hu⟩ := hb t ht
    rw [hu]
    refine ⟨by rw [opsL_len]; exact m1, fun o ho => ?_⟩
    obtain ⟨v, rfl⟩ := opsL_mem _ _ o ho
    exact opn_ok v c hch
  have hck := chk21 c hok
  obtain ⟨x0, x1, x2, x3, x4, x5, x6, x7, x8⟩ := c
  have hsame := same33 (x0 := x0) (x1 := x1) (x2 := x2) (x3 := x3) (x4 := x4) (x5 := x5) (x6 := x6) (x7 := x7) (x8 := x8) (p1 := true && pk.isEmpty) (p2 := false && pk.isEmpty) hpk (by omega : la.length ≤ 64) hls fun t ht => by
    obtain ⟨u, hu⟩ := ha t ht
    rw [hu]
    refine ⟨by rw [opsL_len]; exact m1, fun o ho => ?_⟩
    obtain ⟨v, rfl⟩ := opsL_mem _ _ o ho
    exact opn_batch v
  exact core hlive hp hr hcf hsame hck3 hck
end Go.AS.Sd

namespace Go.AS.Sd
open Go Go.AS Go.Proofs
def fl_l40_live : List (Nat × IFun) := [(30, ir_l40_live), (18, ir_seed_New), (19, ir_seed_Source_Next), (21, ir_seed_Source_Below), (40, ir_seed_Config)]
theorem fl_l40_live_ok : ∀ p ∈ fl_l40_live, F p.1 = some p.2 := by
  simp only [fl_l40_live, List.forall_mem_cons]
  exact ⟨fn_l40_live, fn_seed_New, fn_seed_Source_Next, fn_seed_Source_Below, fn_seed_Config, fun p h => by cases h⟩
theorem l40_live_ev : callV (listF fl_l40_live) 60 (.func (.func 30) [] []) [] [] = some (.ret (.bool true), []) := by kernel_rfl
theorem l40_live_true : Gives F 30 [] (.bool true) :=
  ⟨60, callV_sub (listF_sub fl_l40_live_ok) (Nat.le_refl _) _ _ _ _ _ l40_live_ev []⟩
end Go.AS.Sd
