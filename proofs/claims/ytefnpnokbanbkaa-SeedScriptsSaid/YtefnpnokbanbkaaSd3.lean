import Derived.Test.YtefnpnokbanbkaaSd0
import Derived.Test.YtefnpnokbanbkaaRn0
set_option linter.all false
namespace Go.AS.Sd
open Go Go.AS Go.Proofs
set_option maxHeartbeats 2000000
set_option maxRecDepth 8000
theorem FinX_cell {i n id : Nat} {m : Option Nat} {cs : List AV} {v : AV} {P : AV → Stack → Prop} {x : IX} {e : Env} {H : Heap} {S : Stack} (hx : x = .normal ∨ x = .ret) (he : Env.get e i = .ptr id n 0) (hh : hat H id = .cells cs) (hn : Nat.beq cs.length n = true)
    (hv : one m cs 0 = some v) (hP : P v (H :: S)) : FinX [.cell i m] P x e (H :: S) := by
  refine ⟨hx, v, ?_, hP⟩
  have h2 := hat_lt (by intro h; cases h) hh
  simp only [resultsA, mapO, resultA, he, h2, hn, cond_true, hv]
/-- A message. -/
def mV (st : Int) : Msg :=
  if bV 8 st = 7 then ⟨4, 0, kV 4 1 (bS 8 st), kV 4 1 (bS 8 st) ++ [122], [], 0⟩ else
  if bV 8 st = 4 then ⟨2, 0, kV 4 2 (bS 8 st), [], [], 0⟩ else
  if 4 < bV 8 st then ⟨3, 0, kV 4 2 (bS 8 st), [], [], UInt64.ofNat (bV 100 (kS 4 2 (bS 8 st))).toNat⟩ else
  ⟨1, 0, kV 4 2 (bS 8 st), [], List.replicate (bV 3 (kS 4 2 (bS 8 st))).toNat 120, 0⟩
def mS (st : Int) : Int :=
  if bV 8 st = 7 then kS 4 1 (bS 8 st) else
  if bV 8 st = 4 then kS 4 2 (bS 8 st) else
  if 4 < bV 8 st then bS 100 (kS 4 2 (bS 8 st)) else
  bS 3 (kS 4 2 (bS 8 st))
theorem kV_len (l m st : Int) : (kV l m st).length ≤ 16 := by
  unfold kV
  rw [klF_len]
  exact (kN_b m st).2.1
/-- The empty message's cells. -/
abbrev m0 : List AV := [.int .u8 0, .int .i64 0, .str [], .str [], .str [], .int .u64 0]
abbrev MsgP (k : Nat) (H : Heap) (S : Stack) (st : Int) (v : AV) (S' : Stack) : Prop := ∃ H', v = .agg (Cel.enc (mV st)) ∧ S' = H' :: S ∧ hat H' k = .cells [.int .u64 (mS st)] ∧ Kp k H H'
theorem fin_msg {H Hn : Heap} {S : Stack} {k : Nat} {st s' : Int} {e : Env} {m : Msg} {cs : List AV} (hc : cs = Cel.enc m) (hl : k < H.length) (hn : H.length < Hn.length) (he : Env.get e 2 = .ptr H.length 6 0) (hs : hat Hn k = .cells [.int .u64 s'])
    (hp : ∀ j, j < H.length → j ≠ k → hat Hn j = hat H j) (hm : m = mV st) (hs' : s' = mS st) : FinX [.cell 2 (some 6)] (MsgP k H S st) .ret e (hset Hn H.length (.cells cs) :: S) := by
  subst hm hs' hc
  refine FinX_cell (.inr rfl) he (hat_hset_eq _ hn) rfl rfl ⟨_, rfl, rfl, ?_, ⟨by rw [hset_len]; omega, fun j h1 h2 => ?_⟩⟩
  · rw [hat_hset_ne _ (by omega), hs]
  · rw [hat_hset_ne _ (by omega), hp j h1 h2]
theorem kp_old {k : Nat} {H H' : Heap} {o p : AObj} (h : Kp k (hset H k o ++ [p]) H') : H.length < H'.length ∧ (k < H.length → hat H' H.length = p) ∧ ∀ j, j < H.length → j ≠ k → hat H' j = hat H j := by
  have h1 := h.len
  simp only [List.length_append, hset_len, List.length_cons, List.length_nil] at h1
  refine ⟨by omega, fun hk => ?_, fun j a b => ?_⟩
  · rw [h.at_ H.length (by simp [hset_len]) (by omega), hat_endh]
  · rw [h.at_ j (by simp [hset_len]; omega) b, hat_app_lt (by rw [hset_len]; exact a), hat_hset_ne _ (Ne.symm b)]
theorem bm23 {H : Heap} {a : Int} {x y : Str} : opV H (.build m0 [(0, 1, .c (.int .u8 a)), (2, 1, .c (.str x)), (3, 1, .c (.str y))]) = some (.agg [.int .u8 a, .int .i64 0, .str x, .str y, .str [], .int .u64 0], H) := rfl
theorem bm24 {H : Heap} {a : Int} {x y : Str} : opV H (.build m0 [(0, 1, .c (.int .u8 a)), (2, 1, .c (.str x)), (4, 1, .c (.str y))]) = some (.agg [.int .u8 a, .int .i64 0, .str x, .str [], .str y, .int .u64 0], H) := rfl
theorem bm25 {H : Heap} {a d : Int} {x : Str} : opV H (.build m0 [(0, 1, .c (.int .u8 a)), (2, 1, .c (.str x)), (5, 1, .c (.int .u64 d))]) = some (.agg [.int .u8 a, .int .i64 0, .str x, .str [], .str [], .int .u64 d], H) := rfl
theorem bm2 {H : Heap} {a : Int} {x : Str} : opV H (.build m0 [(0, 1, .c (.int .u8 a)), (2, 1, .c (.str x))]) = some (.agg [.int .u8 a, .int .i64 0, .str x, .str [], .str [], .int .u64 0], H) := rfl
theorem u64_of {b : Int} (h0 : 0 ≤ b) (h1 : b < 18446744073709551616) : b = ((UInt64.ofNat b.toNat).toNat : Int) := by
  simp only [UInt64.toNat_ofNat']
  omega
theorem msg_r : Step 26 [] (fun st => .agg (Cel.enc (mV st))) mS := by
  intro H S k st hk
  have hl := hat_some hk
  have key : ∃ v S', Rets F (.func (.func 26) [] []) [.ptr k 1 0] (H :: S) v S' ∧ MsgP k H S st v S' := by
    refine Rets.memX (funs := F) (fi := []) (ca := []) fn_r40_Msg rfl rfl ?_
    simp only [ir_r40_Msg, List.nil_append, List.cons_append]
    have hk1 : ∀ o, hat (H ++ [o]) k = .cells [.int .u64 st] := fun o => (hat_app_lt hl).trans hk
    simp -failIfUnchanged (disch := first | assumption | omega | (refine room_i _ _ ?_ ?_ <;> omega) | (refine @_root_.id _ ?_; with_unfolding_all exact Eq.refl _) | (simp only [List.length_take, List.length_drop, List.length_append, List.length_cons, List.length_nil, List.length_replicate, List.length_map] <;> omega) | fail) only [rnL, opL, ruL, hpL, rsL, natL, outL, Nat.add_sub_cancel_left, Nat.mul_one, List.length_cons, List.length_nil, Nat.zero_add, Nat.add_zero, Nat.reduceAdd, Nat.reduceMul, Nat.reduceSub, Nat.reduceEqDiff, Nat.reduceLT, Nat.reduceLeDiff, litd_t, litd_f, decide_true, decide_false, Bool.not_true, Bool.not_false, not_true_eq_false, not_false_eq_true, true_and, and_true, false_and, and_false, true_or, or_true, false_or, or_false, Int.toNat_natCast, cond_true, cond_false, List.map_cons, List.map_nil, Option.map_some, Option.map_none]
    refine RunC_r (below_r (hk1 _) (by omega)) ?_
    simp -failIfUnchanged (disch := first | assumption | omega | (refine room_i _ _ ?_ ?_ <;> omega) | (refine @_root_.id _ ?_; with_unfolding_all exact Eq.refl _) | (simp only [List.length_take, List.length_drop, List.length_append, List.length_cons, List.length_nil, List.length_replicate, List.length_map] <;> omega) | fail) only [rnL, opL, ruL, hpL, rsL, natL, outL, Nat.add_sub_cancel_left, Nat.mul_one, List.length_cons, List.length_nil, Nat.zero_add, Nat.add_zero, Nat.reduceAdd, Nat.reduceMul, Nat.reduceSub, Nat.reduceEqDiff, Nat.reduceLT, Nat.reduceLeDiff, litd_t, litd_f, decide_true, decide_false, Bool.not_true, Bool.not_false, not_true_eq_false, not_false_eq_true, true_and, and_true, false_and, and_false, true_or, or_true, false_or, or_false, Int.toNat_natCast, cond_true, cond_false, List.map_cons, List.map_nil, Option.map_some, Option.map_none, hset_app_lt hl]
    have hk2 : ∀ o, hat (hset H k (.cells [.int .u64 (bS 8 st)]) ++ [o]) k = .cells [.int .u64 (bS 8 st)] := fun o => by
      rw [hat_app_lt (by rw [hset_len]; exact hl), hat_hset_eq _ hl]
    (first | refine RunB_i (fun h1 => ?_) (fun h1 => ?_) | refine RunG_i (fun h1 => ?_) (fun h1 => ?_) | refine RunB_ib (fun h1 => ?_) (fun h1 => ?_))
    · obtain ⟨H1, r1, k1, p1⟩ := key_r 4 1 (hset H k (.cells [.int .u64 (bS 8 st)]) ++ [.cells m0]) S k _ (hk2 _)
      obtain ⟨q1, q2, q3⟩ := kp_old p1
      have q2 := q2 hl
      have l1 := kV_len 4 1 (bS 8 st)
      simp -failIfUnchanged (disch := first | assumption | omega | (refine room_i _ _ ?_ ?_ <;> omega) | (refine @_root_.id _ ?_; with_unfolding_all exact Eq.refl _) | (simp only [List.length_take, List.length_drop, List.length_append, List.length_cons, List.length_nil, List.length_replicate, List.length_map] <;> omega) | fail) only [rnL, opL, ruL, hpL, rsL, natL, outL, Nat.add_sub_cancel_left, Nat.mul_one, List.length_cons, List.length_nil, Nat.zero_add, Nat.add_zero, Nat.reduceAdd, Nat.reduceMul, Nat.reduceSub, Nat.reduceEqDiff, Nat.reduceLT, Nat.reduceLeDiff, litd_t, litd_f, decide_true, decide_false, Bool.not_true, Bool.not_false, not_true_eq_false, not_false_eq_true, true_and, and_true, false_and, and_false, true_or, or_true, false_or, or_false, Int.toNat_natCast, cond_true, cond_false, List.map_cons, List.map_nil, Option.map_some, Option.map_none]
      refine RunC_r r1 ?_
      simp -failIfUnchanged (disch := first | assumption | omega | (refine room_i _ _ ?_ ?_ <;> omega) | (refine @_root_.id _ ?_; with_unfolding_all exact Eq.refl _) | (simp only [List.length_take, List.length_drop, List.length_append, List.length_cons, List.length_nil, List.length_replicate, List.length_map] <;> omega) | fail) only [rnL, opL, ruL, hpL, rsL, natL, outL, Nat.add_sub_cancel_left, Nat.mul_one, List.length_cons, List.length_nil, Nat.zero_add, Nat.add_zero, Nat.reduceAdd, Nat.reduceMul, Nat.reduceSub, Nat.reduceEqDiff, Nat.reduceLT, Nat.reduceLeDiff, litd_t, litd_f, decide_true, decide_false, Bool.not_true, Bool.not_false, not_true_eq_false, not_false_eq_true, true_and, and_true, false_and, and_false, true_or, or_true, false_or, or_false, Int.toNat_natCast, cond_true, cond_false, List.map_cons, List.map_nil, Option.map_some, Option.map_none, q2, bm23]
      refine fin_msg (m := ⟨4, 0, kV 4 1 (bS 8 st), kV 4 1 (bS 8 st) ++ [122], [], 0⟩) (by rfl) hl q1 (by rfl) k1 q3 (by unfold mV; rw [if_pos h1]) (by unfold mS; rw [if_pos h1])
    obtain ⟨H1, r1, k1, p1⟩ := key_r 4 2 (hset H k (.cells [.int .u64 (bS 8 st)]) ++ [.cells m0]) S k _ (hk2 _)
    obtain ⟨q1, q2, q3⟩ := kp_old p1
    have q2 := q2 hl
    simp -failIfUnchanged (disch := first | assumption | omega | (refine room_i _ _ ?_ ?_ <;> omega) | (refine @_root_.id _ ?_; with_unfolding_all exact Eq.refl _) | (simp only [List.length_take, List.length_drop, List.length_append, List.length_cons, List.length_nil, List.length_replicate, List.length_map] <;> omega) | fail) only [rnL, opL, ruL, hpL, rsL, natL, outL, Nat.add_sub_cancel_left, Nat.mul_one, List.length_cons, List.length_nil, Nat.zero_add, Nat.add_zero, Nat.reduceAdd, Nat.reduceMul, Nat.reduceSub, Nat.reduceEqDiff, Nat.reduceLT, Nat.reduceLeDiff, litd_t, litd_f, decide_true, decide_false, Bool.not_true, Bool.not_false, not_true_eq_false, not_false_eq_true, true_and, and_true, false_and, and_false, true_or, or_true, false_or, or_false, Int.toNat_natCast, cond_true, cond_false, List.map_cons, List.map_nil, Option.map_some, Option.map_none]
    refine RunC_r r1 ?_
    simp -failIfUnchanged (disch := first | assumption | omega | (refine room_i _ _ ?_ ?_ <;> omega) | (refine @_root_.id _ ?_; with_unfolding_all exact Eq.refl _) | (simp only [List.length_take, List.length_drop, List.length_append, List.length_cons, List.length_nil, List.length_replicate, List.length_map] <;> omega) | fail) only [rnL, opL, ruL, hpL, rsL, natL, outL, Nat.add_sub_cancel_left, Nat.mul_one, List.length_cons, List.length_nil, Nat.zero_add, Nat.add_zero, Nat.reduceAdd, Nat.reduceMul, Nat.reduceSub, Nat.reduceEqDiff, Nat.reduceLT, Nat.reduceLeDiff, litd_t, litd_f, decide_true, decide_false, Bool.not_true, Bool.not_false, not_true_eq_false, not_false_eq_true, true_and, and_true, false_and, and_false, true_or, or_true, false_or, or_false, Int.toNat_natCast, cond_true, cond_false, List.map_cons, List.map_nil, Option.map_some, Option.map_none]
    (first | refine RunB_i (fun h2 => ?_) (fun h2 => ?_) | refine RunG_i (fun h2 => ?_) (fun h2 => ?_) | refine RunB_ib (fun h2 => ?_) (fun h2 => ?_))
    · simp -failIfUnchanged (disch := first | assumption | omega | (refine room_i _ _ ?_ ?_ <;> omega) | (refine @_root_.id _ ?_; with_unfolding_all exact Eq.refl _) | (simp only [List.length_take, List.length_drop, List.length_append, List.length_cons, List.length_nil, List.length_replicate, List.length_map] <;> omega) | fail) only [rnL, opL, ruL, hpL, rsL, natL, outL, Nat.add_sub_cancel_left, Nat.mul_one, List.length_cons, List.length_nil, Nat.zero_add, Nat.add_zero, Nat.reduceAdd, Nat.reduceMul, Nat.reduceSub, Nat.reduceEqDiff, Nat.reduceLT, Nat.reduceLeDiff, litd_t, litd_f, decide_true, decide_false, Bool.not_true, Bool.not_false, not_true_eq_false, not_false_eq_true, true_and, and_true, false_and, and_false, true_or, or_true, false_or, or_false, Int.toNat_natCast, cond_true, cond_false, List.map_cons, List.map_nil, Option.map_some, Option.map_none, q2, bm2]
      refine fin_msg (m := ⟨2, 0, kV 4 2 (bS 8 st), [], [], 0⟩) (by rfl) hl q1 (by rfl) k1 q3 (by unfold mV; rw [if_neg h1, if_pos h2]) (by unfold mS; rw [if_neg h1, if_pos h2])
    simp -failIfUnchanged (disch := first | assumption | omega | (refine room_i _ _ ?_ ?_ <;> omega) | (refine @_root_.id _ ?_; with_unfolding_all exact Eq.refl _) | (simp only [List.length_take, List.length_drop, List.length_append, List.length_cons, List.length_nil, List.length_replicate, List.length_map] <;> omega) | fail) only [rnL, opL, ruL, hpL, rsL, natL, outL, Nat.add_sub_cancel_left, Nat.mul_one, List.length_cons, List.length_nil, Nat.zero_add, Nat.add_zero, Nat.reduceAdd, Nat.reduceMul, Nat.reduceSub, Nat.reduceEqDiff, Nat.reduceLT, Nat.reduceLeDiff, litd_t, litd_f, decide_true, decide_false, Bool.not_true, Bool.not_false, not_true_eq_false, not_false_eq_true, true_and, and_true, false_and, and_false, true_or, or_true, false_or, or_false, Int.toNat_natCast, cond_true, cond_false, List.map_cons, List.map_nil, Option.map_some, Option.map_none]
    (first | refine RunB_i (fun h3 => ?_) (fun h3 => ?_) | refine RunG_i (fun h3 => ?_) (fun h3 => ?_) | refine RunB_ib (fun h3 => ?_) (fun h3 => ?_))
    · have d1 := bV_nn 100 (kS 4 2 (bS 8 st))
      have d2 := bV_lt 100 (kS 4 2 (bS 8 st)) (by omega)
      simp -failIfUnchanged (disch := first | assumption | omega | (refine room_i _ _ ?_ ?_ <;> omega) | (refine @_root_.id _ ?_; with_unfolding_all exact Eq.refl _) | (simp only [List.length_take, List.length_drop, List.length_append, List.length_cons, List.length_nil, List.length_replicate, List.length_map] <;> omega) | fail) only [rnL, opL, ruL, hpL, rsL, natL, outL, Nat.add_sub_cancel_left, Nat.mul_one, List.length_cons, List.length_nil, Nat.zero_add, Nat.add_zero, Nat.reduceAdd, Nat.reduceMul, Nat.reduceSub, Nat.reduceEqDiff, Nat.reduceLT, Nat.reduceLeDiff, litd_t, litd_f, decide_true, decide_false, Bool.not_true, Bool.not_false, not_true_eq_false, not_false_eq_true, true_and, and_true, false_and, and_false, true_or, or_true, false_or, or_false, Int.toNat_natCast, cond_true, cond_false, List.map_cons, List.map_nil, Option.map_some, Option.map_none]
      refine RunC_r (below_r k1 (by omega)) ?_
      have q4 : hat (hset H1 k (.cells [.int .u64 (bS 100 (kS 4 2 (bS 8 st)))])) H.length = .cells m0 := by rw [hat_hset_ne _ (by omega), q2]
      simp -failIfUnchanged (disch := first | assumption | omega | (refine room_i _ _ ?_ ?_ <;> omega) | (refine @_root_.id _ ?_; with_unfolding_all exact Eq.refl _) | (simp only [List.length_take, List.length_drop, List.length_append, List.length_cons, List.length_nil, List.length_replicate, List.length_map] <;> omega) | fail) only [rnL, opL, ruL, hpL, rsL, natL, outL, Nat.add_sub_cancel_left, Nat.mul_one, List.length_cons, List.length_nil, Nat.zero_add, Nat.add_zero, Nat.reduceAdd, Nat.reduceMul, Nat.reduceSub, Nat.reduceEqDiff, Nat.reduceLT, Nat.reduceLeDiff, litd_t, litd_f, decide_true, decide_false, Bool.not_true, Bool.not_false, not_true_eq_false, not_false_eq_true, true_and, and_true, false_and, and_false, true_or, or_true, false_or, or_false, Int.toNat_natCast, cond_true, cond_false, List.map_cons, List.map_nil, Option.map_some, Option.map_none, q4, bm25]
      have e : bV 100 (kS 4 2 (bS 8 st)) = ((UInt64.ofNat (bV 100 (kS 4 2 (bS 8 st))).toNat).toNat : Int) := u64_of (by omega) (by omega)
      refine fin_msg (m := ⟨3, 0, kV 4 2 (bS 8 st), [], [], UInt64.ofNat (bV 100 (kS 4 2 (bS 8 st))).toNat⟩) (by show [_, _, _, _, _, AV.int .u64 _] = [_, _, _, _, _, AV.int .u64 _]; rw [← e]; rfl) hl (by rw [hset_len]; exact q1) (by rfl) (hat_hset_eq _ (hat_some k1)) (fun j a b => (hat_hset_ne _ (Ne.symm b)).trans (q3 j a b)) (by unfold mV; rw [if_neg h1, if_neg h2, if_pos h3]) (by unfold mS; rw [if_neg h1, if_neg h2, if_pos h3])
    simp -failIfUnchanged (disch := first | assumption | omega | (refine room_i _ _ ?_ ?_ <;> omega) | (refine @_root_.id _ ?_; with_unfolding_all exact Eq.refl _) | (simp only [List.length_take, List.length_drop, List.length_append, List.length_cons, List.length_nil, List.length_replicate, List.length_map] <;> omega) | fail) only [rnL, opL, ruL, hpL, rsL, natL, outL, Nat.add_sub_cancel_left, Nat.mul_one, List.length_cons, List.length_nil, Nat.zero_add, Nat.add_zero, Nat.reduceAdd, Nat.reduceMul, Nat.reduceSub, Nat.reduceEqDiff, Nat.reduceLT, Nat.reduceLeDiff, litd_t, litd_f, decide_true, decide_false, Bool.not_true, Bool.not_false, not_true_eq_false, not_false_eq_true, true_and, and_true, false_and, and_false, true_or, or_true, false_or, or_false, Int.toNat_natCast, cond_true, cond_false, List.map_cons, List.map_nil, Option.map_some, Option.map_none]
    refine RunC_r (below_r k1 (by omega)) ?_
    have d1 := bV_nn 3 (kS 4 2 (bS 8 st))
    have d2 := bV_lt 3 (kS 4 2 (bS 8 st)) (by omega)
    have q4 : hat (hset H1 k (.cells [.int .u64 (bS 3 (kS 4 2 (bS 8 st)))])) H.length = .cells m0 := by rw [hat_hset_ne _ (by omega), q2]
    obtain ⟨n, hn⟩ : ∃ n : Nat, bV 3 (kS 4 2 (bS 8 st)) = n := ⟨_, (Int.toNat_of_nonneg d1).symm⟩
    simp -failIfUnchanged (disch := first | assumption | omega | (refine room_i _ _ ?_ ?_ <;> omega) | (refine @_root_.id _ ?_; with_unfolding_all exact Eq.refl _) | (simp only [List.length_take, List.length_drop, List.length_append, List.length_cons, List.length_nil, List.length_replicate, List.length_map] <;> omega) | fail) only [rnL, opL, ruL, hpL, rsL, natL, outL, Nat.add_sub_cancel_left, Nat.mul_one, List.length_cons, List.length_nil, Nat.zero_add, Nat.add_zero, Nat.reduceAdd, Nat.reduceMul, Nat.reduceSub, Nat.reduceEqDiff, Nat.reduceLT, Nat.reduceLeDiff, litd_t, litd_f, decide_true, decide_false, Bool.not_true, Bool.not_false, not_true_eq_false, not_false_eq_true, true_and, and_true, false_and, and_false, true_or, or_true, false_or, or_false, Int.toNat_natCast, cond_true, cond_false, List.map_cons, List.map_nil, Option.map_some, Option.map_none, hn]
    refine Run_upto n (fun i => [(0, .ptr k 1 0), (2, .ptr H.length 6 0), (3, .int .i64 (bV 8 st)), (5, .str (kV 4 2 (bS 8 st))), (6, .str (List.replicate i 120)), (7, .int .i64 ((n : Int) - i)), (11, .bool false), (21, .bool false), (25, .bool false)])
      (fun _ => hset H1 k (.cells [.int .u64 (bS 3 (kS 4 2 (bS 8 st)))]) :: S) (fun _ => True) (by simp) rfl trivial ?_
    intro i hi _
    simp -failIfUnchanged (disch := first | assumption | omega | (refine room_i _ _ ?_ ?_ <;> omega) | (refine @_root_.id _ ?_; with_unfolding_all exact Eq.refl _) | (simp only [List.length_take, List.length_drop, List.length_append, List.length_cons, List.length_nil, List.length_replicate, List.length_map] <;> omega) | fail) only [rnL, opL, ruL, hpL, rsL, natL, outL, Nat.add_sub_cancel_left, Nat.mul_one, List.length_cons, List.length_nil, Nat.zero_add, Nat.add_zero, Nat.reduceAdd, Nat.reduceMul, Nat.reduceSub, Nat.reduceEqDiff, Nat.reduceLT, Nat.reduceLeDiff, litd_t, litd_f, decide_true, decide_false, Bool.not_true, Bool.not_false, not_true_eq_false, not_false_eq_true, true_and, and_true, false_and, and_false, true_or, or_true, false_or, or_false, Int.toNat_natCast, cond_true, cond_false, List.map_cons, List.map_nil, Option.map_some, Option.map_none]
    (first | refine RunB_i (fun h4 => ?_) (fun h4 => ?_) | refine RunG_i (fun h4 => ?_) (fun h4 => ?_) | refine RunB_ib (fun h4 => ?_) (fun h4 => ?_))
    · have l2 : (List.replicate i (120 : UInt8)).length = i := List.length_replicate
      simp -failIfUnchanged (disch := first | assumption | omega | (refine room_i _ _ ?_ ?_ <;> omega) | (refine @_root_.id _ ?_; with_unfolding_all exact Eq.refl _) | (simp only [List.length_take, List.length_drop, List.length_append, List.length_cons, List.length_nil, List.length_replicate, List.length_map] <;> omega) | fail) only [rnL, opL, ruL, hpL, rsL, natL, outL, Nat.add_sub_cancel_left, Nat.mul_one, List.length_cons, List.length_nil, Nat.zero_add, Nat.add_zero, Nat.reduceAdd, Nat.reduceMul, Nat.reduceSub, Nat.reduceEqDiff, Nat.reduceLT, Nat.reduceLeDiff, litd_t, litd_f, decide_true, decide_false, Bool.not_true, Bool.not_false, not_true_eq_false, not_false_eq_true, true_and, and_true, false_and, and_false, true_or, or_true, false_or, or_false, Int.toNat_natCast, cond_true, cond_false, List.map_cons, List.map_nil, Option.map_some, Option.map_none]
      refine Nx.i (by omega) ?_ rfl trivial
      rw [show (n : Int) - i - 1 = (n : Int) - ((i + 1 : Nat) : Int) by omega, List.replicate_succ']
      rfl
    · have : i = n := by omega
      subst this
      simp -failIfUnchanged (disch := first | assumption | omega | (refine room_i _ _ ?_ ?_ <;> omega) | (refine @_root_.id _ ?_; with_unfolding_all exact Eq.refl _) | (simp only [List.length_take, List.length_drop, List.length_append, List.length_cons, List.length_nil, List.length_replicate, List.length_map] <;> omega) | fail) only [rnL, opL, ruL, hpL, rsL, natL, outL, Nat.add_sub_cancel_left, Nat.mul_one, List.length_cons, List.length_nil, Nat.zero_add, Nat.add_zero, Nat.reduceAdd, Nat.reduceMul, Nat.reduceSub, Nat.reduceEqDiff, Nat.reduceLT, Nat.reduceLeDiff, litd_t, litd_f, decide_true, decide_false, Bool.not_true, Bool.not_false, not_true_eq_false, not_false_eq_true, true_and, and_true, false_and, and_false, true_or, or_true, false_or, or_false, Int.toNat_natCast, cond_true, cond_false, List.map_cons, List.map_nil, Option.map_some, Option.map_none, q4, bm24]
      refine fin_msg (m := ⟨1, 0, kV 4 2 (bS 8 st), [], List.replicate i 120, 0⟩) (by rfl) hl (by rw [hset_len]; exact q1) (by rfl) (hat_hset_eq _ (hat_some k1)) (fun j a b => (hat_hset_ne _ (Ne.symm b)).trans (q3 j a b)) (by unfold mV; rw [if_neg h1, if_neg h2, if_neg h3, hn]; rfl) (by unfold mS; rw [if_neg h1, if_neg h2, if_neg h3])
  obtain ⟨v, S', r, H', rfl, rfl, h1, h2⟩ := key
  exact ⟨H', r, h1, h2⟩
theorem repL_rep (n : Nat) : repL [UInt8.ofNat 120] n = List.replicate n 120 := by
  induction n with
  | zero => rfl
  | succ n ih => rw [repL, ih]; rfl
theorem msg_p : Step 25 [] (fun st => .agg (Cel.enc (mV st))) mS := by
  intro H S k st hk
  have hl := hat_some hk
  have key : ∃ v S', Rets F (.func (.func 25) [] []) [.ptr k 1 0] (H :: S) v S' ∧ MsgP k H S st v S' := by
    refine Rets.memX (funs := F) (fi := []) (ca := []) fn_seed_Source_Msg rfl rfl ?_
    simp only [ir_seed_Source_Msg, List.nil_append, List.cons_append]
    have hk1 : ∀ o, hat (H ++ [o]) k = .cells [.int .u64 st] := fun o => (hat_app_lt hl).trans hk
    simp -failIfUnchanged (disch := first | assumption | omega | (refine room_i _ _ ?_ ?_ <;> omega) | (refine @_root_.id _ ?_; with_unfolding_all exact Eq.refl _) | (simp only [List.length_take, List.length_drop, List.length_append, List.length_cons, List.length_nil, List.length_replicate, List.length_map] <;> omega) | fail) only [rnL, opL, ruL, hpL, rsL, natL, outL, Nat.add_sub_cancel_left, Nat.mul_one, List.length_cons, List.length_nil, Nat.zero_add, Nat.add_zero, Nat.reduceAdd, Nat.reduceMul, Nat.reduceSub, Nat.reduceEqDiff, Nat.reduceLT, Nat.reduceLeDiff, litd_t, litd_f, decide_true, decide_false, Bool.not_true, Bool.not_false, not_true_eq_false, not_false_eq_true, true_and, and_true, false_and, and_false, true_or, or_true, false_or, or_false, Int.toNat_natCast, cond_true, cond_false, List.map_cons, List.map_nil, Option.map_some, Option.map_none, eqn_ptr]
    refine RunC_r (below_p (hk1 _) (by omega)) ?_
    simp -failIfUnchanged (disch := first | assumption | omega | (refine room_i _ _ ?_ ?_ <;> omega) | (refine @_root_.id _ ?_; with_unfolding_all exact Eq.refl _) | (simp only [List.length_take, List.length_drop, List.length_append, List.length_cons, List.length_nil, List.length_replicate, List.length_map] <;> omega) | fail) only [rnL, opL, ruL, hpL, rsL, natL, outL, Nat.add_sub_cancel_left, Nat.mul_one, List.length_cons, List.length_nil, Nat.zero_add, Nat.add_zero, Nat.reduceAdd, Nat.reduceMul, Nat.reduceSub, Nat.reduceEqDiff, Nat.reduceLT, Nat.reduceLeDiff, litd_t, litd_f, decide_true, decide_false, Bool.not_true, Bool.not_false, not_true_eq_false, not_false_eq_true, true_and, and_true, false_and, and_false, true_or, or_true, false_or, or_false, Int.toNat_natCast, cond_true, cond_false, List.map_cons, List.map_nil, Option.map_some, Option.map_none, hset_app_lt hl]
    have hk2 : ∀ o, hat (hset H k (.cells [.int .u64 (bS 8 st)]) ++ [o]) k = .cells [.int .u64 (bS 8 st)] := fun o => by
      rw [hat_app_lt (by rw [hset_len]; exact hl), hat_hset_eq _ hl]
    have b1 := bV_nn 8 st
    have b2 := bV_lt 8 st (by omega)
    have hput : bV 8 st ≠ 7 → bV 8 st ≠ 4 → ¬ 4 < bV 8 st → True := fun _ _ _ => trivial
    (first | refine RunB_i (fun g0 => ?_) (fun g0 => ?_) | refine RunG_i (fun g0 => ?_) (fun g0 => ?_) | refine RunB_ib (fun g0 => ?_) (fun g0 => ?_))
    · simp -failIfUnchanged (disch := first | assumption | omega | (refine room_i _ _ ?_ ?_ <;> omega) | (refine @_root_.id _ ?_; with_unfolding_all exact Eq.refl _) | (simp only [List.length_take, List.length_drop, List.length_append, List.length_cons, List.length_nil, List.length_replicate, List.length_map] <;> omega) | fail) only [rnL, opL, ruL, hpL, rsL, natL, outL, Nat.add_sub_cancel_left, Nat.mul_one, List.length_cons, List.length_nil, Nat.zero_add, Nat.add_zero, Nat.reduceAdd, Nat.reduceMul, Nat.reduceSub, Nat.reduceEqDiff, Nat.reduceLT, Nat.reduceLeDiff, litd_t, litd_f, decide_true, decide_false, Bool.not_true, Bool.not_false, not_true_eq_false, not_false_eq_true, true_and, and_true, false_and, and_false, true_or, or_true, false_or, or_false, Int.toNat_natCast, cond_true, cond_false, List.map_cons, List.map_nil, Option.map_some, Option.map_none]
      obtain ⟨H1, r1, k1, p1⟩ := key_p 4 2 (hset H k (.cells [.int .u64 (bS 8 st)]) ++ [.cells m0]) S k _ (hk2 _)
      obtain ⟨q1, q2, q3⟩ := kp_old p1
      have q2 := q2 hl
      simp -failIfUnchanged (disch := first | assumption | omega | (refine room_i _ _ ?_ ?_ <;> omega) | (refine @_root_.id _ ?_; with_unfolding_all exact Eq.refl _) | (simp only [List.length_take, List.length_drop, List.length_append, List.length_cons, List.length_nil, List.length_replicate, List.length_map] <;> omega) | fail) only [rnL, opL, ruL, hpL, rsL, natL, outL, Nat.add_sub_cancel_left, Nat.mul_one, List.length_cons, List.length_nil, Nat.zero_add, Nat.add_zero, Nat.reduceAdd, Nat.reduceMul, Nat.reduceSub, Nat.reduceEqDiff, Nat.reduceLT, Nat.reduceLeDiff, litd_t, litd_f, decide_true, decide_false, Bool.not_true, Bool.not_false, not_true_eq_false, not_false_eq_true, true_and, and_true, false_and, and_false, true_or, or_true, false_or, or_false, Int.toNat_natCast, cond_true, cond_false, List.map_cons, List.map_nil, Option.map_some, Option.map_none]
      refine RunC_r r1 ?_
      simp -failIfUnchanged (disch := first | assumption | omega | (refine room_i _ _ ?_ ?_ <;> omega) | (refine @_root_.id _ ?_; with_unfolding_all exact Eq.refl _) | (simp only [List.length_take, List.length_drop, List.length_append, List.length_cons, List.length_nil, List.length_replicate, List.length_map] <;> omega) | fail) only [rnL, opL, ruL, hpL, rsL, natL, outL, Nat.add_sub_cancel_left, Nat.mul_one, List.length_cons, List.length_nil, Nat.zero_add, Nat.add_zero, Nat.reduceAdd, Nat.reduceMul, Nat.reduceSub, Nat.reduceEqDiff, Nat.reduceLT, Nat.reduceLeDiff, litd_t, litd_f, decide_true, decide_false, Bool.not_true, Bool.not_false, not_true_eq_false, not_false_eq_true, true_and, and_true, false_and, and_false, true_or, or_true, false_or, or_false, Int.toNat_natCast, cond_true, cond_false, List.map_cons, List.map_nil, Option.map_some, Option.map_none]
      refine RunC_r (below_p k1 (by omega)) ?_
      have d1 := bV_nn 3 (kS 4 2 (bS 8 st))
      have d2 := bV_lt 3 (kS 4 2 (bS 8 st)) (by omega)
      have q4 : hat (hset H1 k (.cells [.int .u64 (bS 3 (kS 4 2 (bS 8 st)))])) H.length = .cells m0 := by rw [hat_hset_ne _ (by omega), q2]
      simp -failIfUnchanged (disch := first | assumption | omega | (refine room_i _ _ ?_ ?_ <;> omega) | (refine @_root_.id _ ?_; with_unfolding_all exact Eq.refl _) | (simp only [List.length_take, List.length_drop, List.length_append, List.length_cons, List.length_nil, List.length_replicate, List.length_map] <;> omega) | fail) only [rnL, opL, ruL, hpL, rsL, natL, outL, Nat.add_sub_cancel_left, Nat.mul_one, List.length_cons, List.length_nil, Nat.zero_add, Nat.add_zero, Nat.reduceAdd, Nat.reduceMul, Nat.reduceSub, Nat.reduceEqDiff, Nat.reduceLT, Nat.reduceLeDiff, litd_t, litd_f, decide_true, decide_false, Bool.not_true, Bool.not_false, not_true_eq_false, not_false_eq_true, true_and, and_true, false_and, and_false, true_or, or_true, false_or, or_false, Int.toNat_natCast, cond_true, cond_false, List.map_cons, List.map_nil, Option.map_some, Option.map_none]
      refine RunC_r ((repeats_g fn_strings_Repeat (s := [UInt8.ofNat 120]) d1 (by omega) (by simp only [List.length_cons, List.length_nil]; unfold maxText; omega)).rets _) ?_
      simp -failIfUnchanged (disch := first | assumption | omega | (refine room_i _ _ ?_ ?_ <;> omega) | (refine @_root_.id _ ?_; with_unfolding_all exact Eq.refl _) | (simp only [List.length_take, List.length_drop, List.length_append, List.length_cons, List.length_nil, List.length_replicate, List.length_map] <;> omega) | fail) only [rnL, opL, ruL, hpL, rsL, natL, outL, Nat.add_sub_cancel_left, Nat.mul_one, List.length_cons, List.length_nil, Nat.zero_add, Nat.add_zero, Nat.reduceAdd, Nat.reduceMul, Nat.reduceSub, Nat.reduceEqDiff, Nat.reduceLT, Nat.reduceLeDiff, litd_t, litd_f, decide_true, decide_false, Bool.not_true, Bool.not_false, not_true_eq_false, not_false_eq_true, true_and, and_true, false_and, and_false, true_or, or_true, false_or, or_false, Int.toNat_natCast, cond_true, cond_false, List.map_cons, List.map_nil, Option.map_some, Option.map_none, q4, bm24]
      exact fin_msg (m := ⟨1, 0, kV 4 2 (bS 8 st), [], List.replicate (bV 3 (kS 4 2 (bS 8 st))).toNat 120, 0⟩) (by rw [repL_rep]; rfl) hl (by rw [hset_len]; exact q1) (by rfl) (hat_hset_eq _ (hat_some k1)) (fun j a b => (hat_hset_ne _ (Ne.symm b)).trans (q3 j a b)) (by unfold mV; rw [if_neg (by omega), if_neg (by omega), if_neg (by omega)]) (by unfold mS; rw [if_neg (by omega), if_neg (by omega), if_neg (by omega)])
    simp -failIfUnchanged (disch := first | assumption | omega | (refine room_i _ _ ?_ ?_ <;> omega) | (refine @_root_.id _ ?_; with_unfolding_all exact Eq.refl _) | (simp only [List.length_take, List.length_drop, List.length_append, List.length_cons, List.length_nil, List.length_replicate, List.length_map] <;> omega) | fail) only [rnL, opL, ruL, hpL, rsL, natL, outL, Nat.add_sub_cancel_left, Nat.mul_one, List.length_cons, List.length_nil, Nat.zero_add, Nat.add_zero, Nat.reduceAdd, Nat.reduceMul, Nat.reduceSub, Nat.reduceEqDiff, Nat.reduceLT, Nat.reduceLeDiff, litd_t, litd_f, decide_true, decide_false, Bool.not_true, Bool.not_false, not_true_eq_false, not_false_eq_true, true_and, and_true, false_and, and_false, true_or, or_true, false_or, or_false, Int.toNat_natCast, cond_true, cond_false, List.map_cons, List.map_nil, Option.map_some, Option.map_none]
    (first | refine RunB_i (fun g1 => ?_) (fun g1 => ?_) | refine RunG_i (fun g1 => ?_) (fun g1 => ?_) | refine RunB_ib (fun g1 => ?_) (fun g1 => ?_))
    · simp -failIfUnchanged (disch := first | assumption | omega | (refine room_i _ _ ?_ ?_ <;> omega) | (refine @_root_.id _ ?_; with_unfolding_all exact Eq.refl _) | (simp only [List.length_take, List.length_drop, List.length_append, List.length_cons, List.length_nil, List.length_replicate, List.length_map] <;> omega) | fail) only [rnL, opL, ruL, hpL, rsL, natL, outL, Nat.add_sub_cancel_left, Nat.mul_one, List.length_cons, List.length_nil, Nat.zero_add, Nat.add_zero, Nat.reduceAdd, Nat.reduceMul, Nat.reduceSub, Nat.reduceEqDiff, Nat.reduceLT, Nat.reduceLeDiff, litd_t, litd_f, decide_true, decide_false, Bool.not_true, Bool.not_false, not_true_eq_false, not_false_eq_true, true_and, and_true, false_and, and_false, true_or, or_true, false_or, or_false, Int.toNat_natCast, cond_true, cond_false, List.map_cons, List.map_nil, Option.map_some, Option.map_none]
      obtain ⟨H1, r1, k1, p1⟩ := key_p 4 2 (hset H k (.cells [.int .u64 (bS 8 st)]) ++ [.cells m0]) S k _ (hk2 _)
      obtain ⟨q1, q2, q3⟩ := kp_old p1
      have q2 := q2 hl
      simp -failIfUnchanged (disch := first | assumption | omega | (refine room_i _ _ ?_ ?_ <;> omega) | (refine @_root_.id _ ?_; with_unfolding_all exact Eq.refl _) | (simp only [List.length_take, List.length_drop, List.length_append, List.length_cons, List.length_nil, List.length_replicate, List.length_map] <;> omega) | fail) only [rnL, opL, ruL, hpL, rsL, natL, outL, Nat.add_sub_cancel_left, Nat.mul_one, List.length_cons, List.length_nil, Nat.zero_add, Nat.add_zero, Nat.reduceAdd, Nat.reduceMul, Nat.reduceSub, Nat.reduceEqDiff, Nat.reduceLT, Nat.reduceLeDiff, litd_t, litd_f, decide_true, decide_false, Bool.not_true, Bool.not_false, not_true_eq_false, not_false_eq_true, true_and, and_true, false_and, and_false, true_or, or_true, false_or, or_false, Int.toNat_natCast, cond_true, cond_false, List.map_cons, List.map_nil, Option.map_some, Option.map_none]
      refine RunC_r r1 ?_
      simp -failIfUnchanged (disch := first | assumption | omega | (refine room_i _ _ ?_ ?_ <;> omega) | (refine @_root_.id _ ?_; with_unfolding_all exact Eq.refl _) | (simp only [List.length_take, List.length_drop, List.length_append, List.length_cons, List.length_nil, List.length_replicate, List.length_map] <;> omega) | fail) only [rnL, opL, ruL, hpL, rsL, natL, outL, Nat.add_sub_cancel_left, Nat.mul_one, List.length_cons, List.length_nil, Nat.zero_add, Nat.add_zero, Nat.reduceAdd, Nat.reduceMul, Nat.reduceSub, Nat.reduceEqDiff, Nat.reduceLT, Nat.reduceLeDiff, litd_t, litd_f, decide_true, decide_false, Bool.not_true, Bool.not_false, not_true_eq_false, not_false_eq_true, true_and, and_true, false_and, and_false, true_or, or_true, false_or, or_false, Int.toNat_natCast, cond_true, cond_false, List.map_cons, List.map_nil, Option.map_some, Option.map_none]
      refine RunC_r (below_p k1 (by omega)) ?_
      have d1 := bV_nn 3 (kS 4 2 (bS 8 st))
      have d2 := bV_lt 3 (kS 4 2 (bS 8 st)) (by omega)
      have q4 : hat (hset H1 k (.cells [.int .u64 (bS 3 (kS 4 2 (bS 8 st)))])) H.length = .cells m0 := by rw [hat_hset_ne _ (by omega), q2]
      simp -failIfUnchanged (disch := first | assumption | omega | (refine room_i _ _ ?_ ?_ <;> omega) | (refine @_root_.id _ ?_; with_unfolding_all exact Eq.refl _) | (simp only [List.length_take, List.length_drop, List.length_append, List.length_cons, List.length_nil, List.length_replicate, List.length_map] <;> omega) | fail) only [rnL, opL, ruL, hpL, rsL, natL, outL, Nat.add_sub_cancel_left, Nat.mul_one, List.length_cons, List.length_nil, Nat.zero_add, Nat.add_zero, Nat.reduceAdd, Nat.reduceMul, Nat.reduceSub, Nat.reduceEqDiff, Nat.reduceLT, Nat.reduceLeDiff, litd_t, litd_f, decide_true, decide_false, Bool.not_true, Bool.not_false, not_true_eq_false, not_false_eq_true, true_and, and_true, false_and, and_false, true_or, or_true, false_or, or_false, Int.toNat_natCast, cond_true, cond_false, List.map_cons, List.map_nil, Option.map_some, Option.map_none]
      refine RunC_r ((repeats_g fn_strings_Repeat (s := [UInt8.ofNat 120]) d1 (by omega) (by simp only [List.length_cons, List.length_nil]; unfold maxText; omega)).rets _) ?_
      simp -failIfUnchanged (disch := first | assumption | omega | (refine room_i _ _ ?_ ?_ <;> omega) | (refine @_root_.id _ ?_; with_unfolding_all exact Eq.refl _) | (simp only [List.length_take, List.length_drop, List.length_append, List.length_cons, List.length_nil, List.length_replicate, List.length_map] <;> omega) | fail) only [rnL, opL, ruL, hpL, rsL, natL, outL, Nat.add_sub_cancel_left, Nat.mul_one, List.length_cons, List.length_nil, Nat.zero_add, Nat.add_zero, Nat.reduceAdd, Nat.reduceMul, Nat.reduceSub, Nat.reduceEqDiff, Nat.reduceLT, Nat.reduceLeDiff, litd_t, litd_f, decide_true, decide_false, Bool.not_true, Bool.not_false, not_true_eq_false, not_false_eq_true, true_and, and_true, false_and, and_false, true_or, or_true, false_or, or_false, Int.toNat_natCast, cond_true, cond_false, List.map_cons, List.map_nil, Option.map_some, Option.map_none, q4, bm24]
      exact fin_msg (m := ⟨1, 0, kV 4 2 (bS 8 st), [], List.replicate (bV 3 (kS 4 2 (bS 8 st))).toNat 120, 0⟩) (by rw [repL_rep]; rfl) hl (by rw [hset_len]; exact q1) (by rfl) (hat_hset_eq _ (hat_some k1)) (fun j a b => (hat_hset_ne _ (Ne.symm b)).trans (q3 j a b)) (by unfold mV; rw [if_neg (by omega), if_neg (by omega), if_neg (by omega)]) (by unfold mS; rw [if_neg (by omega), if_neg (by omega), if_neg (by omega)])
    simp -failIfUnchanged (disch := first | assumption | omega | (refine room_i _ _ ?_ ?_ <;> omega) | (refine @_root_.id _ ?_; with_unfolding_all exact Eq.refl _) | (simp only [List.length_take, List.length_drop, List.length_append, List.length_cons, List.length_nil, List.length_replicate, List.length_map] <;> omega) | fail) only [rnL, opL, ruL, hpL, rsL, natL, outL, Nat.add_sub_cancel_left, Nat.mul_one, List.length_cons, List.length_nil, Nat.zero_add, Nat.add_zero, Nat.reduceAdd, Nat.reduceMul, Nat.reduceSub, Nat.reduceEqDiff, Nat.reduceLT, Nat.reduceLeDiff, litd_t, litd_f, decide_true, decide_false, Bool.not_true, Bool.not_false, not_true_eq_false, not_false_eq_true, true_and, and_true, false_and, and_false, true_or, or_true, false_or, or_false, Int.toNat_natCast, cond_true, cond_false, List.map_cons, List.map_nil, Option.map_some, Option.map_none]
    (first | refine RunB_i (fun g2 => ?_) (fun g2 => ?_) | refine RunG_i (fun g2 => ?_) (fun g2 => ?_) | refine RunB_ib (fun g2 => ?_) (fun g2 => ?_))
    · simp -failIfUnchanged (disch := first | assumption | omega | (refine room_i _ _ ?_ ?_ <;> omega) | (refine @_root_.id _ ?_; with_unfolding_all exact Eq.refl _) | (simp only [List.length_take, List.length_drop, List.length_append, List.length_cons, List.length_nil, List.length_replicate, List.length_map] <;> omega) | fail) only [rnL, opL, ruL, hpL, rsL, natL, outL, Nat.add_sub_cancel_left, Nat.mul_one, List.length_cons, List.length_nil, Nat.zero_add, Nat.add_zero, Nat.reduceAdd, Nat.reduceMul, Nat.reduceSub, Nat.reduceEqDiff, Nat.reduceLT, Nat.reduceLeDiff, litd_t, litd_f, decide_true, decide_false, Bool.not_true, Bool.not_false, not_true_eq_false, not_false_eq_true, true_and, and_true, false_and, and_false, true_or, or_true, false_or, or_false, Int.toNat_natCast, cond_true, cond_false, List.map_cons, List.map_nil, Option.map_some, Option.map_none]
      obtain ⟨H1, r1, k1, p1⟩ := key_p 4 2 (hset H k (.cells [.int .u64 (bS 8 st)]) ++ [.cells m0]) S k _ (hk2 _)
      obtain ⟨q1, q2, q3⟩ := kp_old p1
      have q2 := q2 hl
      simp -failIfUnchanged (disch := first | assumption | omega | (refine room_i _ _ ?_ ?_ <;> omega) | (refine @_root_.id _ ?_; with_unfolding_all exact Eq.refl _) | (simp only [List.length_take, List.length_drop, List.length_append, List.length_cons, List.length_nil, List.length_replicate, List.length_map] <;> omega) | fail) only [rnL, opL, ruL, hpL, rsL, natL, outL, Nat.add_sub_cancel_left, Nat.mul_one, List.length_cons, List.length_nil, Nat.zero_add, Nat.add_zero, Nat.reduceAdd, Nat.reduceMul, Nat.reduceSub, Nat.reduceEqDiff, Nat.reduceLT, Nat.reduceLeDiff, litd_t, litd_f, decide_true, decide_false, Bool.not_true, Bool.not_false, not_true_eq_false, not_false_eq_true, true_and, and_true, false_and, and_false, true_or, or_true, false_or, or_false, Int.toNat_natCast, cond_true, cond_false, List.map_cons, List.map_nil, Option.map_some, Option.map_none]
      refine RunC_r r1 ?_
      simp -failIfUnchanged (disch := first | assumption | omega | (refine room_i _ _ ?_ ?_ <;> omega) | (refine @_root_.id _ ?_; with_unfolding_all exact Eq.refl _) | (simp only [List.length_take, List.length_drop, List.length_append, List.length_cons, List.length_nil, List.length_replicate, List.length_map] <;> omega) | fail) only [rnL, opL, ruL, hpL, rsL, natL, outL, Nat.add_sub_cancel_left, Nat.mul_one, List.length_cons, List.length_nil, Nat.zero_add, Nat.add_zero, Nat.reduceAdd, Nat.reduceMul, Nat.reduceSub, Nat.reduceEqDiff, Nat.reduceLT, Nat.reduceLeDiff, litd_t, litd_f, decide_true, decide_false, Bool.not_true, Bool.not_false, not_true_eq_false, not_false_eq_true, true_and, and_true, false_and, and_false, true_or, or_true, false_or, or_false, Int.toNat_natCast, cond_true, cond_false, List.map_cons, List.map_nil, Option.map_some, Option.map_none]
      refine RunC_r (below_p k1 (by omega)) ?_
      have d1 := bV_nn 3 (kS 4 2 (bS 8 st))
      have d2 := bV_lt 3 (kS 4 2 (bS 8 st)) (by omega)
      have q4 : hat (hset H1 k (.cells [.int .u64 (bS 3 (kS 4 2 (bS 8 st)))])) H.length = .cells m0 := by rw [hat_hset_ne _ (by omega), q2]
      simp -failIfUnchanged (disch := first | assumption | omega | (refine room_i _ _ ?_ ?_ <;> omega) | (refine @_root_.id _ ?_; with_unfolding_all exact Eq.refl _) | (simp only [List.length_take, List.length_drop, List.length_append, List.length_cons, List.length_nil, List.length_replicate, List.length_map] <;> omega) | fail) only [rnL, opL, ruL, hpL, rsL, natL, outL, Nat.add_sub_cancel_left, Nat.mul_one, List.length_cons, List.length_nil, Nat.zero_add, Nat.add_zero, Nat.reduceAdd, Nat.reduceMul, Nat.reduceSub, Nat.reduceEqDiff, Nat.reduceLT, Nat.reduceLeDiff, litd_t, litd_f, decide_true, decide_false, Bool.not_true, Bool.not_false, not_true_eq_false, not_false_eq_true, true_and, and_true, false_and, and_false, true_or, or_true, false_or, or_false, Int.toNat_natCast, cond_true, cond_false, List.map_cons, List.map_nil, Option.map_some, Option.map_none]
      refine RunC_r ((repeats_g fn_strings_Repeat (s := [UInt8.ofNat 120]) d1 (by omega) (by simp only [List.length_cons, List.length_nil]; unfold maxText; omega)).rets _) ?_
      simp -failIfUnchanged (disch := first | assumption | omega | (refine room_i _ _ ?_ ?_ <;> omega) | (refine @_root_.id _ ?_; with_unfolding_all exact Eq.refl _) | (simp only [List.length_take, List.length_drop, List.length_append, List.length_cons, List.length_nil, List.length_replicate, List.length_map] <;> omega) | fail) only [rnL, opL, ruL, hpL, rsL, natL, outL, Nat.add_sub_cancel_left, Nat.mul_one, List.length_cons, List.length_nil, Nat.zero_add, Nat.add_zero, Nat.reduceAdd, Nat.reduceMul, Nat.reduceSub, Nat.reduceEqDiff, Nat.reduceLT, Nat.reduceLeDiff, litd_t, litd_f, decide_true, decide_false, Bool.not_true, Bool.not_false, not_true_eq_false, not_false_eq_true, true_and, and_true, false_and, and_false, true_or, or_true, false_or, or_false, Int.toNat_natCast, cond_true, cond_false, List.map_cons, List.map_nil, Option.map_some, Option.map_none, q4, bm24]
      exact fin_msg (m := ⟨1, 0, kV 4 2 (bS 8 st), [], List.replicate (bV 3 (kS 4 2 (bS 8 st))).toNat 120, 0⟩) (by rw [repL_rep]; rfl) hl (by rw [hset_len]; exact q1) (by rfl) (hat_hset_eq _ (hat_some k1)) (fun j a b => (hat_hset_ne _ (Ne.symm b)).trans (q3 j a b)) (by unfold mV; rw [if_neg (by omega), if_neg (by omega), if_neg (by omega)]) (by unfold mS; rw [if_neg (by omega), if_neg (by omega), if_neg (by omega)])
    simp -failIfUnchanged (disch := first | assumption | omega | (refine room_i _ _ ?_ ?_ <;> omega) | (refine @_root_.id _ ?_; with_unfolding_all exact Eq.refl _) | (simp only [List.length_take, List.length_drop, List.length_append, List.length_cons, List.length_nil, List.length_replicate, List.length_map] <;> omega) | fail) only [rnL, opL, ruL, hpL, rsL, natL, outL, Nat.add_sub_cancel_left, Nat.mul_one, List.length_cons, List.length_nil, Nat.zero_add, Nat.add_zero, Nat.reduceAdd, Nat.reduceMul, Nat.reduceSub, Nat.reduceEqDiff, Nat.reduceLT, Nat.reduceLeDiff, litd_t, litd_f, decide_true, decide_false, Bool.not_true, Bool.not_false, not_true_eq_false, not_false_eq_true, true_and, and_true, false_and, and_false, true_or, or_true, false_or, or_false, Int.toNat_natCast, cond_true, cond_false, List.map_cons, List.map_nil, Option.map_some, Option.map_none]
    (first | refine RunB_i (fun g3 => ?_) (fun g3 => ?_) | refine RunG_i (fun g3 => ?_) (fun g3 => ?_) | refine RunB_ib (fun g3 => ?_) (fun g3 => ?_))
    · simp -failIfUnchanged (disch := first | assumption | omega | (refine room_i _ _ ?_ ?_ <;> omega) | (refine @_root_.id _ ?_; with_unfolding_all exact Eq.refl _) | (simp only [List.length_take, List.length_drop, List.length_append, List.length_cons, List.length_nil, List.length_replicate, List.length_map] <;> omega) | fail) only [rnL, opL, ruL, hpL, rsL, natL, outL, Nat.add_sub_cancel_left, Nat.mul_one, List.length_cons, List.length_nil, Nat.zero_add, Nat.add_zero, Nat.reduceAdd, Nat.reduceMul, Nat.reduceSub, Nat.reduceEqDiff, Nat.reduceLT, Nat.reduceLeDiff, litd_t, litd_f, decide_true, decide_false, Bool.not_true, Bool.not_false, not_true_eq_false, not_false_eq_true, true_and, and_true, false_and, and_false, true_or, or_true, false_or, or_false, Int.toNat_natCast, cond_true, cond_false, List.map_cons, List.map_nil, Option.map_some, Option.map_none]
      obtain ⟨H1, r1, k1, p1⟩ := key_p 4 2 (hset H k (.cells [.int .u64 (bS 8 st)]) ++ [.cells m0]) S k _ (hk2 _)
      obtain ⟨q1, q2, q3⟩ := kp_old p1
      have q2 := q2 hl
      simp -failIfUnchanged (disch := first | assumption | omega | (refine room_i _ _ ?_ ?_ <;> omega) | (refine @_root_.id _ ?_; with_unfolding_all exact Eq.refl _) | (simp only [List.length_take, List.length_drop, List.length_append, List.length_cons, List.length_nil, List.length_replicate, List.length_map] <;> omega) | fail) only [rnL, opL, ruL, hpL, rsL, natL, outL, Nat.add_sub_cancel_left, Nat.mul_one, List.length_cons, List.length_nil, Nat.zero_add, Nat.add_zero, Nat.reduceAdd, Nat.reduceMul, Nat.reduceSub, Nat.reduceEqDiff, Nat.reduceLT, Nat.reduceLeDiff, litd_t, litd_f, decide_true, decide_false, Bool.not_true, Bool.not_false, not_true_eq_false, not_false_eq_true, true_and, and_true, false_and, and_false, true_or, or_true, false_or, or_false, Int.toNat_natCast, cond_true, cond_false, List.map_cons, List.map_nil, Option.map_some, Option.map_none]
      refine RunC_r r1 ?_
      simp -failIfUnchanged (disch := first | assumption | omega | (refine room_i _ _ ?_ ?_ <;> omega) | (refine @_root_.id _ ?_; with_unfolding_all exact Eq.refl _) | (simp only [List.length_take, List.length_drop, List.length_append, List.length_cons, List.length_nil, List.length_replicate, List.length_map] <;> omega) | fail) only [rnL, opL, ruL, hpL, rsL, natL, outL, Nat.add_sub_cancel_left, Nat.mul_one, List.length_cons, List.length_nil, Nat.zero_add, Nat.add_zero, Nat.reduceAdd, Nat.reduceMul, Nat.reduceSub, Nat.reduceEqDiff, Nat.reduceLT, Nat.reduceLeDiff, litd_t, litd_f, decide_true, decide_false, Bool.not_true, Bool.not_false, not_true_eq_false, not_false_eq_true, true_and, and_true, false_and, and_false, true_or, or_true, false_or, or_false, Int.toNat_natCast, cond_true, cond_false, List.map_cons, List.map_nil, Option.map_some, Option.map_none]
      refine RunC_r (below_p k1 (by omega)) ?_
      have d1 := bV_nn 3 (kS 4 2 (bS 8 st))
      have d2 := bV_lt 3 (kS 4 2 (bS 8 st)) (by omega)
      have q4 : hat (hset H1 k (.cells [.int .u64 (bS 3 (kS 4 2 (bS 8 st)))])) H.length = .cells m0 := by rw [hat_hset_ne _ (by omega), q2]
      simp -failIfUnchanged (disch := first | assumption | omega | (refine room_i _ _ ?_ ?_ <;> omega) | (refine @_root_.id _ ?_; with_unfolding_all exact Eq.refl _) | (simp only [List.length_take, List.length_drop, List.length_append, List.length_cons, List.length_nil, List.length_replicate, List.length_map] <;> omega) | fail) only [rnL, opL, ruL, hpL, rsL, natL, outL, Nat.add_sub_cancel_left, Nat.mul_one, List.length_cons, List.length_nil, Nat.zero_add, Nat.add_zero, Nat.reduceAdd, Nat.reduceMul, Nat.reduceSub, Nat.reduceEqDiff, Nat.reduceLT, Nat.reduceLeDiff, litd_t, litd_f, decide_true, decide_false, Bool.not_true, Bool.not_false, not_true_eq_false, not_false_eq_true, true_and, and_true, false_and, and_false, true_or, or_true, false_or, or_false, Int.toNat_natCast, cond_true, cond_false, List.map_cons, List.map_nil, Option.map_some, Option.map_none]
      refine RunC_r ((repeats_g fn_strings_Repeat (s := [UInt8.ofNat 120]) d1 (by omega) (by simp only [List.length_cons, List.length_nil]; unfold maxText; omega)).rets _) ?_
      simp -failIfUnchanged (disch := first | assumption | omega | (refine room_i _ _ ?_ ?_ <;> omega) | (refine @_root_.id _ ?_; with_unfolding_all exact Eq.refl _) | (simp only [List.length_take, List.length_drop, List.length_append, List.length_cons, List.length_nil, List.length_replicate, List.length_map] <;> omega) | fail) only [rnL, opL, ruL, hpL, rsL, natL, outL, Nat.add_sub_cancel_left, Nat.mul_one, List.length_cons, List.length_nil, Nat.zero_add, Nat.add_zero, Nat.reduceAdd, Nat.reduceMul, Nat.reduceSub, Nat.reduceEqDiff, Nat.reduceLT, Nat.reduceLeDiff, litd_t, litd_f, decide_true, decide_false, Bool.not_true, Bool.not_false, not_true_eq_false, not_false_eq_true, true_and, and_true, false_and, and_false, true_or, or_true, false_or, or_false, Int.toNat_natCast, cond_true, cond_false, List.map_cons, List.map_nil, Option.map_some, Option.map_none, q4, bm24]
      exact fin_msg (m := ⟨1, 0, kV 4 2 (bS 8 st), [], List.replicate (bV 3 (kS 4 2 (bS 8 st))).toNat 120, 0⟩) (by rw [repL_rep]; rfl) hl (by rw [hset_len]; exact q1) (by rfl) (hat_hset_eq _ (hat_some k1)) (fun j a b => (hat_hset_ne _ (Ne.symm b)).trans (q3 j a b)) (by unfold mV; rw [if_neg (by omega), if_neg (by omega), if_neg (by omega)]) (by unfold mS; rw [if_neg (by omega), if_neg (by omega), if_neg (by omega)])
    simp -failIfUnchanged (disch := first | assumption | omega | (refine room_i _ _ ?_ ?_ <;> omega) | (refine @_root_.id _ ?_; with_unfolding_all exact Eq.refl _) | (simp only [List.length_take, List.length_drop, List.length_append, List.length_cons, List.length_nil, List.length_replicate, List.length_map] <;> omega) | fail) only [rnL, opL, ruL, hpL, rsL, natL, outL, Nat.add_sub_cancel_left, Nat.mul_one, List.length_cons, List.length_nil, Nat.zero_add, Nat.add_zero, Nat.reduceAdd, Nat.reduceMul, Nat.reduceSub, Nat.reduceEqDiff, Nat.reduceLT, Nat.reduceLeDiff, litd_t, litd_f, decide_true, decide_false, Bool.not_true, Bool.not_false, not_true_eq_false, not_false_eq_true, true_and, and_true, false_and, and_false, true_or, or_true, false_or, or_false, Int.toNat_natCast, cond_true, cond_false, List.map_cons, List.map_nil, Option.map_some, Option.map_none]
    (first | refine RunB_i (fun g4 => ?_) (fun g4 => ?_) | refine RunG_i (fun g4 => ?_) (fun g4 => ?_) | refine RunB_ib (fun g4 => ?_) (fun g4 => ?_))
    · simp -failIfUnchanged (disch := first | assumption | omega | (refine room_i _ _ ?_ ?_ <;> omega) | (refine @_root_.id _ ?_; with_unfolding_all exact Eq.refl _) | (simp only [List.length_take, List.length_drop, List.length_append, List.length_cons, List.length_nil, List.length_replicate, List.length_map] <;> omega) | fail) only [rnL, opL, ruL, hpL, rsL, natL, outL, Nat.add_sub_cancel_left, Nat.mul_one, List.length_cons, List.length_nil, Nat.zero_add, Nat.add_zero, Nat.reduceAdd, Nat.reduceMul, Nat.reduceSub, Nat.reduceEqDiff, Nat.reduceLT, Nat.reduceLeDiff, litd_t, litd_f, decide_true, decide_false, Bool.not_true, Bool.not_false, not_true_eq_false, not_false_eq_true, true_and, and_true, false_and, and_false, true_or, or_true, false_or, or_false, Int.toNat_natCast, cond_true, cond_false, List.map_cons, List.map_nil, Option.map_some, Option.map_none]
      obtain ⟨H1, r1, k1, p1⟩ := key_p 4 2 (hset H k (.cells [.int .u64 (bS 8 st)]) ++ [.cells m0]) S k _ (hk2 _)
      obtain ⟨q1, q2, q3⟩ := kp_old p1
      have q2 := q2 hl
      simp -failIfUnchanged (disch := first | assumption | omega | (refine room_i _ _ ?_ ?_ <;> omega) | (refine @_root_.id _ ?_; with_unfolding_all exact Eq.refl _) | (simp only [List.length_take, List.length_drop, List.length_append, List.length_cons, List.length_nil, List.length_replicate, List.length_map] <;> omega) | fail) only [rnL, opL, ruL, hpL, rsL, natL, outL, Nat.add_sub_cancel_left, Nat.mul_one, List.length_cons, List.length_nil, Nat.zero_add, Nat.add_zero, Nat.reduceAdd, Nat.reduceMul, Nat.reduceSub, Nat.reduceEqDiff, Nat.reduceLT, Nat.reduceLeDiff, litd_t, litd_f, decide_true, decide_false, Bool.not_true, Bool.not_false, not_true_eq_false, not_false_eq_true, true_and, and_true, false_and, and_false, true_or, or_true, false_or, or_false, Int.toNat_natCast, cond_true, cond_false, List.map_cons, List.map_nil, Option.map_some, Option.map_none]
      refine RunC_r r1 ?_
      simp -failIfUnchanged (disch := first | assumption | omega | (refine room_i _ _ ?_ ?_ <;> omega) | (refine @_root_.id _ ?_; with_unfolding_all exact Eq.refl _) | (simp only [List.length_take, List.length_drop, List.length_append, List.length_cons, List.length_nil, List.length_replicate, List.length_map] <;> omega) | fail) only [rnL, opL, ruL, hpL, rsL, natL, outL, Nat.add_sub_cancel_left, Nat.mul_one, List.length_cons, List.length_nil, Nat.zero_add, Nat.add_zero, Nat.reduceAdd, Nat.reduceMul, Nat.reduceSub, Nat.reduceEqDiff, Nat.reduceLT, Nat.reduceLeDiff, litd_t, litd_f, decide_true, decide_false, Bool.not_true, Bool.not_false, not_true_eq_false, not_false_eq_true, true_and, and_true, false_and, and_false, true_or, or_true, false_or, or_false, Int.toNat_natCast, cond_true, cond_false, List.map_cons, List.map_nil, Option.map_some, Option.map_none, q2, bm2]
      exact fin_msg (m := ⟨2, 0, kV 4 2 (bS 8 st), [], [], 0⟩) (by rfl) hl q1 (by rfl) k1 q3 (by unfold mV; rw [if_neg (by omega), if_pos (by omega)]) (by unfold mS; rw [if_neg (by omega), if_pos (by omega)])
    simp -failIfUnchanged (disch := first | assumption | omega | (refine room_i _ _ ?_ ?_ <;> omega) | (refine @_root_.id _ ?_; with_unfolding_all exact Eq.refl _) | (simp only [List.length_take, List.length_drop, List.length_append, List.length_cons, List.length_nil, List.length_replicate, List.length_map] <;> omega) | fail) only [rnL, opL, ruL, hpL, rsL, natL, outL, Nat.add_sub_cancel_left, Nat.mul_one, List.length_cons, List.length_nil, Nat.zero_add, Nat.add_zero, Nat.reduceAdd, Nat.reduceMul, Nat.reduceSub, Nat.reduceEqDiff, Nat.reduceLT, Nat.reduceLeDiff, litd_t, litd_f, decide_true, decide_false, Bool.not_true, Bool.not_false, not_true_eq_false, not_false_eq_true, true_and, and_true, false_and, and_false, true_or, or_true, false_or, or_false, Int.toNat_natCast, cond_true, cond_false, List.map_cons, List.map_nil, Option.map_some, Option.map_none]
    (first | refine RunB_i (fun g5 => ?_) (fun g5 => ?_) | refine RunG_i (fun g5 => ?_) (fun g5 => ?_) | refine RunB_ib (fun g5 => ?_) (fun g5 => ?_))
    · simp -failIfUnchanged (disch := first | assumption | omega | (refine room_i _ _ ?_ ?_ <;> omega) | (refine @_root_.id _ ?_; with_unfolding_all exact Eq.refl _) | (simp only [List.length_take, List.length_drop, List.length_append, List.length_cons, List.length_nil, List.length_replicate, List.length_map] <;> omega) | fail) only [rnL, opL, ruL, hpL, rsL, natL, outL, Nat.add_sub_cancel_left, Nat.mul_one, List.length_cons, List.length_nil, Nat.zero_add, Nat.add_zero, Nat.reduceAdd, Nat.reduceMul, Nat.reduceSub, Nat.reduceEqDiff, Nat.reduceLT, Nat.reduceLeDiff, litd_t, litd_f, decide_true, decide_false, Bool.not_true, Bool.not_false, not_true_eq_false, not_false_eq_true, true_and, and_true, false_and, and_false, true_or, or_true, false_or, or_false, Int.toNat_natCast, cond_true, cond_false, List.map_cons, List.map_nil, Option.map_some, Option.map_none]
      obtain ⟨H1, r1, k1, p1⟩ := key_p 4 2 (hset H k (.cells [.int .u64 (bS 8 st)]) ++ [.cells m0]) S k _ (hk2 _)
      obtain ⟨q1, q2, q3⟩ := kp_old p1
      have q2 := q2 hl
      simp -failIfUnchanged (disch := first | assumption | omega | (refine room_i _ _ ?_ ?_ <;> omega) | (refine @_root_.id _ ?_; with_unfolding_all exact Eq.refl _) | (simp only [List.length_take, List.length_drop, List.length_append, List.length_cons, List.length_nil, List.length_replicate, List.length_map] <;> omega) | fail) only [rnL, opL, ruL, hpL, rsL, natL, outL, Nat.add_sub_cancel_left, Nat.mul_one, List.length_cons, List.length_nil, Nat.zero_add, Nat.add_zero, Nat.reduceAdd, Nat.reduceMul, Nat.reduceSub, Nat.reduceEqDiff, Nat.reduceLT, Nat.reduceLeDiff, litd_t, litd_f, decide_true, decide_false, Bool.not_true, Bool.not_false, not_true_eq_false, not_false_eq_true, true_and, and_true, false_and, and_false, true_or, or_true, false_or, or_false, Int.toNat_natCast, cond_true, cond_false, List.map_cons, List.map_nil, Option.map_some, Option.map_none]
      refine RunC_r r1 ?_
      have d1 := bV_nn 100 (kS 4 2 (bS 8 st))
      have d2 := bV_lt 100 (kS 4 2 (bS 8 st)) (by omega)
      simp -failIfUnchanged (disch := first | assumption | omega | (refine room_i _ _ ?_ ?_ <;> omega) | (refine @_root_.id _ ?_; with_unfolding_all exact Eq.refl _) | (simp only [List.length_take, List.length_drop, List.length_append, List.length_cons, List.length_nil, List.length_replicate, List.length_map] <;> omega) | fail) only [rnL, opL, ruL, hpL, rsL, natL, outL, Nat.add_sub_cancel_left, Nat.mul_one, List.length_cons, List.length_nil, Nat.zero_add, Nat.add_zero, Nat.reduceAdd, Nat.reduceMul, Nat.reduceSub, Nat.reduceEqDiff, Nat.reduceLT, Nat.reduceLeDiff, litd_t, litd_f, decide_true, decide_false, Bool.not_true, Bool.not_false, not_true_eq_false, not_false_eq_true, true_and, and_true, false_and, and_false, true_or, or_true, false_or, or_false, Int.toNat_natCast, cond_true, cond_false, List.map_cons, List.map_nil, Option.map_some, Option.map_none]
      refine RunC_r (below_p k1 (by omega)) ?_
      have q4 : hat (hset H1 k (.cells [.int .u64 (bS 100 (kS 4 2 (bS 8 st)))])) H.length = .cells m0 := by rw [hat_hset_ne _ (by omega), q2]
      simp -failIfUnchanged (disch := first | assumption | omega | (refine room_i _ _ ?_ ?_ <;> omega) | (refine @_root_.id _ ?_; with_unfolding_all exact Eq.refl _) | (simp only [List.length_take, List.length_drop, List.length_append, List.length_cons, List.length_nil, List.length_replicate, List.length_map] <;> omega) | fail) only [rnL, opL, ruL, hpL, rsL, natL, outL, Nat.add_sub_cancel_left, Nat.mul_one, List.length_cons, List.length_nil, Nat.zero_add, Nat.add_zero, Nat.reduceAdd, Nat.reduceMul, Nat.reduceSub, Nat.reduceEqDiff, Nat.reduceLT, Nat.reduceLeDiff, litd_t, litd_f, decide_true, decide_false, Bool.not_true, Bool.not_false, not_true_eq_false, not_false_eq_true, true_and, and_true, false_and, and_false, true_or, or_true, false_or, or_false, Int.toNat_natCast, cond_true, cond_false, List.map_cons, List.map_nil, Option.map_some, Option.map_none, q4, bm25]
      have e : bV 100 (kS 4 2 (bS 8 st)) = ((UInt64.ofNat (bV 100 (kS 4 2 (bS 8 st))).toNat).toNat : Int) := u64_of (by omega) (by omega)
      exact fin_msg (m := ⟨3, 0, kV 4 2 (bS 8 st), [], [], UInt64.ofNat (bV 100 (kS 4 2 (bS 8 st))).toNat⟩) (by show [_, _, _, _, _, AV.int .u64 _] = [_, _, _, _, _, AV.int .u64 _]; rw [← e]; rfl) hl (by rw [hset_len]; exact q1) (by rfl) (hat_hset_eq _ (hat_some k1)) (fun j a b => (hat_hset_ne _ (Ne.symm b)).trans (q3 j a b)) (by unfold mV; rw [if_neg (by omega), if_neg (by omega), if_pos (by omega)]) (by unfold mS; rw [if_neg (by omega), if_neg (by omega), if_pos (by omega)])
    simp -failIfUnchanged (disch := first | assumption | omega | (refine room_i _ _ ?_ ?_ <;> omega) | (refine @_root_.id _ ?_; with_unfolding_all exact Eq.refl _) | (simp only [List.length_take, List.length_drop, List.length_append, List.length_cons, List.length_nil, List.length_replicate, List.length_map] <;> omega) | fail) only [rnL, opL, ruL, hpL, rsL, natL, outL, Nat.add_sub_cancel_left, Nat.mul_one, List.length_cons, List.length_nil, Nat.zero_add, Nat.add_zero, Nat.reduceAdd, Nat.reduceMul, Nat.reduceSub, Nat.reduceEqDiff, Nat.reduceLT, Nat.reduceLeDiff, litd_t, litd_f, decide_true, decide_false, Bool.not_true, Bool.not_false, not_true_eq_false, not_false_eq_true, true_and, and_true, false_and, and_false, true_or, or_true, false_or, or_false, Int.toNat_natCast, cond_true, cond_false, List.map_cons, List.map_nil, Option.map_some, Option.map_none]
    (first | refine RunB_i (fun g6 => ?_) (fun g6 => ?_) | refine RunG_i (fun g6 => ?_) (fun g6 => ?_) | refine RunB_ib (fun g6 => ?_) (fun g6 => ?_))
    · simp -failIfUnchanged (disch := first | assumption | omega | (refine room_i _ _ ?_ ?_ <;> omega) | (refine @_root_.id _ ?_; with_unfolding_all exact Eq.refl _) | (simp only [List.length_take, List.length_drop, List.length_append, List.length_cons, List.length_nil, List.length_replicate, List.length_map] <;> omega) | fail) only [rnL, opL, ruL, hpL, rsL, natL, outL, Nat.add_sub_cancel_left, Nat.mul_one, List.length_cons, List.length_nil, Nat.zero_add, Nat.add_zero, Nat.reduceAdd, Nat.reduceMul, Nat.reduceSub, Nat.reduceEqDiff, Nat.reduceLT, Nat.reduceLeDiff, litd_t, litd_f, decide_true, decide_false, Bool.not_true, Bool.not_false, not_true_eq_false, not_false_eq_true, true_and, and_true, false_and, and_false, true_or, or_true, false_or, or_false, Int.toNat_natCast, cond_true, cond_false, List.map_cons, List.map_nil, Option.map_some, Option.map_none]
      obtain ⟨H1, r1, k1, p1⟩ := key_p 4 2 (hset H k (.cells [.int .u64 (bS 8 st)]) ++ [.cells m0]) S k _ (hk2 _)
      obtain ⟨q1, q2, q3⟩ := kp_old p1
      have q2 := q2 hl
      simp -failIfUnchanged (disch := first | assumption | omega | (refine room_i _ _ ?_ ?_ <;> omega) | (refine @_root_.id _ ?_; with_unfolding_all exact Eq.refl _) | (simp only [List.length_take, List.length_drop, List.length_append, List.length_cons, List.length_nil, List.length_replicate, List.length_map] <;> omega) | fail) only [rnL, opL, ruL, hpL, rsL, natL, outL, Nat.add_sub_cancel_left, Nat.mul_one, List.length_cons, List.length_nil, Nat.zero_add, Nat.add_zero, Nat.reduceAdd, Nat.reduceMul, Nat.reduceSub, Nat.reduceEqDiff, Nat.reduceLT, Nat.reduceLeDiff, litd_t, litd_f, decide_true, decide_false, Bool.not_true, Bool.not_false, not_true_eq_false, not_false_eq_true, true_and, and_true, false_and, and_false, true_or, or_true, false_or, or_false, Int.toNat_natCast, cond_true, cond_false, List.map_cons, List.map_nil, Option.map_some, Option.map_none]
      refine RunC_r r1 ?_
      have d1 := bV_nn 100 (kS 4 2 (bS 8 st))
      have d2 := bV_lt 100 (kS 4 2 (bS 8 st)) (by omega)
      simp -failIfUnchanged (disch := first | assumption | omega | (refine room_i _ _ ?_ ?_ <;> omega) | (refine @_root_.id _ ?_; with_unfolding_all exact Eq.refl _) | (simp only [List.length_take, List.length_drop, List.length_append, List.length_cons, List.length_nil, List.length_replicate, List.length_map] <;> omega) | fail) only [rnL, opL, ruL, hpL, rsL, natL, outL, Nat.add_sub_cancel_left, Nat.mul_one, List.length_cons, List.length_nil, Nat.zero_add, Nat.add_zero, Nat.reduceAdd, Nat.reduceMul, Nat.reduceSub, Nat.reduceEqDiff, Nat.reduceLT, Nat.reduceLeDiff, litd_t, litd_f, decide_true, decide_false, Bool.not_true, Bool.not_false, not_true_eq_false, not_false_eq_true, true_and, and_true, false_and, and_false, true_or, or_true, false_or, or_false, Int.toNat_natCast, cond_true, cond_false, List.map_cons, List.map_nil, Option.map_some, Option.map_none]
      refine RunC_r (below_p k1 (by omega)) ?_
      have q4 : hat (hset H1 k (.cells [.int .u64 (bS 100 (kS 4 2 (bS 8 st)))])) H.length = .cells m0 := by rw [hat_hset_ne _ (by omega), q2]
      simp -failIfUnchanged (disch := first | assumption | omega | (refine room_i _ _ ?_ ?_ <;> omega) | (refine @_root_.id _ ?_; with_unfolding_all exact Eq.refl _) | (simp only [List.length_take, List.length_drop, List.length_append, List.length_cons, List.length_nil, List.length_replicate, List.length_map] <;> omega) | fail) only [rnL, opL, ruL, hpL, rsL, natL, outL, Nat.add_sub_cancel_left, Nat.mul_one, List.length_cons, List.length_nil, Nat.zero_add, Nat.add_zero, Nat.reduceAdd, Nat.reduceMul, Nat.reduceSub, Nat.reduceEqDiff, Nat.reduceLT, Nat.reduceLeDiff, litd_t, litd_f, decide_true, decide_false, Bool.not_true, Bool.not_false, not_true_eq_false, not_false_eq_true, true_and, and_true, false_and, and_false, true_or, or_true, false_or, or_false, Int.toNat_natCast, cond_true, cond_false, List.map_cons, List.map_nil, Option.map_some, Option.map_none, q4, bm25]
      have e : bV 100 (kS 4 2 (bS 8 st)) = ((UInt64.ofNat (bV 100 (kS 4 2 (bS 8 st))).toNat).toNat : Int) := u64_of (by omega) (by omega)
      exact fin_msg (m := ⟨3, 0, kV 4 2 (bS 8 st), [], [], UInt64.ofNat (bV 100 (kS 4 2 (bS 8 st))).toNat⟩) (by show [_, _, _, _, _, AV.int .u64 _] = [_, _, _, _, _, AV.int .u64 _]; rw [← e]; rfl) hl (by rw [hset_len]; exact q1) (by rfl) (hat_hset_eq _ (hat_some k1)) (fun j a b => (hat_hset_ne _ (Ne.symm b)).trans (q3 j a b)) (by unfold mV; rw [if_neg (by omega), if_neg (by omega), if_pos (by omega)]) (by unfold mS; rw [if_neg (by omega), if_neg (by omega), if_pos (by omega)])
    simp -failIfUnchanged (disch := first | assumption | omega | (refine room_i _ _ ?_ ?_ <;> omega) | (refine @_root_.id _ ?_; with_unfolding_all exact Eq.refl _) | (simp only [List.length_take, List.length_drop, List.length_append, List.length_cons, List.length_nil, List.length_replicate, List.length_map] <;> omega) | fail) only [rnL, opL, ruL, hpL, rsL, natL, outL, Nat.add_sub_cancel_left, Nat.mul_one, List.length_cons, List.length_nil, Nat.zero_add, Nat.add_zero, Nat.reduceAdd, Nat.reduceMul, Nat.reduceSub, Nat.reduceEqDiff, Nat.reduceLT, Nat.reduceLeDiff, litd_t, litd_f, decide_true, decide_false, Bool.not_true, Bool.not_false, not_true_eq_false, not_false_eq_true, true_and, and_true, false_and, and_false, true_or, or_true, false_or, or_false, Int.toNat_natCast, cond_true, cond_false, List.map_cons, List.map_nil, Option.map_some, Option.map_none]
    obtain ⟨H1, r1, k1, p1⟩ := key_p 4 1 (hset H k (.cells [.int .u64 (bS 8 st)]) ++ [.cells m0]) S k _ (hk2 _)
    obtain ⟨q1, q2, q3⟩ := kp_old p1
    have q2 := q2 hl
    have l1 := kV_len 4 1 (bS 8 st)
    simp -failIfUnchanged (disch := first | assumption | omega | (refine room_i _ _ ?_ ?_ <;> omega) | (refine @_root_.id _ ?_; with_unfolding_all exact Eq.refl _) | (simp only [List.length_take, List.length_drop, List.length_append, List.length_cons, List.length_nil, List.length_replicate, List.length_map] <;> omega) | fail) only [rnL, opL, ruL, hpL, rsL, natL, outL, Nat.add_sub_cancel_left, Nat.mul_one, List.length_cons, List.length_nil, Nat.zero_add, Nat.add_zero, Nat.reduceAdd, Nat.reduceMul, Nat.reduceSub, Nat.reduceEqDiff, Nat.reduceLT, Nat.reduceLeDiff, litd_t, litd_f, decide_true, decide_false, Bool.not_true, Bool.not_false, not_true_eq_false, not_false_eq_true, true_and, and_true, false_and, and_false, true_or, or_true, false_or, or_false, Int.toNat_natCast, cond_true, cond_false, List.map_cons, List.map_nil, Option.map_some, Option.map_none]
    refine RunC_r r1 ?_
    simp -failIfUnchanged (disch := first | assumption | omega | (refine room_i _ _ ?_ ?_ <;> omega) | (refine @_root_.id _ ?_; with_unfolding_all exact Eq.refl _) | (simp only [List.length_take, List.length_drop, List.length_append, List.length_cons, List.length_nil, List.length_replicate, List.length_map] <;> omega) | fail) only [rnL, opL, ruL, hpL, rsL, natL, outL, Nat.add_sub_cancel_left, Nat.mul_one, List.length_cons, List.length_nil, Nat.zero_add, Nat.add_zero, Nat.reduceAdd, Nat.reduceMul, Nat.reduceSub, Nat.reduceEqDiff, Nat.reduceLT, Nat.reduceLeDiff, litd_t, litd_f, decide_true, decide_false, Bool.not_true, Bool.not_false, not_true_eq_false, not_false_eq_true, true_and, and_true, false_and, and_false, true_or, or_true, false_or, or_false, Int.toNat_natCast, cond_true, cond_false, List.map_cons, List.map_nil, Option.map_some, Option.map_none, q2, bm23]
    exact fin_msg (m := ⟨4, 0, kV 4 1 (bS 8 st), kV 4 1 (bS 8 st) ++ [122], [], 0⟩) (by rfl) hl q1 (by rfl) k1 q3 (by unfold mV; rw [if_pos (by omega)]) (by unfold mS; rw [if_pos (by omega)])
  obtain ⟨v, S', r, H', rfl, rfl, h1, h2⟩ := key
  exact ⟨H', r, h1, h2⟩
end Go.AS.Sd

/-
  Operations in several orders. By an AI agent.
-/
namespace Go.AS
open Go
section
variable {funs : Nat → Option IFun}
theorem agree_all {call : CallT} {e e1 : Env} {S S1 : Stack} : ∀ {ls : List (List IOper)}, (∀ l ∈ ls, evOps call l e S = some (.go e1 S1)) → agree call e S e1 S1 ls = true
  | [], _ => rfl
  | l :: r, h => by
    simp only [agree, h l (by simp), decide_true, Bool.and_self, cond_true]
    exact agree_all fun x hx => h x (by simp [hx])
theorem evAll_all {call : CallT} {e e1 : Env} {S S1 : Stack} {ls : List (List IOper)} (hne : ls ≠ []) (h : ∀ l ∈ ls, evOps call l e S = some (.go e1 S1)) : evAll call e S ls = some (e1, S1) := by
  cases ls with
  | nil => exact absurd rfl hne
  | cons l r =>
    have h2 : agree call e S e1 S1 r = true := agree_all fun x hx => h x (List.mem_cons_of_mem _ hx)
    simp only [evAll, h l (by simp), h2, cond_true]
theorem Run_multi {Q : IX → Env → Stack → Prop} {cs : List Fr} {ls : List (List IOper)} {dr : List Nat} {e e1 : Env} {H : Heap} {S S1 : Stack} (hne : ls ≠ [])
    (hall : ∀ l ∈ ls, Run funs (fun _ e' S' => e' = e1 ∧ S' = S1) [.c (.ops true (l.map (absO H.length)) [])] .normal e (H :: S)) (hk : Run funs Q cs .normal (Env.drop e1 dr) S1) : Run funs Q (.c (.multi ls dr) :: cs) .normal e (H :: S) := by
  have h1 : ∀ l ∈ ls, ∃ k, evOps (callV funs k) (l.map (absO H.length)) e (H :: S) = some (.go e1 S1) := by
    intro l hl
    obtain ⟨k, x, e', S', h2, h3⟩ := (hall l hl).unrun
    obtain ⟨rfl, rfl⟩ := h3
    simp only [evC] at h2
    split at h2
    · rename_i e2 S2 h4
      simp only [Env.drop, Option.some.injEq, Prod.mk.injEq] at h2
      obtain ⟨_, rfl, rfl⟩ := h2
      exact ⟨k, h4⟩
    · cases h2
    · cases h2
  have h2 : ∀ (ls : List (List IOper)), (∀ l ∈ ls, ∃ k, evOps (callV funs k) (l.map (absO H.length)) e (H :: S) = some (.go e1 S1)) → ∃ k, ∀ l ∈ ls, evOps (callV funs k) (l.map (absO H.length)) e (H :: S) = some (.go e1 S1) := by
    intro ls
    induction ls with
    | nil => intro _; exact ⟨0, fun l hl => by cases hl⟩
    | cons a r ih =>
      intro h
      obtain ⟨k1, h3⟩ := h a (by simp)
      obtain ⟨k2, h4⟩ := ih fun l hl => h l (by simp [hl])
      refine ⟨max k1 k2, fun l hl => ?_⟩
      rcases List.mem_cons.1 hl with rfl | hl
      · exact evOps_up (Nat.le_max_left _ _) h3
      · exact evOps_up (Nat.le_max_right _ _) (h4 l hl)
  obtain ⟨k, h3⟩ := h2 ls h1
  refine ⟨k, .normal, Env.drop e1 dr, S1, ?_, hk⟩
  have h4 : evM (callV funs k) e (H :: S) ls = some (e1, S1) := by
    unfold evM
    refine evAll_all (by simpa using hne) fun l hl => ?_
    obtain ⟨l0, h5, rfl⟩ := List.mem_map.1 hl
    exact h3 l0 h5
  simp only [evC, h4]
end
end Go.AS

namespace Go.AS.Sd
open Go Go.AS Go.Proofs
set_option maxHeartbeats 2000000
set_option maxRecDepth 8000
/-- Messages, one behind the other. -/
def msF (st : Int) : Nat → Int
  | 0 => st
  | m + 1 => mS (msF st m)
def mLF (st : Int) : Nat → List Msg
  | 0 => []
  | m + 1 => mLF st m ++ [mV (msF st m)]
theorem mLF_len (st : Int) (m : Nat) : (mLF st m).length = m := by
  induction m with
  | zero => rfl
  | succ m ih => simp [mLF, ih]
/-- How many messages a batch has. -/
def oM (s1 : Int) : Nat := (bV 3 s1 + 1).toNat
theorem oM_b (s : Int) : 1 ≤ oM s ∧ oM s ≤ 3 ∧ (oM s : Int) = bV 3 s + 1 := by
  have h1 := bV_nn 3 s
  have h2 := bV_lt 3 s (by omega)
  unfold oM
  omega
/-- An operation. -/
def oK (st : Int) : UInt8 := if bV 8 st < 2 then 1 else if bV 8 st < 5 then 2 else if bV 8 st = 5 then 3 else if bV 8 st = 6 then 4 else 5
def oKey (st : Int) : Str := if bV 8 st < 2 then kV 4 2 (bS 8 st) else if bV 8 st < 5 then [] else if bV 8 st = 5 then kV 4 1 (bS 8 st) else []
def oN (st : Int) : Int := if bV 8 st < 2 then 0 else if bV 8 st < 5 then 0 else if bV 8 st = 5 then bV 3 (kS 4 1 (bS 8 st)) + 1 else if bV 8 st = 6 then 0 else 1
def oL (st : Int) : List Msg := if bV 8 st < 2 then [] else if bV 8 st < 5 then mLF (bS 3 (bS 8 st)) (oM (bS 8 st)) else []
def oS (st : Int) : Int := if bV 8 st < 2 then kS 4 2 (bS 8 st) else if bV 8 st < 5 then msF (bS 3 (bS 8 st)) (oM (bS 8 st)) else if bV 8 st = 5 then bS 3 (kS 4 1 (bS 8 st)) else bS 8 st
theorem Row.kp {α : Type} [Cel α] {nl : Bool} {G G1 : Heap} {w : AV} {l : List α} {k : Nat} (h : Row nl G w l) (hk : Kp k G G1) (hi : isAt w k = false) : Row nl G1 w l := by
  rcases h with h | ⟨id, h1, h2, rfl, h4⟩
  · exact .inl h
  · have : id ≠ k := by intro e; subst e; simp [isAt] at hi
    exact .inr ⟨id, Nat.lt_of_lt_of_le h1 hk.len, h2, rfl, (hk.at_ id h1 this).trans h4⟩
theorem Row.any {α : Type} [Cel α] {nl nl' : Bool} {G : Heap} {w : AV} {l : List α} (h : Row nl G w l) (hl : l ≠ []) : Row nl' G w l := by
  rcases h with ⟨h, _⟩ | h
  · exact absurd h hl
  · exact .inr h
/-- The empty operation's cells. -/
abbrev o0 : List AV := [.int .u8 0, .str [], .str [], .int .i64 0, .imm true 0 0 (some 0) []]
abbrev opA (st : Int) (w : AV) : AV := .agg [.int .u8 (oK st).toNat, .str (oKey st), .str [], .int .i64 (oN st), w]
abbrev OpP (k : Nat) (H : Heap) (S : Stack) (st : Int) (v : AV) (S' : Stack) : Prop := ∃ w H', v = opA st w ∧ S' = H' :: S ∧ hat H' k = .cells [.int .u64 (oS st)] ∧ Kp k H H' ∧ Row true H' w (oL st) ∧ ∀ j, j < H.length → isAt w j = false
theorem fin_op {H Hn : Heap} {S : Stack} {k : Nat} {st s' : Int} {e : Env} {x : IX} {w : AV} {cs : List AV} (hx : x = .normal ∨ x = .ret) (hc : AV.agg cs = opA st w) (hl : k < H.length) (hn : H.length < Hn.length) (he : Env.get e 2 = .ptr H.length 5 0) (hs : hat Hn k = .cells [.int .u64 s'])
    (hp : ∀ j, j < H.length → j ≠ k → hat Hn j = hat H j) (hs' : s' = oS st) (hR : Row true Hn w (oL st)) (hw : ∀ j, j ≤ H.length → isAt w j = false) : FinX [.cell 2 (some 5)] (OpP k H S st) x e (hset Hn H.length (.cells cs) :: S) := by
  cases hc
  subst hs'
  refine FinX_cell hx he (hat_hset_eq _ hn) rfl rfl ⟨w, _, rfl, rfl, ?_, ⟨by rw [hset_len]; omega, fun j h1 h2 => ?_⟩, hR.hset (hw _ (Nat.le_refl _)), fun j hj => hw j (Nat.le_of_lt hj)⟩
  · rw [hat_hset_ne _ (by omega), hs]
  · rw [hat_hset_ne _ (by omega), hp j h1 h2]
theorem bo0 {H : Heap} {a : Int} : opV H (.build o0 [(0, 1, .c (.int .u8 a))]) = some (.agg [.int .u8 a, .str [], .str [], .int .i64 0, .imm true 0 0 (some 0) []], H) := rfl
theorem bo1 {H : Heap} {a : Int} {x : Str} : opV H (.build o0 [(0, 1, .c (.int .u8 a)), (1, 1, .c (.str x))]) = some (.agg [.int .u8 a, .str x, .str [], .int .i64 0, .imm true 0 0 (some 0) []], H) := rfl
theorem bo13 {H : Heap} {a n : Int} {x : Str} : opV H (.build o0 [(0, 1, .c (.int .u8 a)), (1, 1, .c (.str x)), (3, 1, .c (.int .i64 n))]) = some (.agg [.int .u8 a, .str x, .str [], .int .i64 n, .imm true 0 0 (some 0) []], H) := rfl
theorem bo3 {H : Heap} {a n : Int} : opV H (.build o0 [(0, 1, .c (.int .u8 a)), (3, 1, .c (.int .i64 n))]) = some (.agg [.int .u8 a, .str [], .str [], .int .i64 n, .imm true 0 0 (some 0) []], H) := rfl
theorem hat_kq {H : Heap} {k : Nat} {o p : AObj} (hl : k < H.length) : hat (hset H k o ++ [p]) k = o := by
  rw [hat_app_lt (by rw [hset_len]; exact hl), hat_hset_eq _ hl]
theorem op_r {H : Heap} {S : Stack} {k : Nat} {st : Int} (hk : hat H k = .cells [.int .u64 st]) : ∃ v S', Rets F (.func (.func 28) [] []) [.ptr k 1 0] (H :: S) v S' ∧ OpP k H S st v S' := by
  have hl := hat_some hk
  refine Rets.memX (funs := F) (fi := []) (ca := []) fn_r40_Op rfl rfl ?_
  simp only [ir_r40_Op, List.nil_append, List.cons_append]
  have hk1 : ∀ o, hat (H ++ [o]) k = .cells [.int .u64 st] := fun o => (hat_app_lt hl).trans hk
  simp -failIfUnchanged (disch := first | assumption | omega | (refine room_i _ _ ?_ ?_ <;> omega) | (refine @_root_.id _ ?_; with_unfolding_all exact Eq.refl _) | (simp only [List.length_take, List.length_drop, List.length_append, List.length_cons, List.length_nil, List.length_replicate, List.length_map] <;> omega) | fail) only [rnL, opL, ruL, hpL, rsL, natL, outL, Nat.add_sub_cancel_left, Nat.mul_one, List.length_cons, List.length_nil, Nat.zero_add, Nat.add_zero, Nat.reduceAdd, Nat.reduceMul, Nat.reduceSub, Nat.reduceEqDiff, Nat.reduceLT, Nat.reduceLeDiff, litd_t, litd_f, decide_true, decide_false, Bool.not_true, Bool.not_false, not_true_eq_false, not_false_eq_true, true_and, and_true, false_and, and_false, true_or, or_true, false_or, or_false, Int.toNat_natCast, cond_true, cond_false, List.map_cons, List.map_nil, Option.map_some, Option.map_none]
  refine RunC_r (below_r (hk1 _) (by omega)) ?_
  simp -failIfUnchanged (disch := first | assumption | omega | (refine room_i _ _ ?_ ?_ <;> omega) | (refine @_root_.id _ ?_; with_unfolding_all exact Eq.refl _) | (simp only [List.length_take, List.length_drop, List.length_append, List.length_cons, List.length_nil, List.length_replicate, List.length_map] <;> omega) | fail) only [rnL, opL, ruL, hpL, rsL, natL, outL, Nat.add_sub_cancel_left, Nat.mul_one, List.length_cons, List.length_nil, Nat.zero_add, Nat.add_zero, Nat.reduceAdd, Nat.reduceMul, Nat.reduceSub, Nat.reduceEqDiff, Nat.reduceLT, Nat.reduceLeDiff, litd_t, litd_f, decide_true, decide_false, Bool.not_true, Bool.not_false, not_true_eq_false, not_false_eq_true, true_and, and_true, false_and, and_false, true_or, or_true, false_or, or_false, Int.toNat_natCast, cond_true, cond_false, List.map_cons, List.map_nil, Option.map_some, Option.map_none, hset_app_lt hl]
  have hk2 : ∀ o, hat (hset H k (.cells [.int .u64 (bS 8 st)]) ++ [o]) k = .cells [.int .u64 (bS 8 st)] := fun o => by
    rw [hat_app_lt (by rw [hset_len]; exact hl), hat_hset_eq _ hl]
  (first | refine RunB_i (fun h1 => ?_) (fun h1 => ?_) | refine RunG_i (fun h1 => ?_) (fun h1 => ?_) | refine RunB_ib (fun h1 => ?_) (fun h1 => ?_))
  · obtain ⟨H1, r1, k1, p1⟩ := key_r 4 2 (hset H k (.cells [.int .u64 (bS 8 st)]) ++ [.cells o0]) S k _ (hk2 _)
    obtain ⟨q1, q2, q3⟩ := kp_old p1
    have q2 := q2 hl
    simp -failIfUnchanged (disch := first | assumption | omega | (refine room_i _ _ ?_ ?_ <;> omega) | (refine @_root_.id _ ?_; with_unfolding_all exact Eq.refl _) | (simp only [List.length_take, List.length_drop, List.length_append, List.length_cons, List.length_nil, List.length_replicate, List.length_map] <;> omega) | fail) only [rnL, opL, ruL, hpL, rsL, natL, outL, Nat.add_sub_cancel_left, Nat.mul_one, List.length_cons, List.length_nil, Nat.zero_add, Nat.add_zero, Nat.reduceAdd, Nat.reduceMul, Nat.reduceSub, Nat.reduceEqDiff, Nat.reduceLT, Nat.reduceLeDiff, litd_t, litd_f, decide_true, decide_false, Bool.not_true, Bool.not_false, not_true_eq_false, not_false_eq_true, true_and, and_true, false_and, and_false, true_or, or_true, false_or, or_false, Int.toNat_natCast, cond_true, cond_false, List.map_cons, List.map_nil, Option.map_some, Option.map_none]
    refine RunC_r r1 ?_
    simp -failIfUnchanged (disch := first | assumption | omega | (refine room_i _ _ ?_ ?_ <;> omega) | (refine @_root_.id _ ?_; with_unfolding_all exact Eq.refl _) | (simp only [List.length_take, List.length_drop, List.length_append, List.length_cons, List.length_nil, List.length_replicate, List.length_map] <;> omega) | fail) only [rnL, opL, ruL, hpL, rsL, natL, outL, Nat.add_sub_cancel_left, Nat.mul_one, List.length_cons, List.length_nil, Nat.zero_add, Nat.add_zero, Nat.reduceAdd, Nat.reduceMul, Nat.reduceSub, Nat.reduceEqDiff, Nat.reduceLT, Nat.reduceLeDiff, litd_t, litd_f, decide_true, decide_false, Bool.not_true, Bool.not_false, not_true_eq_false, not_false_eq_true, true_and, and_true, false_and, and_false, true_or, or_true, false_or, or_false, Int.toNat_natCast, cond_true, cond_false, List.map_cons, List.map_nil, Option.map_some, Option.map_none, q2, bo1]
    exact fin_op (w := .imm true 0 0 (some 0) []) (.inr rfl) (by simp only [opA, oK, oKey, oN, if_pos h1]; rfl) hl q1 (by rfl) k1 q3 (by unfold oS; rw [if_pos h1]) (by unfold oL; rw [if_pos h1]; exact Row.nil) (fun _ _ => rfl)
  simp -failIfUnchanged (disch := first | assumption | omega | (refine room_i _ _ ?_ ?_ <;> omega) | (refine @_root_.id _ ?_; with_unfolding_all exact Eq.refl _) | (simp only [List.length_take, List.length_drop, List.length_append, List.length_cons, List.length_nil, List.length_replicate, List.length_map] <;> omega) | fail) only [rnL, opL, ruL, hpL, rsL, natL, outL, Nat.add_sub_cancel_left, Nat.mul_one, List.length_cons, List.length_nil, Nat.zero_add, Nat.add_zero, Nat.reduceAdd, Nat.reduceMul, Nat.reduceSub, Nat.reduceEqDiff, Nat.reduceLT, Nat.reduceLeDiff, litd_t, litd_f, decide_true, decide_false, Bool.not_true, Bool.not_false, not_true_eq_false, not_false_eq_true, true_and, and_true, false_and, and_false, true_or, or_true, false_or, or_false, Int.toNat_natCast, cond_true, cond_false, List.map_cons, List.map_nil, Option.map_some, Option.map_none]
  (first | refine RunB_i (fun h2 => ?_) (fun h2 => ?_) | refine RunG_i (fun h2 => ?_) (fun h2 => ?_) | refine RunB_ib (fun h2 => ?_) (fun h2 => ?_))
  · obtain ⟨n1, n2, n3⟩ := oM_b (bS 8 st)
    simp -failIfUnchanged (disch := first | assumption | omega | (refine room_i _ _ ?_ ?_ <;> omega) | (refine @_root_.id _ ?_; with_unfolding_all exact Eq.refl _) | (simp only [List.length_take, List.length_drop, List.length_append, List.length_cons, List.length_nil, List.length_replicate, List.length_map] <;> omega) | fail) only [rnL, opL, ruL, hpL, rsL, natL, outL, Nat.add_sub_cancel_left, Nat.mul_one, List.length_cons, List.length_nil, Nat.zero_add, Nat.add_zero, Nat.reduceAdd, Nat.reduceMul, Nat.reduceSub, Nat.reduceEqDiff, Nat.reduceLT, Nat.reduceLeDiff, litd_t, litd_f, decide_true, decide_false, Bool.not_true, Bool.not_false, not_true_eq_false, not_false_eq_true, true_and, and_true, false_and, and_false, true_or, or_true, false_or, or_false, Int.toNat_natCast, cond_true, cond_false, List.map_cons, List.map_nil, Option.map_some, Option.map_none]
    refine RunC_r (below_r (hk2 _) (by omega)) ?_
    have n4 : bV 3 (bS 8 st) = (oM (bS 8 st) : Int) - 1 := by omega
    simp -failIfUnchanged (disch := first | assumption | omega | (refine room_i _ _ ?_ ?_ <;> omega) | (refine @_root_.id _ ?_; with_unfolding_all exact Eq.refl _) | (simp only [List.length_take, List.length_drop, List.length_append, List.length_cons, List.length_nil, List.length_replicate, List.length_map] <;> omega) | fail) only [rnL, opL, ruL, hpL, rsL, natL, outL, Nat.add_sub_cancel_left, Nat.mul_one, List.length_cons, List.length_nil, Nat.zero_add, Nat.add_zero, Nat.reduceAdd, Nat.reduceMul, Nat.reduceSub, Nat.reduceEqDiff, Nat.reduceLT, Nat.reduceLeDiff, litd_t, litd_f, decide_true, decide_false, Bool.not_true, Bool.not_false, not_true_eq_false, not_false_eq_true, true_and, and_true, false_and, and_false, true_or, or_true, false_or, or_false, Int.toNat_natCast, cond_true, cond_false, List.map_cons, List.map_nil, Option.map_some, Option.map_none, hset_apph, n4]
    refine Run_loop (σ := Nat × Heap × AV) (fun σ => [(0, .ptr k 1 0), (2, .ptr H.length 5 0), (3, .int .i64 (bV 8 st)), (4, σ.2.2), (5, .int .i64 ((oM (bS 8 st) : Int) - 1 - σ.1)), (10, .bool false), (15, .bool true)])
      (fun σ => σ.2.1 :: S) (fun σ => σ.1 ≤ oM (bS 8 st) ∧ hat σ.2.1 k = .cells [.int .u64 (msF (bS 3 (bS 8 st)) σ.1)] ∧ hat σ.2.1 H.length = .cells o0 ∧ H.length < σ.2.1.length ∧ (∀ j, j < H.length → j ≠ k → hat σ.2.1 j = hat H j) ∧ Row false σ.2.1 σ.2.2 (mLF (bS 3 (bS 8 st)) σ.1) ∧ ∀ j, j ≤ H.length → isAt σ.2.2 j = false)
      (fun σ => oM (bS 8 st) - σ.1) (0, _, _) ?_ rfl ⟨Nat.zero_le _, hat_kq hl, hat_endh _ _ _ _, by simp [hset_len], fun j a b => by rw [hat_app_lt (by rw [hset_len]; exact a), hat_hset_ne _ (Ne.symm b)], Row.nil, fun _ _ => rfl⟩ ?_
    · simp
    rintro ⟨i, G, w⟩ ⟨hi, g1, g2, g3, g4, g5, g6⟩
    simp only at hi g1 g2 g3 g4 g5 g6
    simp -failIfUnchanged (disch := first | assumption | omega | (refine room_i _ _ ?_ ?_ <;> omega) | (refine @_root_.id _ ?_; with_unfolding_all exact Eq.refl _) | (simp only [List.length_take, List.length_drop, List.length_append, List.length_cons, List.length_nil, List.length_replicate, List.length_map] <;> omega) | fail) only [rnL, opL, ruL, hpL, rsL, natL, outL, Nat.add_sub_cancel_left, Nat.mul_one, List.length_cons, List.length_nil, Nat.zero_add, Nat.add_zero, Nat.reduceAdd, Nat.reduceMul, Nat.reduceSub, Nat.reduceEqDiff, Nat.reduceLT, Nat.reduceLeDiff, litd_t, litd_f, decide_true, decide_false, Bool.not_true, Bool.not_false, not_true_eq_false, not_false_eq_true, true_and, and_true, false_and, and_false, true_or, or_true, false_or, or_false, Int.toNat_natCast, cond_true, cond_false, List.map_cons, List.map_nil, Option.map_some, Option.map_none]
    (first | refine RunB_i (fun h3 => ?_) (fun h3 => ?_) | refine RunG_i (fun h3 => ?_) (fun h3 => ?_) | refine RunB_ib (fun h3 => ?_) (fun h3 => ?_))
    · obtain ⟨G1, r1, k1, p1⟩ := msg_r G S k _ g1
      have g7 := g6 k (Nat.le_of_lt hl)
      have hR := Row.kp g5 p1 g7
      have hml := mLF_len (bS 3 (bS 8 st)) i
      obtain ⟨w', G2, ha, hR2, hK⟩ := Row.append (es := 6) (bytes := 72) (mV (msF (bS 3 (bS 8 st)) i)) hR rfl rfl (by refine room_i _ _ ?_ ?_ <;> omega)
      simp -failIfUnchanged (disch := first | assumption | omega | (refine room_i _ _ ?_ ?_ <;> omega) | (refine @_root_.id _ ?_; with_unfolding_all exact Eq.refl _) | (simp only [List.length_take, List.length_drop, List.length_append, List.length_cons, List.length_nil, List.length_replicate, List.length_map] <;> omega) | fail) only [rnL, opL, ruL, hpL, rsL, natL, outL, Nat.add_sub_cancel_left, Nat.mul_one, List.length_cons, List.length_nil, Nat.zero_add, Nat.add_zero, Nat.reduceAdd, Nat.reduceMul, Nat.reduceSub, Nat.reduceEqDiff, Nat.reduceLT, Nat.reduceLeDiff, litd_t, litd_f, decide_true, decide_false, Bool.not_true, Bool.not_false, not_true_eq_false, not_false_eq_true, true_and, and_true, false_and, and_false, true_or, or_true, false_or, or_false, Int.toNat_natCast, cond_true, cond_false, List.map_cons, List.map_nil, Option.map_some, Option.map_none]
      refine RunC_r r1 ?_
      simp -failIfUnchanged (disch := first | assumption | omega | (refine room_i _ _ ?_ ?_ <;> omega) | (refine @_root_.id _ ?_; with_unfolding_all exact Eq.refl _) | (simp only [List.length_take, List.length_drop, List.length_append, List.length_cons, List.length_nil, List.length_replicate, List.length_map] <;> omega) | fail) only [rnL, opL, ruL, hpL, rsL, natL, outL, Nat.add_sub_cancel_left, Nat.mul_one, List.length_cons, List.length_nil, Nat.zero_add, Nat.add_zero, Nat.reduceAdd, Nat.reduceMul, Nat.reduceSub, Nat.reduceEqDiff, Nat.reduceLT, Nat.reduceLeDiff, litd_t, litd_f, decide_true, decide_false, Bool.not_true, Bool.not_false, not_true_eq_false, not_false_eq_true, true_and, and_true, false_and, and_false, true_or, or_true, false_or, or_false, Int.toNat_natCast, cond_true, cond_false, List.map_cons, List.map_nil, Option.map_some, Option.map_none, ha]
      refine Next.i (i + 1, G2, w') ?_ rfl ⟨by show i + 1 ≤ _; omega, ?_, ?_, ?_, fun j a b => ?_, hR2, fun j a => ?_⟩ (by show oM (bS 8 st) - (i + 1) < oM (bS 8 st) - i; omega)
      · simp -failIfUnchanged (disch := first | assumption | omega | (refine room_i _ _ ?_ ?_ <;> omega) | (refine @_root_.id _ ?_; with_unfolding_all exact Eq.refl _) | (simp only [List.length_take, List.length_drop, List.length_append, List.length_cons, List.length_nil, List.length_replicate, List.length_map] <;> omega) | fail) only [rnL, opL, ruL, hpL, rsL, natL, outL, Nat.add_sub_cancel_left, Nat.mul_one, List.length_cons, List.length_nil, Nat.zero_add, Nat.add_zero, Nat.reduceAdd, Nat.reduceMul, Nat.reduceSub, Nat.reduceEqDiff, Nat.reduceLT, Nat.reduceLeDiff, litd_t, litd_f, decide_true, decide_false, Bool.not_true, Bool.not_false, not_true_eq_false, not_false_eq_true, true_and, and_true, false_and, and_false, true_or, or_true, false_or, or_false, Int.toNat_natCast, cond_true, cond_false, List.map_cons, List.map_nil, Option.map_some, Option.map_none]
        rw [show (oM (bS 8 st) : Int) - 1 - i - 1 = (oM (bS 8 st) : Int) - 1 - ((i + 1 : Nat) : Int) by omega]
      · show hat G2 k = _
        rw [hK.same k (hat_some k1) g7, k1]; rfl
      · show hat G2 H.length = _
        rw [hK.same _ (Nat.lt_of_lt_of_le g3 p1.len) (g6 _ (Nat.le_refl _)), p1.at_ _ g3 (by omega), g2]
      · exact Nat.lt_of_lt_of_le g3 (Nat.le_trans p1.len hK.len)
      · show hat G2 j = _
        rw [hK.same j (by have := p1.len; omega) (g6 j (Nat.le_of_lt a)), p1.at_ j (by omega) b, g4 j a b]
      · exact hK.at_ j (by have := p1.len; omega) (g6 j a)
    · have hi2 : i = oM (bS 8 st) := by omega
      subst hi2
      have hml := mLF_len (bS 3 (bS 8 st)) (oM (bS 8 st))
      have hbw : ∀ H0, opV H0 (.build o0 [(0, 1, .c (.int .u8 2)), (4, 1, .c w)]) = some (.agg [.int .u8 2, .str [], .str [], .int .i64 0, w], H0) := by
        intro H0
        rcases g5 with ⟨_, rfl⟩ | ⟨id, _, _, rfl, _⟩ <;> rfl
      simp -failIfUnchanged (disch := first | assumption | omega | (refine room_i _ _ ?_ ?_ <;> omega) | (refine @_root_.id _ ?_; with_unfolding_all exact Eq.refl _) | (simp only [List.length_take, List.length_drop, List.length_append, List.length_cons, List.length_nil, List.length_replicate, List.length_map] <;> omega) | fail) only [rnL, opL, ruL, hpL, rsL, natL, outL, Nat.add_sub_cancel_left, Nat.mul_one, List.length_cons, List.length_nil, Nat.zero_add, Nat.add_zero, Nat.reduceAdd, Nat.reduceMul, Nat.reduceSub, Nat.reduceEqDiff, Nat.reduceLT, Nat.reduceLeDiff, litd_t, litd_f, decide_true, decide_false, Bool.not_true, Bool.not_false, not_true_eq_false, not_false_eq_true, true_and, and_true, false_and, and_false, true_or, or_true, false_or, or_false, Int.toNat_natCast, cond_true, cond_false, List.map_cons, List.map_nil, Option.map_some, Option.map_none, hbw, g2]
      have hne : mLF (bS 3 (bS 8 st)) (oM (bS 8 st)) ≠ [] := by intro e; rw [e] at hml; simp at hml; omega
      exact fin_op (w := w) (.inr rfl) (by simp only [opA, oK, oKey, oN, if_neg h1, if_pos h2]; rfl) hl g3 (by rfl) g1 g4 (by unfold oS; rw [if_neg h1, if_pos h2]) (by unfold oL; rw [if_neg h1, if_pos h2]; exact Row.any g5 hne) g6
  simp -failIfUnchanged (disch := first | assumption | omega | (refine room_i _ _ ?_ ?_ <;> omega) | (refine @_root_.id _ ?_; with_unfolding_all exact Eq.refl _) | (simp only [List.length_take, List.length_drop, List.length_append, List.length_cons, List.length_nil, List.length_replicate, List.length_map] <;> omega) | fail) only [rnL, opL, ruL, hpL, rsL, natL, outL, Nat.add_sub_cancel_left, Nat.mul_one, List.length_cons, List.length_nil, Nat.zero_add, Nat.add_zero, Nat.reduceAdd, Nat.reduceMul, Nat.reduceSub, Nat.reduceEqDiff, Nat.reduceLT, Nat.reduceLeDiff, litd_t, litd_f, decide_true, decide_false, Bool.not_true, Bool.not_false, not_true_eq_false, not_false_eq_true, true_and, and_true, false_and, and_false, true_or, or_true, false_or, or_false, Int.toNat_natCast, cond_true, cond_false, List.map_cons, List.map_nil, Option.map_some, Option.map_none]
  (first | refine RunB_i (fun h3 => ?_) (fun h3 => ?_) | refine RunG_i (fun h3 => ?_) (fun h3 => ?_) | refine RunB_ib (fun h3 => ?_) (fun h3 => ?_))
  · obtain ⟨H1, r1, k1, p1⟩ := key_r 4 1 (hset H k (.cells [.int .u64 (bS 8 st)]) ++ [.cells o0]) S k _ (hk2 _)
    obtain ⟨q1, q2, q3⟩ := kp_old p1
    have q2 := q2 hl
    simp -failIfUnchanged (disch := first | assumption | omega | (refine room_i _ _ ?_ ?_ <;> omega) | (refine @_root_.id _ ?_; with_unfolding_all exact Eq.refl _) | (simp only [List.length_take, List.length_drop, List.length_append, List.length_cons, List.length_nil, List.length_replicate, List.length_map] <;> omega) | fail) only [rnL, opL, ruL, hpL, rsL, natL, outL, Nat.add_sub_cancel_left, Nat.mul_one, List.length_cons, List.length_nil, Nat.zero_add, Nat.add_zero, Nat.reduceAdd, Nat.reduceMul, Nat.reduceSub, Nat.reduceEqDiff, Nat.reduceLT, Nat.reduceLeDiff, litd_t, litd_f, decide_true, decide_false, Bool.not_true, Bool.not_false, not_true_eq_false, not_false_eq_true, true_and, and_true, false_and, and_false, true_or, or_true, false_or, or_false, Int.toNat_natCast, cond_true, cond_false, List.map_cons, List.map_nil, Option.map_some, Option.map_none]
    refine RunC_r r1 ?_
    have d1 := bV_nn 3 (kS 4 1 (bS 8 st))
    have d2 := bV_lt 3 (kS 4 1 (bS 8 st)) (by omega)
    simp -failIfUnchanged (disch := first | assumption | omega | (refine room_i _ _ ?_ ?_ <;> omega) | (refine @_root_.id _ ?_; with_unfolding_all exact Eq.refl _) | (simp only [List.length_take, List.length_drop, List.length_append, List.length_cons, List.length_nil, List.length_replicate, List.length_map] <;> omega) | fail) only [rnL, opL, ruL, hpL, rsL, natL, outL, Nat.add_sub_cancel_left, Nat.mul_one, List.length_cons, List.length_nil, Nat.zero_add, Nat.add_zero, Nat.reduceAdd, Nat.reduceMul, Nat.reduceSub, Nat.reduceEqDiff, Nat.reduceLT, Nat.reduceLeDiff, litd_t, litd_f, decide_true, decide_false, Bool.not_true, Bool.not_false, not_true_eq_false, not_false_eq_true, true_and, and_true, false_and, and_false, true_or, or_true, false_or, or_false, Int.toNat_natCast, cond_true, cond_false, List.map_cons, List.map_nil, Option.map_some, Option.map_none]
    refine RunC_r (below_r k1 (by omega)) ?_
    have q4 : hat (hset H1 k (.cells [.int .u64 (bS 3 (kS 4 1 (bS 8 st)))])) H.length = .cells o0 := by rw [hat_hset_ne _ (by omega), q2]
    simp -failIfUnchanged (disch := first | assumption | omega | (refine room_i _ _ ?_ ?_ <;> omega) | (refine @_root_.id _ ?_; with_unfolding_all exact Eq.refl _) | (simp only [List.length_take, List.length_drop, List.length_append, List.length_cons, List.length_nil, List.length_replicate, List.length_map] <;> omega) | fail) only [rnL, opL, ruL, hpL, rsL, natL, outL, Nat.add_sub_cancel_left, Nat.mul_one, List.length_cons, List.length_nil, Nat.zero_add, Nat.add_zero, Nat.reduceAdd, Nat.reduceMul, Nat.reduceSub, Nat.reduceEqDiff, Nat.reduceLT, Nat.reduceLeDiff, litd_t, litd_f, decide_true, decide_false, Bool.not_true, Bool.not_false, not_true_eq_false, not_false_eq_true, true_and, and_true, false_and, and_false, true_or, or_true, false_or, or_false, Int.toNat_natCast, cond_true, cond_false, List.map_cons, List.map_nil, Option.map_some, Option.map_none, q4, bo13]
    exact fin_op (w := .imm true 0 0 (some 0) []) (.inr rfl) (by simp only [opA, oK, oKey, oN, if_neg h1, if_neg h2, if_pos h3]; rfl) hl (by rw [hset_len]; exact q1) (by rfl) (hat_hset_eq _ (hat_some k1)) (fun j a b => (hat_hset_ne _ (Ne.symm b)).trans (q3 j a b)) (by unfold oS; rw [if_neg h1, if_neg h2, if_pos h3]) (by unfold oL; rw [if_neg h1, if_neg h2]; exact Row.nil) (fun _ _ => rfl)
  have q5 := hat_endh H k (.cells [.int .u64 (bS 8 st)]) (.cells o0)
  have q3 : ∀ j, j < H.length → j ≠ k → hat (hset H k (.cells [.int .u64 (bS 8 st)]) ++ [.cells o0]) j = hat H j := fun j a b => by rw [hat_app_lt (by rw [hset_len]; exact a), hat_hset_ne _ (Ne.symm b)]
  simp -failIfUnchanged (disch := first | assumption | omega | (refine room_i _ _ ?_ ?_ <;> omega) | (refine @_root_.id _ ?_; with_unfolding_all exact Eq.refl _) | (simp only [List.length_take, List.length_drop, List.length_append, List.length_cons, List.length_nil, List.length_replicate, List.length_map] <;> omega) | fail) only [rnL, opL, ruL, hpL, rsL, natL, outL, Nat.add_sub_cancel_left, Nat.mul_one, List.length_cons, List.length_nil, Nat.zero_add, Nat.add_zero, Nat.reduceAdd, Nat.reduceMul, Nat.reduceSub, Nat.reduceEqDiff, Nat.reduceLT, Nat.reduceLeDiff, litd_t, litd_f, decide_true, decide_false, Bool.not_true, Bool.not_false, not_true_eq_false, not_false_eq_true, true_and, and_true, false_and, and_false, true_or, or_true, false_or, or_false, Int.toNat_natCast, cond_true, cond_false, List.map_cons, List.map_nil, Option.map_some, Option.map_none]
  (first | refine RunB_i (fun h4 => ?_) (fun h4 => ?_) | refine RunG_i (fun h4 => ?_) (fun h4 => ?_) | refine RunB_ib (fun h4 => ?_) (fun h4 => ?_))
  · simp -failIfUnchanged (disch := first | assumption | omega | (refine room_i _ _ ?_ ?_ <;> omega) | (refine @_root_.id _ ?_; with_unfolding_all exact Eq.refl _) | (simp only [List.length_take, List.length_drop, List.length_append, List.length_cons, List.length_nil, List.length_replicate, List.length_map] <;> omega) | fail) only [rnL, opL, ruL, hpL, rsL, natL, outL, Nat.add_sub_cancel_left, Nat.mul_one, List.length_cons, List.length_nil, Nat.zero_add, Nat.add_zero, Nat.reduceAdd, Nat.reduceMul, Nat.reduceSub, Nat.reduceEqDiff, Nat.reduceLT, Nat.reduceLeDiff, litd_t, litd_f, decide_true, decide_false, Bool.not_true, Bool.not_false, not_true_eq_false, not_false_eq_true, true_and, and_true, false_and, and_false, true_or, or_true, false_or, or_false, Int.toNat_natCast, cond_true, cond_false, List.map_cons, List.map_nil, Option.map_some, Option.map_none, q5, bo0]
    exact fin_op (w := .imm true 0 0 (some 0) []) (.inr rfl) (by simp only [opA, oK, oKey, oN, if_neg h1, if_neg h2, if_neg h3, if_pos h4]; rfl) hl (by simp [hset_len]) (by rfl) (hk2 _) q3 (by unfold oS; rw [if_neg h1, if_neg h2, if_neg h3]) (by unfold oL; rw [if_neg h1, if_neg h2]; exact Row.nil) (fun _ _ => rfl)
  · simp -failIfUnchanged (disch := first | assumption | omega | (refine room_i _ _ ?_ ?_ <;> omega) | (refine @_root_.id _ ?_; with_unfolding_all exact Eq.refl _) | (simp only [List.length_take, List.length_drop, List.length_append, List.length_cons, List.length_nil, List.length_replicate, List.length_map] <;> omega) | fail) only [rnL, opL, ruL, hpL, rsL, natL, outL, Nat.add_sub_cancel_left, Nat.mul_one, List.length_cons, List.length_nil, Nat.zero_add, Nat.add_zero, Nat.reduceAdd, Nat.reduceMul, Nat.reduceSub, Nat.reduceEqDiff, Nat.reduceLT, Nat.reduceLeDiff, litd_t, litd_f, decide_true, decide_false, Bool.not_true, Bool.not_false, not_true_eq_false, not_false_eq_true, true_and, and_true, false_and, and_false, true_or, or_true, false_or, or_false, Int.toNat_natCast, cond_true, cond_false, List.map_cons, List.map_nil, Option.map_some, Option.map_none, q5, bo3]
    exact fin_op (w := .imm true 0 0 (some 0) []) (.inr rfl) (by simp only [opA, oK, oKey, oN, if_neg h1, if_neg h2, if_neg h3, if_neg h4]; rfl) hl (by simp [hset_len]) (by rfl) (hk2 _) q3 (by unfold oS; rw [if_neg h1, if_neg h2, if_neg h3]) (by unfold oL; rw [if_neg h1, if_neg h2]; exact Row.nil) (fun _ _ => rfl)
end Go.AS.Sd

namespace Go.AS.Sd
open Go Go.AS Go.Proofs
set_option maxHeartbeats 2000000
set_option maxRecDepth 8000
theorem rowOne {α : Type} [Cel α] {nl : Bool} {H : Heap} {w : AV} {l : List α} (h : Row nl H w l) : cellsOf w = some [w] := by rcases h with ⟨_, rfl⟩ | ⟨id, h1, h2, rfl, h4⟩ <;> rfl
theorem opV_slots0 {H : Heap} : opV H (.slots 0) = some (.undef, H) := by simp [opV, evOp, ok]
theorem op_p {H : Heap} {S : Stack} {k : Nat} {st : Int} (hk : hat H k = .cells [.int .u64 st]) : ∃ v S', Rets F (.func (.func 27) [] []) [.ptr k 1 0] (H :: S) v S' ∧ OpP k H S st v S' := by
  have hl := hat_some hk
  refine Rets.memX (funs := F) (fi := []) (ca := []) fn_seed_Source_Op rfl rfl ?_
  simp only [ir_seed_Source_Op, List.nil_append, List.cons_append]
  have hk1 : ∀ o, hat (H ++ [o]) k = .cells [.int .u64 st] := fun o => (hat_app_lt hl).trans hk
  simp -failIfUnchanged (disch := first | assumption | omega | (refine room_i _ _ ?_ ?_ <;> omega) | (refine @_root_.id _ ?_; with_unfolding_all exact Eq.refl _) | (simp only [List.length_take, List.length_drop, List.length_append, List.length_cons, List.length_nil, List.length_replicate, List.length_map] <;> omega) | fail) only [rnL, opL, ruL, hpL, rsL, natL, outL, Nat.add_sub_cancel_left, Nat.mul_one, List.length_cons, List.length_nil, Nat.zero_add, Nat.add_zero, Nat.reduceAdd, Nat.reduceMul, Nat.reduceSub, Nat.reduceEqDiff, Nat.reduceLT, Nat.reduceLeDiff, litd_t, litd_f, decide_true, decide_false, Bool.not_true, Bool.not_false, not_true_eq_false, not_false_eq_true, true_and, and_true, false_and, and_false, true_or, or_true, false_or, or_false, Int.toNat_natCast, cond_true, cond_false, List.map_cons, List.map_nil, Option.map_some, Option.map_none, eqn_ptr]
  refine RunC_r (below_p (hk1 _) (by omega)) ?_
  simp -failIfUnchanged (disch := first | assumption | omega | (refine room_i _ _ ?_ ?_ <;> omega) | (refine @_root_.id _ ?_; with_unfolding_all exact Eq.refl _) | (simp only [List.length_take, List.length_drop, List.length_append, List.length_cons, List.length_nil, List.length_replicate, List.length_map] <;> omega) | fail) only [rnL, opL, ruL, hpL, rsL, natL, outL, Nat.add_sub_cancel_left, Nat.mul_one, List.length_cons, List.length_nil, Nat.zero_add, Nat.add_zero, Nat.reduceAdd, Nat.reduceMul, Nat.reduceSub, Nat.reduceEqDiff, Nat.reduceLT, Nat.reduceLeDiff, litd_t, litd_f, decide_true, decide_false, Bool.not_true, Bool.not_false, not_true_eq_false, not_false_eq_true, true_and, and_true, false_and, and_false, true_or, or_true, false_or, or_false, Int.toNat_natCast, cond_true, cond_false, List.map_cons, List.map_nil, Option.map_some, Option.map_none, hset_app_lt hl]
  have hk2 : ∀ o, hat (hset H k (.cells [.int .u64 (bS 8 st)]) ++ [o]) k = .cells [.int .u64 (bS 8 st)] := fun o => by
    rw [hat_app_lt (by rw [hset_len]; exact hl), hat_hset_eq _ hl]
  have b1 := bV_nn 8 st
  have b2 := bV_lt 8 st (by omega)
  (first | refine RunB_i (fun g0 => ?_) (fun g0 => ?_) | refine RunG_i (fun g0 => ?_) (fun g0 => ?_) | refine RunB_ib (fun g0 => ?_) (fun g0 => ?_))
  · simp -failIfUnchanged (disch := first | assumption | omega | (refine room_i _ _ ?_ ?_ <;> omega) | (refine @_root_.id _ ?_; with_unfolding_all exact Eq.refl _) | (simp only [List.length_take, List.length_drop, List.length_append, List.length_cons, List.length_nil, List.length_replicate, List.length_map] <;> omega) | fail) only [rnL, opL, ruL, hpL, rsL, natL, outL, Nat.add_sub_cancel_left, Nat.mul_one, List.length_cons, List.length_nil, Nat.zero_add, Nat.add_zero, Nat.reduceAdd, Nat.reduceMul, Nat.reduceSub, Nat.reduceEqDiff, Nat.reduceLT, Nat.reduceLeDiff, litd_t, litd_f, decide_true, decide_false, Bool.not_true, Bool.not_false, not_true_eq_false, not_false_eq_true, true_and, and_true, false_and, and_false, true_or, or_true, false_or, or_false, Int.toNat_natCast, cond_true, cond_false, List.map_cons, List.map_nil, Option.map_some, Option.map_none]
    obtain ⟨H1, r1, k1, p1⟩ := key_p 4 2 (hset H k (.cells [.int .u64 (bS 8 st)]) ++ [.cells o0]) S k _ (hk2 _)
    obtain ⟨q1, q2, q3⟩ := kp_old p1
    have q2 := q2 hl
    have h1 : bV 8 st < 2 := by omega
    simp -failIfUnchanged (disch := first | assumption | omega | (refine room_i _ _ ?_ ?_ <;> omega) | (refine @_root_.id _ ?_; with_unfolding_all exact Eq.refl _) | (simp only [List.length_take, List.length_drop, List.length_append, List.length_cons, List.length_nil, List.length_replicate, List.length_map] <;> omega) | fail) only [rnL, opL, ruL, hpL, rsL, natL, outL, Nat.add_sub_cancel_left, Nat.mul_one, List.length_cons, List.length_nil, Nat.zero_add, Nat.add_zero, Nat.reduceAdd, Nat.reduceMul, Nat.reduceSub, Nat.reduceEqDiff, Nat.reduceLT, Nat.reduceLeDiff, litd_t, litd_f, decide_true, decide_false, Bool.not_true, Bool.not_false, not_true_eq_false, not_false_eq_true, true_and, and_true, false_and, and_false, true_or, or_true, false_or, or_false, Int.toNat_natCast, cond_true, cond_false, List.map_cons, List.map_nil, Option.map_some, Option.map_none]
    refine RunC_r r1 ?_
    simp -failIfUnchanged (disch := first | assumption | omega | (refine room_i _ _ ?_ ?_ <;> omega) | (refine @_root_.id _ ?_; with_unfolding_all exact Eq.refl _) | (simp only [List.length_take, List.length_drop, List.length_append, List.length_cons, List.length_nil, List.length_replicate, List.length_map] <;> omega) | fail) only [rnL, opL, ruL, hpL, rsL, natL, outL, Nat.add_sub_cancel_left, Nat.mul_one, List.length_cons, List.length_nil, Nat.zero_add, Nat.add_zero, Nat.reduceAdd, Nat.reduceMul, Nat.reduceSub, Nat.reduceEqDiff, Nat.reduceLT, Nat.reduceLeDiff, litd_t, litd_f, decide_true, decide_false, Bool.not_true, Bool.not_false, not_true_eq_false, not_false_eq_true, true_and, and_true, false_and, and_false, true_or, or_true, false_or, or_false, Int.toNat_natCast, cond_true, cond_false, List.map_cons, List.map_nil, Option.map_some, Option.map_none, q2, bo1]
    exact fin_op (w := .imm true 0 0 (some 0) []) (.inr rfl) (by simp only [opA, oK, oKey, oN, if_pos h1]; rfl) hl q1 (by rfl) k1 q3 (by unfold oS; rw [if_pos h1]) (by unfold oL; rw [if_pos h1]; exact Row.nil) (fun _ _ => rfl)
  simp -failIfUnchanged (disch := first | assumption | omega | (refine room_i _ _ ?_ ?_ <;> omega) | (refine @_root_.id _ ?_; with_unfolding_all exact Eq.refl _) | (simp only [List.length_take, List.length_drop, List.length_append, List.length_cons, List.length_nil, List.length_replicate, List.length_map] <;> omega) | fail) only [rnL, opL, ruL, hpL, rsL, natL, outL, Nat.add_sub_cancel_left, Nat.mul_one, List.length_cons, List.length_nil, Nat.zero_add, Nat.add_zero, Nat.reduceAdd, Nat.reduceMul, Nat.reduceSub, Nat.reduceEqDiff, Nat.reduceLT, Nat.reduceLeDiff, litd_t, litd_f, decide_true, decide_false, Bool.not_true, Bool.not_false, not_true_eq_false, not_false_eq_true, true_and, and_true, false_and, and_false, true_or, or_true, false_or, or_false, Int.toNat_natCast, cond_true, cond_false, List.map_cons, List.map_nil, Option.map_some, Option.map_none]
  (first | refine RunB_i (fun g1 => ?_) (fun g1 => ?_) | refine RunG_i (fun g1 => ?_) (fun g1 => ?_) | refine RunB_ib (fun g1 => ?_) (fun g1 => ?_))
  · simp -failIfUnchanged (disch := first | assumption | omega | (refine room_i _ _ ?_ ?_ <;> omega) | (refine @_root_.id _ ?_; with_unfolding_all exact Eq.refl _) | (simp only [List.length_take, List.length_drop, List.length_append, List.length_cons, List.length_nil, List.length_replicate, List.length_map] <;> omega) | fail) only [rnL, opL, ruL, hpL, rsL, natL, outL, Nat.add_sub_cancel_left, Nat.mul_one, List.length_cons, List.length_nil, Nat.zero_add, Nat.add_zero, Nat.reduceAdd, Nat.reduceMul, Nat.reduceSub, Nat.reduceEqDiff, Nat.reduceLT, Nat.reduceLeDiff, litd_t, litd_f, decide_true, decide_false, Bool.not_true, Bool.not_false, not_true_eq_false, not_false_eq_true, true_and, and_true, false_and, and_false, true_or, or_true, false_or, or_false, Int.toNat_natCast, cond_true, cond_false, List.map_cons, List.map_nil, Option.map_some, Option.map_none]
    obtain ⟨H1, r1, k1, p1⟩ := key_p 4 2 (hset H k (.cells [.int .u64 (bS 8 st)]) ++ [.cells o0]) S k _ (hk2 _)
    obtain ⟨q1, q2, q3⟩ := kp_old p1
    have q2 := q2 hl
    have h1 : bV 8 st < 2 := by omega
    simp -failIfUnchanged (disch := first | assumption | omega | (refine room_i _ _ ?_ ?_ <;> omega) | (refine @_root_.id _ ?_; with_unfolding_all exact Eq.refl _) | (simp only [List.length_take, List.length_drop, List.length_append, List.length_cons, List.length_nil, List.length_replicate, List.length_map] <;> omega) | fail) only [rnL, opL, ruL, hpL, rsL, natL, outL, Nat.add_sub_cancel_left, Nat.mul_one, List.length_cons, List.length_nil, Nat.zero_add, Nat.add_zero, Nat.reduceAdd, Nat.reduceMul, Nat.reduceSub, Nat.reduceEqDiff, Nat.reduceLT, Nat.reduceLeDiff, litd_t, litd_f, decide_true, decide_false, Bool.not_true, Bool.not_false, not_true_eq_false, not_false_eq_true, true_and, and_true, false_and, and_false, true_or, or_true, false_or, or_false, Int.toNat_natCast, cond_true, cond_false, List.map_cons, List.map_nil, Option.map_some, Option.map_none]
    refine RunC_r r1 ?_
    simp -failIfUnchanged (disch := first | assumption | omega | (refine room_i _ _ ?_ ?_ <;> omega) | (refine @_root_.id _ ?_; with_unfolding_all exact Eq.refl _) | (simp only [List.length_take, List.length_drop, List.length_append, List.length_cons, List.length_nil, List.length_replicate, List.length_map] <;> omega) | fail) only [rnL, opL, ruL, hpL, rsL, natL, outL, Nat.add_sub_cancel_left, Nat.mul_one, List.length_cons, List.length_nil, Nat.zero_add, Nat.add_zero, Nat.reduceAdd, Nat.reduceMul, Nat.reduceSub, Nat.reduceEqDiff, Nat.reduceLT, Nat.reduceLeDiff, litd_t, litd_f, decide_true, decide_false, Bool.not_true, Bool.not_false, not_true_eq_false, not_false_eq_true, true_and, and_true, false_and, and_false, true_or, or_true, false_or, or_false, Int.toNat_natCast, cond_true, cond_false, List.map_cons, List.map_nil, Option.map_some, Option.map_none, q2, bo1]
    exact fin_op (w := .imm true 0 0 (some 0) []) (.inr rfl) (by simp only [opA, oK, oKey, oN, if_pos h1]; rfl) hl q1 (by rfl) k1 q3 (by unfold oS; rw [if_pos h1]) (by unfold oL; rw [if_pos h1]; exact Row.nil) (fun _ _ => rfl)
  simp -failIfUnchanged (disch := first | assumption | omega | (refine room_i _ _ ?_ ?_ <;> omega) | (refine @_root_.id _ ?_; with_unfolding_all exact Eq.refl _) | (simp only [List.length_take, List.length_drop, List.length_append, List.length_cons, List.length_nil, List.length_replicate, List.length_map] <;> omega) | fail) only [rnL, opL, ruL, hpL, rsL, natL, outL, Nat.add_sub_cancel_left, Nat.mul_one, List.length_cons, List.length_nil, Nat.zero_add, Nat.add_zero, Nat.reduceAdd, Nat.reduceMul, Nat.reduceSub, Nat.reduceEqDiff, Nat.reduceLT, Nat.reduceLeDiff, litd_t, litd_f, decide_true, decide_false, Bool.not_true, Bool.not_false, not_true_eq_false, not_false_eq_true, true_and, and_true, false_and, and_false, true_or, or_true, false_or, or_false, Int.toNat_natCast, cond_true, cond_false, List.map_cons, List.map_nil, Option.map_some, Option.map_none]
  obtain ⟨X, hX⟩ : ∃ X, X = hset H k (.cells [.int .u64 (bS 8 st)]) ++ [.cells o0] := ⟨_, rfl⟩
  have x1 : hat X k = .cells [.int .u64 (bS 8 st)] := by rw [hX]; exact hk2 _
  have x2 : X.length = H.length + 1 := by rw [hX]; simp [hset_len]
  have x3 : hat X H.length = .cells o0 := by rw [hX]; exact hat_endh _ _ _ _
  have x4 : ∀ j, j < H.length → j ≠ k → hat X j = hat H j := fun j a b => by rw [hX, hat_app_lt (by rw [hset_len]; exact a), hat_hset_ne _ (Ne.symm b)]
  rw [← hX]
  (first | refine RunB_i (fun g2 => ?_) (fun g2 => ?_) | refine RunG_i (fun g2 => ?_) (fun g2 => ?_) | refine RunB_ib (fun g2 => ?_) (fun g2 => ?_))
  · simp -failIfUnchanged (disch := first | assumption | omega | (refine room_i _ _ ?_ ?_ <;> omega) | (refine @_root_.id _ ?_; with_unfolding_all exact Eq.refl _) | (simp only [List.length_take, List.length_drop, List.length_append, List.length_cons, List.length_nil, List.length_replicate, List.length_map] <;> omega) | fail) only [rnL, opL, ruL, hpL, rsL, natL, outL, Nat.add_sub_cancel_left, Nat.mul_one, List.length_cons, List.length_nil, Nat.zero_add, Nat.add_zero, Nat.reduceAdd, Nat.reduceMul, Nat.reduceSub, Nat.reduceEqDiff, Nat.reduceLT, Nat.reduceLeDiff, litd_t, litd_f, decide_true, decide_false, Bool.not_true, Bool.not_false, not_true_eq_false, not_false_eq_true, true_and, and_true, false_and, and_false, true_or, or_true, false_or, or_false, Int.toNat_natCast, cond_true, cond_false, List.map_cons, List.map_nil, Option.map_some, Option.map_none, bo0, hxL]
    have y0 : ∀ o, hat (X ++ [o]) k = .cells [.int .u64 (bS 8 st)] := fun o => (hat_app_lt (by omega)).trans x1
    have h1 : ¬ bV 8 st < 2 := by omega
    have h2 : bV 8 st < 5 := by omega
    refine RunC_r (below_p (y0 _) (by omega)) ?_
    have xl : k < X.length := by omega
    obtain ⟨n1, n2, n3⟩ := oM_b (bS 8 st)
    simp -failIfUnchanged (disch := first | assumption | omega | (refine room_i _ _ ?_ ?_ <;> omega) | (refine @_root_.id _ ?_; with_unfolding_all exact Eq.refl _) | (simp only [List.length_take, List.length_drop, List.length_append, List.length_cons, List.length_nil, List.length_replicate, List.length_map] <;> omega) | fail) only [rnL, opL, ruL, hpL, rsL, natL, outL, Nat.add_sub_cancel_left, Nat.mul_one, List.length_cons, List.length_nil, Nat.zero_add, Nat.add_zero, Nat.reduceAdd, Nat.reduceMul, Nat.reduceSub, Nat.reduceEqDiff, Nat.reduceLT, Nat.reduceLeDiff, litd_t, litd_f, decide_true, decide_false, Bool.not_true, Bool.not_false, not_true_eq_false, not_false_eq_true, true_and, and_true, false_and, and_false, true_or, or_true, false_or, or_false, Int.toNat_natCast, cond_true, cond_false, List.map_cons, List.map_nil, Option.map_some, Option.map_none, hset_app_lt xl, ← n3]
    refine Run_loop (σ := Nat × Heap × AV) (fun σ => [(0, .ptr k 1 0), (2, .ptr H.length 5 0), (3, .ptr X.length 5 0), (6, .bool false), (9, .int .i64 (bV 8 st)), (10, .bool false), (16, .bool true), (23, .int .i64 (oM (bS 8 st) : Nat)), (24, .int .i64 (σ.1 : Nat))])
      (fun σ => σ.2.1 :: S) (fun σ => σ.1 ≤ oM (bS 8 st) ∧ hat σ.2.1 k = .cells [.int .u64 (msF (bS 3 (bS 8 st)) σ.1)] ∧ hat σ.2.1 H.length = .cells o0 ∧ X.length < σ.2.1.length ∧ (∀ j, j < H.length → j ≠ k → hat σ.2.1 j = hat H j) ∧ Row true σ.2.1 σ.2.2 (mLF (bS 3 (bS 8 st)) σ.1) ∧ (∀ j, j ≤ X.length → isAt σ.2.2 j = false) ∧ hat σ.2.1 X.length = .cells [.int .u8 2, .str [], .str [], .int .i64 0, σ.2.2])
      (fun σ => oM (bS 8 st) - σ.1) (0, _, .imm true 0 0 (some 0) []) ?_ rfl ⟨Nat.zero_le _, hat_kq xl, ?_, by simp [hset_len], fun j a b => ?_, Row.nil, fun _ _ => rfl, hat_endh _ _ _ _⟩ ?_
    · rfl
    · rw [hat_app_lt (by rw [hset_len]; omega), hat_hset_ne _ (by omega), x3]
    · rw [hat_app_lt (by rw [hset_len]; omega), hat_hset_ne _ (Ne.symm b), x4 j a b]
    rintro ⟨i, G, w⟩ ⟨hi, g1, g2, g3, g4, g5, g6, g7⟩
    simp only at hi g1 g2 g3 g4 g5 g6 g7
    simp -failIfUnchanged (disch := first | assumption | omega | (refine room_i _ _ ?_ ?_ <;> omega) | (refine @_root_.id _ ?_; with_unfolding_all exact Eq.refl _) | (simp only [List.length_take, List.length_drop, List.length_append, List.length_cons, List.length_nil, List.length_replicate, List.length_map] <;> omega) | fail) only [rnL, opL, ruL, hpL, rsL, natL, outL, Nat.add_sub_cancel_left, Nat.mul_one, List.length_cons, List.length_nil, Nat.zero_add, Nat.add_zero, Nat.reduceAdd, Nat.reduceMul, Nat.reduceSub, Nat.reduceEqDiff, Nat.reduceLT, Nat.reduceLeDiff, litd_t, litd_f, decide_true, decide_false, Bool.not_true, Bool.not_false, not_true_eq_false, not_false_eq_true, true_and, and_true, false_and, and_false, true_or, or_true, false_or, or_false, Int.toNat_natCast, cond_true, cond_false, List.map_cons, List.map_nil, Option.map_some, Option.map_none]
    (first | refine RunB_i (fun h3 => ?_) (fun h3 => ?_) | refine RunG_i (fun h3 => ?_) (fun h3 => ?_) | refine RunB_ib (fun h3 => ?_) (fun h3 => ?_))
    · obtain ⟨G1, r1, k1, p1⟩ := msg_p G S k _ g1
      have g8 := g6 k (Nat.le_of_lt xl)
      have hR := Row.kp g5 p1 g8
      have hml := mLF_len (bS 3 (bS 8 st)) i
      have k2 : hat G1 X.length = .cells [.int .u8 2, .str [], .str [], .int .i64 0, w] := (p1.at_ _ g3 (by omega)).trans g7
      obtain ⟨w', G2, ha, hR2, hK⟩ := Row.append (es := 6) (bytes := 72) (mV (msF (bS 3 (bS 8 st)) i)) hR rfl rfl (by refine room_i _ _ ?_ ?_ <;> omega)
      have k3 : hat G2 X.length = .cells [.int .u8 2, .str [], .str [], .int .i64 0, w] := (hK.same _ (Nat.lt_of_lt_of_le g3 p1.len) (g6 _ (Nat.le_refl _))).trans k2
      have hw1 := rowOne g5
      have hw2 := rowOne hR2
      simp -failIfUnchanged (disch := first | assumption | omega | (refine room_i _ _ ?_ ?_ <;> omega) | (refine @_root_.id _ ?_; with_unfolding_all exact Eq.refl _) | (simp only [List.length_take, List.length_drop, List.length_append, List.length_cons, List.length_nil, List.length_replicate, List.length_map] <;> omega) | fail) only [rnL, opL, ruL, hpL, rsL, natL, outL, Nat.add_sub_cancel_left, Nat.mul_one, List.length_cons, List.length_nil, Nat.zero_add, Nat.add_zero, Nat.reduceAdd, Nat.reduceMul, Nat.reduceSub, Nat.reduceEqDiff, Nat.reduceLT, Nat.reduceLeDiff, litd_t, litd_f, decide_true, decide_false, Bool.not_true, Bool.not_false, not_true_eq_false, not_false_eq_true, true_and, and_true, false_and, and_false, true_or, or_true, false_or, or_false, Int.toNat_natCast, cond_true, cond_false, List.map_cons, List.map_nil, Option.map_some, Option.map_none, opV_slots0]
      refine Run_multi (e1 := [(0, .ptr k 1 0), (2, .ptr H.length 5 0), (3, .ptr X.length 5 0), (6, .bool false), (9, .int .i64 (bV 8 st)), (10, .bool false), (16, .bool true), (23, .int .i64 (oM (bS 8 st) : Nat)), (24, .int .i64 (i : Nat)), (25, .bool true), (26, .ptr X.length 5 4), (27, w), (28, .ptr k 1 0), (29, .agg (Cel.enc (mV (msF (bS 3 (bS 8 st)) i)))), (30, .imm false 6 1 (some 1) (Cel.enc (mV (msF (bS 3 (bS 8 st)) i)))), (31, w'), (32, .ptr X.length 5 4)])
        (S1 := hset G2 X.length (.cells [.int .u8 2, .str [], .str [], .int .i64 0, w']) :: S) ?_ ?_ ?_
      · intro h; cases h
      · simp only [List.mem_cons, List.not_mem_nil, or_false, forall_eq_or_imp, forall_eq]
        constructor
        · simp only [List.map_cons, List.map_nil, absO, absP]
          simp -failIfUnchanged (disch := first | assumption | omega | (refine room_i _ _ ?_ ?_ <;> omega) | (refine @_root_.id _ ?_; with_unfolding_all exact Eq.refl _) | (simp only [List.length_take, List.length_drop, List.length_append, List.length_cons, List.length_nil, List.length_replicate, List.length_map] <;> omega) | fail) only [rnL, opL, ruL, hpL, rsL, natL, outL, Nat.add_sub_cancel_left, Nat.mul_one, List.length_cons, List.length_nil, Nat.zero_add, Nat.add_zero, Nat.reduceAdd, Nat.reduceMul, Nat.reduceSub, Nat.reduceEqDiff, Nat.reduceLT, Nat.reduceLeDiff, litd_t, litd_f, decide_true, decide_false, Bool.not_true, Bool.not_false, not_true_eq_false, not_false_eq_true, true_and, and_true, false_and, and_false, true_or, or_true, false_or, or_false, Int.toNat_natCast, cond_true, cond_false, List.map_cons, List.map_nil, Option.map_some, Option.map_none, g7, hw1]
          refine RunC_r r1 ?_
          simp -failIfUnchanged (disch := first | assumption | omega | (refine room_i _ _ ?_ ?_ <;> omega) | (refine @_root_.id _ ?_; with_unfolding_all exact Eq.refl _) | (simp only [List.length_take, List.length_drop, List.length_append, List.length_cons, List.length_nil, List.length_replicate, List.length_map] <;> omega) | fail) only [rnL, opL, ruL, hpL, rsL, natL, outL, Nat.add_sub_cancel_left, Nat.mul_one, List.length_cons, List.length_nil, Nat.zero_add, Nat.add_zero, Nat.reduceAdd, Nat.reduceMul, Nat.reduceSub, Nat.reduceEqDiff, Nat.reduceLT, Nat.reduceLeDiff, litd_t, litd_f, decide_true, decide_false, Bool.not_true, Bool.not_false, not_true_eq_false, not_false_eq_true, true_and, and_true, false_and, and_false, true_or, or_true, false_or, or_false, Int.toNat_natCast, cond_true, cond_false, List.map_cons, List.map_nil, Option.map_some, Option.map_none, ha, k3, hw2]
          first | done | rfl | exact ⟨rfl, rfl⟩
        · simp only [List.map_cons, List.map_nil, absO, absP]
          simp -failIfUnchanged (disch := first | assumption | omega | (refine room_i _ _ ?_ ?_ <;> omega) | (refine @_root_.id _ ?_; with_unfolding_all exact Eq.refl _) | (simp only [List.length_take, List.length_drop, List.length_append, List.length_cons, List.length_nil, List.length_replicate, List.length_map] <;> omega) | fail) only [rnL, opL, ruL, hpL, rsL, natL, outL, Nat.add_sub_cancel_left, Nat.mul_one, List.length_cons, List.length_nil, Nat.zero_add, Nat.add_zero, Nat.reduceAdd, Nat.reduceMul, Nat.reduceSub, Nat.reduceEqDiff, Nat.reduceLT, Nat.reduceLeDiff, litd_t, litd_f, decide_true, decide_false, Bool.not_true, Bool.not_false, not_true_eq_false, not_false_eq_true, true_and, and_true, false_and, and_false, true_or, or_true, false_or, or_false, Int.toNat_natCast, cond_true, cond_false, List.map_cons, List.map_nil, Option.map_some, Option.map_none, g7, hw1]
          refine RunC_r r1 ?_
          simp -failIfUnchanged (disch := first | assumption | omega | (refine room_i _ _ ?_ ?_ <;> omega) | (refine @_root_.id _ ?_; with_unfolding_all exact Eq.refl _) | (simp only [List.length_take, List.length_drop, List.length_append, List.length_cons, List.length_nil, List.length_replicate, List.length_map] <;> omega) | fail) only [rnL, opL, ruL, hpL, rsL, natL, outL, Nat.add_sub_cancel_left, Nat.mul_one, List.length_cons, List.length_nil, Nat.zero_add, Nat.add_zero, Nat.reduceAdd, Nat.reduceMul, Nat.reduceSub, Nat.reduceEqDiff, Nat.reduceLT, Nat.reduceLeDiff, litd_t, litd_f, decide_true, decide_false, Bool.not_true, Bool.not_false, not_true_eq_false, not_false_eq_true, true_and, and_true, false_and, and_false, true_or, or_true, false_or, or_false, Int.toNat_natCast, cond_true, cond_false, List.map_cons, List.map_nil, Option.map_some, Option.map_none, ha, k2, k3, hw1, hw2]
          first | done | rfl | exact ⟨rfl, rfl⟩
      · simp -failIfUnchanged (disch := first | assumption | omega | (refine room_i _ _ ?_ ?_ <;> omega) | (refine @_root_.id _ ?_; with_unfolding_all exact Eq.refl _) | (simp only [List.length_take, List.length_drop, List.length_append, List.length_cons, List.length_nil, List.length_replicate, List.length_map] <;> omega) | fail) only [rnL, opL, ruL, hpL, rsL, natL, outL, Nat.add_sub_cancel_left, Nat.mul_one, List.length_cons, List.length_nil, Nat.zero_add, Nat.add_zero, Nat.reduceAdd, Nat.reduceMul, Nat.reduceSub, Nat.reduceEqDiff, Nat.reduceLT, Nat.reduceLeDiff, litd_t, litd_f, decide_true, decide_false, Bool.not_true, Bool.not_false, not_true_eq_false, not_false_eq_true, true_and, and_true, false_and, and_false, true_or, or_true, false_or, or_false, Int.toNat_natCast, cond_true, cond_false, List.map_cons, List.map_nil, Option.map_some, Option.map_none]
        have l1 : X.length < G2.length := by have := p1.len; have := hK.len; omega
        refine Next.i (i + 1, hset G2 X.length (.cells [.int .u8 2, .str [], .str [], .int .i64 0, w']), w') ?_ rfl ⟨by show i + 1 ≤ _; omega, ?_, ?_, ?_, fun j a b => ?_, ?_, fun j a => ?_, hat_hset_eq _ l1⟩ (by show oM (bS 8 st) - (i + 1) < oM (bS 8 st) - i; omega)
        · simp -failIfUnchanged (disch := first | assumption | omega | (refine room_i _ _ ?_ ?_ <;> omega) | (refine @_root_.id _ ?_; with_unfolding_all exact Eq.refl _) | (simp only [List.length_take, List.length_drop, List.length_append, List.length_cons, List.length_nil, List.length_replicate, List.length_map] <;> omega) | fail) only [rnL, opL, ruL, hpL, rsL, natL, outL, Nat.add_sub_cancel_left, Nat.mul_one, List.length_cons, List.length_nil, Nat.zero_add, Nat.add_zero, Nat.reduceAdd, Nat.reduceMul, Nat.reduceSub, Nat.reduceEqDiff, Nat.reduceLT, Nat.reduceLeDiff, litd_t, litd_f, decide_true, decide_false, Bool.not_true, Bool.not_false, not_true_eq_false, not_false_eq_true, true_and, and_true, false_and, and_false, true_or, or_true, false_or, or_false, Int.toNat_natCast, cond_true, cond_false, List.map_cons, List.map_nil, Option.map_some, Option.map_none]
        · show hat (hset G2 _ _) k = _
          rw [hat_hset_ne _ (by omega), hK.same k (hat_some k1) g8, k1]; rfl
        · show hat (hset G2 _ _) H.length = _
          rw [hat_hset_ne _ (by omega), hK.same _ (by have := p1.len; omega) (g6 _ (by omega)), p1.at_ _ (by omega) (by omega), g2]
        · show X.length < (hset G2 _ _).length
          rw [hset_len]; exact l1
        · show hat (hset G2 _ _) j = _
          rw [hat_hset_ne _ (by omega), hK.same j (by have := p1.len; omega) (g6 j (by omega)), p1.at_ j (by omega) b, g4 j a b]
        · exact hR2.hset (hK.at_ _ (by have := p1.len; omega) (g6 _ (Nat.le_refl _)))
        · exact hK.at_ j (by have := p1.len; omega) (g6 j a)
    · have hi2 : i = oM (bS 8 st) := by omega
      subst hi2
      have hml := mLF_len (bS 3 (bS 8 st)) (oM (bS 8 st))
      have hone : one (some 5) [.int .u8 2, .str [], .str [], .int .i64 0, w] 0 = some (.agg [.int .u8 2, .str [], .str [], .int .i64 0, w]) := rfl
      simp -failIfUnchanged (disch := first | assumption | omega | (refine room_i _ _ ?_ ?_ <;> omega) | (refine @_root_.id _ ?_; with_unfolding_all exact Eq.refl _) | (simp only [List.length_take, List.length_drop, List.length_append, List.length_cons, List.length_nil, List.length_replicate, List.length_map] <;> omega) | fail) only [rnL, opL, ruL, hpL, rsL, natL, outL, Nat.add_sub_cancel_left, Nat.mul_one, List.length_cons, List.length_nil, Nat.zero_add, Nat.add_zero, Nat.reduceAdd, Nat.reduceMul, Nat.reduceSub, Nat.reduceEqDiff, Nat.reduceLT, Nat.reduceLeDiff, litd_t, litd_f, decide_true, decide_false, Bool.not_true, Bool.not_false, not_true_eq_false, not_false_eq_true, true_and, and_true, false_and, and_false, true_or, or_true, false_or, or_false, Int.toNat_natCast, cond_true, cond_false, List.map_cons, List.map_nil, Option.map_some, Option.map_none, g7, g2, hone]
      have hne : mLF (bS 3 (bS 8 st)) (oM (bS 8 st)) ≠ [] := by intro e; rw [e] at hml; simp at hml; omega
      exact fin_op (w := w) (.inr rfl) (by simp only [opA, oK, oKey, oN, if_neg h1, if_pos h2]; rfl) hl (by omega) (by rfl) g1 g4 (by unfold oS; rw [if_neg h1, if_pos h2]) (by unfold oL; rw [if_neg h1, if_pos h2]; exact g5) (fun j a => g6 j (by omega))
  simp -failIfUnchanged (disch := first | assumption | omega | (refine room_i _ _ ?_ ?_ <;> omega) | (refine @_root_.id _ ?_; with_unfolding_all exact Eq.refl _) | (simp only [List.length_take, List.length_drop, List.length_append, List.length_cons, List.length_nil, List.length_replicate, List.length_map] <;> omega) | fail) only [rnL, opL, ruL, hpL, rsL, natL, outL, Nat.add_sub_cancel_left, Nat.mul_one, List.length_cons, List.length_nil, Nat.zero_add, Nat.add_zero, Nat.reduceAdd, Nat.reduceMul, Nat.reduceSub, Nat.reduceEqDiff, Nat.reduceLT, Nat.reduceLeDiff, litd_t, litd_f, decide_true, decide_false, Bool.not_true, Bool.not_false, not_true_eq_false, not_false_eq_true, true_and, and_true, false_and, and_false, true_or, or_true, false_or, or_false, Int.toNat_natCast, cond_true, cond_false, List.map_cons, List.map_nil, Option.map_some, Option.map_none]
  (first | refine RunB_i (fun g22 => ?_) (fun g22 => ?_) | refine RunG_i (fun g22 => ?_) (fun g22 => ?_) | refine RunB_ib (fun g22 => ?_) (fun g22 => ?_))
  · simp -failIfUnchanged (disch := first | assumption | omega | (refine room_i _ _ ?_ ?_ <;> omega) | (refine @_root_.id _ ?_; with_unfolding_all exact Eq.refl _) | (simp only [List.length_take, List.length_drop, List.length_append, List.length_cons, List.length_nil, List.length_replicate, List.length_map] <;> omega) | fail) only [rnL, opL, ruL, hpL, rsL, natL, outL, Nat.add_sub_cancel_left, Nat.mul_one, List.length_cons, List.length_nil, Nat.zero_add, Nat.add_zero, Nat.reduceAdd, Nat.reduceMul, Nat.reduceSub, Nat.reduceEqDiff, Nat.reduceLT, Nat.reduceLeDiff, litd_t, litd_f, decide_true, decide_false, Bool.not_true, Bool.not_false, not_true_eq_false, not_false_eq_true, true_and, and_true, false_and, and_false, true_or, or_true, false_or, or_false, Int.toNat_natCast, cond_true, cond_false, List.map_cons, List.map_nil, Option.map_some, Option.map_none, bo0, hxL]
    have y0 : ∀ o, hat (X ++ [o]) k = .cells [.int .u64 (bS 8 st)] := fun o => (hat_app_lt (by omega)).trans x1
    have h1 : ¬ bV 8 st < 2 := by omega
    have h2 : bV 8 st < 5 := by omega
    refine RunC_r (below_p (y0 _) (by omega)) ?_
    have xl : k < X.length := by omega
    obtain ⟨n1, n2, n3⟩ := oM_b (bS 8 st)
    simp -failIfUnchanged (disch := first | assumption | omega | (refine room_i _ _ ?_ ?_ <;> omega) | (refine @_root_.id _ ?_; with_unfolding_all exact Eq.refl _) | (simp only [List.length_take, List.length_drop, List.length_append, List.length_cons, List.length_nil, List.length_replicate, List.length_map] <;> omega) | fail) only [rnL, opL, ruL, hpL, rsL, natL, outL, Nat.add_sub_cancel_left, Nat.mul_one, List.length_cons, List.length_nil, Nat.zero_add, Nat.add_zero, Nat.reduceAdd, Nat.reduceMul, Nat.reduceSub, Nat.reduceEqDiff, Nat.reduceLT, Nat.reduceLeDiff, litd_t, litd_f, decide_true, decide_false, Bool.not_true, Bool.not_false, not_true_eq_false, not_false_eq_true, true_and, and_true, false_and, and_false, true_or, or_true, false_or, or_false, Int.toNat_natCast, cond_true, cond_false, List.map_cons, List.map_nil, Option.map_some, Option.map_none, hset_app_lt xl, ← n3]
    refine Run_loop (σ := Nat × Heap × AV) (fun σ => [(0, .ptr k 1 0), (2, .ptr H.length 5 0), (3, .ptr X.length 5 0), (6, .bool false), (9, .int .i64 (bV 8 st)), (10, .bool false), (16, .bool true), (23, .int .i64 (oM (bS 8 st) : Nat)), (24, .int .i64 (σ.1 : Nat))])
      (fun σ => σ.2.1 :: S) (fun σ => σ.1 ≤ oM (bS 8 st) ∧ hat σ.2.1 k = .cells [.int .u64 (msF (bS 3 (bS 8 st)) σ.1)] ∧ hat σ.2.1 H.length = .cells o0 ∧ X.length < σ.2.1.length ∧ (∀ j, j < H.length → j ≠ k → hat σ.2.1 j = hat H j) ∧ Row true σ.2.1 σ.2.2 (mLF (bS 3 (bS 8 st)) σ.1) ∧ (∀ j, j ≤ X.length → isAt σ.2.2 j = false) ∧ hat σ.2.1 X.length = .cells [.int .u8 2, .str [], .str [], .int .i64 0, σ.2.2])
      (fun σ => oM (bS 8 st) - σ.1) (0, _, .imm true 0 0 (some 0) []) ?_ rfl ⟨Nat.zero_le _, hat_kq xl, ?_, by simp [hset_len], fun j a b => ?_, Row.nil, fun _ _ => rfl, hat_endh _ _ _ _⟩ ?_
    · rfl
    · rw [hat_app_lt (by rw [hset_len]; omega), hat_hset_ne _ (by omega), x3]
    · rw [hat_app_lt (by rw [hset_len]; omega), hat_hset_ne _ (Ne.symm b), x4 j a b]
    rintro ⟨i, G, w⟩ ⟨hi, g1, g2, g3, g4, g5, g6, g7⟩
    simp only at hi g1 g2 g3 g4 g5 g6 g7
    simp -failIfUnchanged (disch := first | assumption | omega | (refine room_i _ _ ?_ ?_ <;> omega) | (refine @_root_.id _ ?_; with_unfolding_all exact Eq.refl _) | (simp only [List.length_take, List.length_drop, List.length_append, List.length_cons, List.length_nil, List.length_replicate, List.length_map] <;> omega) | fail) only [rnL, opL, ruL, hpL, rsL, natL, outL, Nat.add_sub_cancel_left, Nat.mul_one, List.length_cons, List.length_nil, Nat.zero_add, Nat.add_zero, Nat.reduceAdd, Nat.reduceMul, Nat.reduceSub, Nat.reduceEqDiff, Nat.reduceLT, Nat.reduceLeDiff, litd_t, litd_f, decide_true, decide_false, Bool.not_true, Bool.not_false, not_true_eq_false, not_false_eq_true, true_and, and_true, false_and, and_false, true_or, or_true, false_or, or_false, Int.toNat_natCast, cond_true, cond_false, List.map_cons, List.map_nil, Option.map_some, Option.map_none]
    (first | refine RunB_i (fun h3 => ?_) (fun h3 => ?_) | refine RunG_i (fun h3 => ?_) (fun h3 => ?_) | refine RunB_ib (fun h3 => ?_) (fun h3 => ?_))
    · obtain ⟨G1, r1, k1, p1⟩ := msg_p G S k _ g1
      have g8 := g6 k (Nat.le_of_lt xl)
      have hR := Row.kp g5 p1 g8
      have hml := mLF_len (bS 3 (bS 8 st)) i
      have k2 : hat G1 X.length = .cells [.int .u8 2, .str [], .str [], .int .i64 0, w] := (p1.at_ _ g3 (by omega)).trans g7
      obtain ⟨w', G2, ha, hR2, hK⟩ := Row.append (es := 6) (bytes := 72) (mV (msF (bS 3 (bS 8 st)) i)) hR rfl rfl (by refine room_i _ _ ?_ ?_ <;> omega)
      have k3 : hat G2 X.length = .cells [.int .u8 2, .str [], .str [], .int .i64 0, w] := (hK.same _ (Nat.lt_of_lt_of_le g3 p1.len) (g6 _ (Nat.le_refl _))).trans k2
      have hw1 := rowOne g5
      have hw2 := rowOne hR2
      simp -failIfUnchanged (disch := first | assumption | omega | (refine room_i _ _ ?_ ?_ <;> omega) | (refine @_root_.id _ ?_; with_unfolding_all exact Eq.refl _) | (simp only [List.length_take, List.length_drop, List.length_append, List.length_cons, List.length_nil, List.length_replicate, List.length_map] <;> omega) | fail) only [rnL, opL, ruL, hpL, rsL, natL, outL, Nat.add_sub_cancel_left, Nat.mul_one, List.length_cons, List.length_nil, Nat.zero_add, Nat.add_zero, Nat.reduceAdd, Nat.reduceMul, Nat.reduceSub, Nat.reduceEqDiff, Nat.reduceLT, Nat.reduceLeDiff, litd_t, litd_f, decide_true, decide_false, Bool.not_true, Bool.not_false, not_true_eq_false, not_false_eq_true, true_and, and_true, false_and, and_false, true_or, or_true, false_or, or_false, Int.toNat_natCast, cond_true, cond_false, List.map_cons, List.map_nil, Option.map_some, Option.map_none, opV_slots0]
      refine Run_multi (e1 := [(0, .ptr k 1 0), (2, .ptr H.length 5 0), (3, .ptr X.length 5 0), (6, .bool false), (9, .int .i64 (bV 8 st)), (10, .bool false), (16, .bool true), (23, .int .i64 (oM (bS 8 st) : Nat)), (24, .int .i64 (i : Nat)), (25, .bool true), (26, .ptr X.length 5 4), (27, w), (28, .ptr k 1 0), (29, .agg (Cel.enc (mV (msF (bS 3 (bS 8 st)) i)))), (30, .imm false 6 1 (some 1) (Cel.enc (mV (msF (bS 3 (bS 8 st)) i)))), (31, w'), (32, .ptr X.length 5 4)])
        (S1 := hset G2 X.length (.cells [.int .u8 2, .str [], .str [], .int .i64 0, w']) :: S) ?_ ?_ ?_
      · intro h; cases h
      · simp only [List.mem_cons, List.not_mem_nil, or_false, forall_eq_or_imp, forall_eq]
        constructor
        · simp only [List.map_cons, List.map_nil, absO, absP]
          simp -failIfUnchanged (disch := first | assumption | omega | (refine room_i _ _ ?_ ?_ <;> omega) | (refine @_root_.id _ ?_; with_unfolding_all exact Eq.refl _) | (simp only [List.length_take, List.length_drop, List.length_append, List.length_cons, List.length_nil, List.length_replicate, List.length_map] <;> omega) | fail) only [rnL, opL, ruL, hpL, rsL, natL, outL, Nat.add_sub_cancel_left, Nat.mul_one, List.length_cons, List.length_nil, Nat.zero_add, Nat.add_zero, Nat.reduceAdd, Nat.reduceMul, Nat.reduceSub, Nat.reduceEqDiff, Nat.reduceLT, Nat.reduceLeDiff, litd_t, litd_f, decide_true, decide_false, Bool.not_true, Bool.not_false, not_true_eq_false, not_false_eq_true, true_and, and_true, false_and, and_false, true_or, or_true, false_or, or_false, Int.toNat_natCast, cond_true, cond_false, List.map_cons, List.map_nil, Option.map_some, Option.map_none, g7, hw1]
          refine RunC_r r1 ?_
          simp -failIfUnchanged (disch := first | assumption | omega | (refine room_i _ _ ?_ ?_ <;> omega) | (refine @_root_.id _ ?_; with_unfolding_all exact Eq.refl _) | (simp only [List.length_take, List.length_drop, List.length_append, List.length_cons, List.length_nil, List.length_replicate, List.length_map] <;> omega) | fail) only [rnL, opL, ruL, hpL, rsL, natL, outL, Nat.add_sub_cancel_left, Nat.mul_one, List.length_cons, List.length_nil, Nat.zero_add, Nat.add_zero, Nat.reduceAdd, Nat.reduceMul, Nat.reduceSub, Nat.reduceEqDiff, Nat.reduceLT, Nat.reduceLeDiff, litd_t, litd_f, decide_true, decide_false, Bool.not_true, Bool.not_false, not_true_eq_false, not_false_eq_true, true_and, and_true, false_and, and_false, true_or, or_true, false_or, or_false, Int.toNat_natCast, cond_true, cond_false, List.map_cons, List.map_nil, Option.map_some, Option.map_none, ha, k3, hw2]
          first | done | rfl | exact ⟨rfl, rfl⟩
        · simp only [List.map_cons, List.map_nil, absO, absP]
          simp -failIfUnchanged (disch := first | assumption | omega | (refine room_i _ _ ?_ ?_ <;> omega) | (refine @_root_.id _ ?_; with_unfolding_all exact Eq.refl _) | (simp only [List.length_take, List.length_drop, List.length_append, List.length_cons, List.length_nil, List.length_replicate, List.length_map] <;> omega) | fail) only [rnL, opL, ruL, hpL, rsL, natL, outL, Nat.add_sub_cancel_left, Nat.mul_one, List.length_cons, List.length_nil, Nat.zero_add, Nat.add_zero, Nat.reduceAdd, Nat.reduceMul, Nat.reduceSub, Nat.reduceEqDiff, Nat.reduceLT, Nat.reduceLeDiff, litd_t, litd_f, decide_true, decide_false, Bool.not_true, Bool.not_false, not_true_eq_false, not_false_eq_true, true_and, and_true, false_and, and_false, true_or, or_true, false_or, or_false, Int.toNat_natCast, cond_true, cond_false, List.map_cons, List.map_nil, Option.map_some, Option.map_none, g7, hw1]
          refine RunC_r r1 ?_
          simp -failIfUnchanged (disch := first | assumption | omega | (refine room_i _ _ ?_ ?_ <;> omega) | (refine @_root_.id _ ?_; with_unfolding_all exact Eq.refl _) | (simp only [List.length_take, List.length_drop, List.length_append, List.length_cons, List.length_nil, List.length_replicate, List.length_map] <;> omega) | fail) only [rnL, opL, ruL, hpL, rsL, natL, outL, Nat.add_sub_cancel_left, Nat.mul_one, List.length_cons, List.length_nil, Nat.zero_add, Nat.add_zero, Nat.reduceAdd, Nat.reduceMul, Nat.reduceSub, Nat.reduceEqDiff, Nat.reduceLT, Nat.reduceLeDiff, litd_t, litd_f, decide_true, decide_false, Bool.not_true, Bool.not_false, not_true_eq_false, not_false_eq_true, true_and, and_true, false_and, and_false, true_or, or_true, false_or, or_false, Int.toNat_natCast, cond_true, cond_false, List.map_cons, List.map_nil, Option.map_some, Option.map_none, ha, k2, k3, hw1, hw2]
          first | done | rfl | exact ⟨rfl, rfl⟩
      · simp -failIfUnchanged (disch := first | assumption | omega | (refine room_i _ _ ?_ ?_ <;> omega) | (refine @_root_.id _ ?_; with_unfolding_all exact Eq.refl _) | (simp only [List.length_take, List.length_drop, List.length_append, List.length_cons, List.length_nil, List.length_replicate, List.length_map] <;> omega) | fail) only [rnL, opL, ruL, hpL, rsL, natL, outL, Nat.add_sub_cancel_left, Nat.mul_one, List.length_cons, List.length_nil, Nat.zero_add, Nat.add_zero, Nat.reduceAdd, Nat.reduceMul, Nat.reduceSub, Nat.reduceEqDiff, Nat.reduceLT, Nat.reduceLeDiff, litd_t, litd_f, decide_true, decide_false, Bool.not_true, Bool.not_false, not_true_eq_false, not_false_eq_true, true_and, and_true, false_and, and_false, true_or, or_true, false_or, or_false, Int.toNat_natCast, cond_true, cond_false, List.map_cons, List.map_nil, Option.map_some, Option.map_none]
        have l1 : X.length < G2.length := by have := p1.len; have := hK.len; omega
        refine Next.i (i + 1, hset G2 X.length (.cells [.int .u8 2, .str [], .str [], .int .i64 0, w']), w') ?_ rfl ⟨by show i + 1 ≤ _; omega, ?_, ?_, ?_, fun j a b => ?_, ?_, fun j a => ?_, hat_hset_eq _ l1⟩ (by show oM (bS 8 st) - (i + 1) < oM (bS 8 st) - i; omega)
        · simp -failIfUnchanged (disch := first | assumption | omega | (refine room_i _ _ ?_ ?_ <;> omega) | (refine @_root_.id _ ?_; with_unfolding_all exact Eq.refl _) | (simp only [List.length_take, List.length_drop, List.length_append, List.length_cons, List.length_nil, List.length_replicate, List.length_map] <;> omega) | fail) only [rnL, opL, ruL, hpL, rsL, natL, outL, Nat.add_sub_cancel_left, Nat.mul_one, List.length_cons, List.length_nil, Nat.zero_add, Nat.add_zero, Nat.reduceAdd, Nat.reduceMul, Nat.reduceSub, Nat.reduceEqDiff, Nat.reduceLT, Nat.reduceLeDiff, litd_t, litd_f, decide_true, decide_false, Bool.not_true, Bool.not_false, not_true_eq_false, not_false_eq_true, true_and, and_true, false_and, and_false, true_or, or_true, false_or, or_false, Int.toNat_natCast, cond_true, cond_false, List.map_cons, List.map_nil, Option.map_some, Option.map_none]
        · show hat (hset G2 _ _) k = _
          rw [hat_hset_ne _ (by omega), hK.same k (hat_some k1) g8, k1]; rfl
        · show hat (hset G2 _ _) H.length = _
          rw [hat_hset_ne _ (by omega), hK.same _ (by have := p1.len; omega) (g6 _ (by omega)), p1.at_ _ (by omega) (by omega), g2]
        · show X.length < (hset G2 _ _).length
          rw [hset_len]; exact l1
        · show hat (hset G2 _ _) j = _
          rw [hat_hset_ne _ (by omega), hK.same j (by have := p1.len; omega) (g6 j (by omega)), p1.at_ j (by omega) b, g4 j a b]
        · exact hR2.hset (hK.at_ _ (by have := p1.len; omega) (g6 _ (Nat.le_refl _)))
        · exact hK.at_ j (by have := p1.len; omega) (g6 j a)
    · have hi2 : i = oM (bS 8 st) := by omega
      subst hi2
      have hml := mLF_len (bS 3 (bS 8 st)) (oM (bS 8 st))
      have hone : one (some 5) [.int .u8 2, .str [], .str [], .int .i64 0, w] 0 = some (.agg [.int .u8 2, .str [], .str [], .int .i64 0, w]) := rfl
      simp -failIfUnchanged (disch := first | assumption | omega | (refine room_i _ _ ?_ ?_ <;> omega) | (refine @_root_.id _ ?_; with_unfolding_all exact Eq.refl _) | (simp only [List.length_take, List.length_drop, List.length_append, List.length_cons, List.length_nil, List.length_replicate, List.length_map] <;> omega) | fail) only [rnL, opL, ruL, hpL, rsL, natL, outL, Nat.add_sub_cancel_left, Nat.mul_one, List.length_cons, List.length_nil, Nat.zero_add, Nat.add_zero, Nat.reduceAdd, Nat.reduceMul, Nat.reduceSub, Nat.reduceEqDiff, Nat.reduceLT, Nat.reduceLeDiff, litd_t, litd_f, decide_true, decide_false, Bool.not_true, Bool.not_false, not_true_eq_false, not_false_eq_true, true_and, and_true, false_and, and_false, true_or, or_true, false_or, or_false, Int.toNat_natCast, cond_true, cond_false, List.map_cons, List.map_nil, Option.map_some, Option.map_none, g7, g2, hone]
      have hne : mLF (bS 3 (bS 8 st)) (oM (bS 8 st)) ≠ [] := by intro e; rw [e] at hml; simp at hml; omega
      exact fin_op (w := w) (.inr rfl) (by simp only [opA, oK, oKey, oN, if_neg h1, if_pos h2]; rfl) hl (by omega) (by rfl) g1 g4 (by unfold oS; rw [if_neg h1, if_pos h2]) (by unfold oL; rw [if_neg h1, if_pos h2]; exact g5) (fun j a => g6 j (by omega))
  simp -failIfUnchanged (disch := first | assumption | omega | (refine room_i _ _ ?_ ?_ <;> omega) | (refine @_root_.id _ ?_; with_unfolding_all exact Eq.refl _) | (simp only [List.length_take, List.length_drop, List.length_append, List.length_cons, List.length_nil, List.length_replicate, List.length_map] <;> omega) | fail) only [rnL, opL, ruL, hpL, rsL, natL, outL, Nat.add_sub_cancel_left, Nat.mul_one, List.length_cons, List.length_nil, Nat.zero_add, Nat.add_zero, Nat.reduceAdd, Nat.reduceMul, Nat.reduceSub, Nat.reduceEqDiff, Nat.reduceLT, Nat.reduceLeDiff, litd_t, litd_f, decide_true, decide_false, Bool.not_true, Bool.not_false, not_true_eq_false, not_false_eq_true, true_and, and_true, false_and, and_false, true_or, or_true, false_or, or_false, Int.toNat_natCast, cond_true, cond_false, List.map_cons, List.map_nil, Option.map_some, Option.map_none]
  (first | refine RunB_i (fun g23 => ?_) (fun g23 => ?_) | refine RunG_i (fun g23 => ?_) (fun g23 => ?_) | refine RunB_ib (fun g23 => ?_) (fun g23 => ?_))
  · simp -failIfUnchanged (disch := first | assumption | omega | (refine room_i _ _ ?_ ?_ <;> omega) | (refine @_root_.id _ ?_; with_unfolding_all exact Eq.refl _) | (simp only [List.length_take, List.length_drop, List.length_append, List.length_cons, List.length_nil, List.length_replicate, List.length_map] <;> omega) | fail) only [rnL, opL, ruL, hpL, rsL, natL, outL, Nat.add_sub_cancel_left, Nat.mul_one, List.length_cons, List.length_nil, Nat.zero_add, Nat.add_zero, Nat.reduceAdd, Nat.reduceMul, Nat.reduceSub, Nat.reduceEqDiff, Nat.reduceLT, Nat.reduceLeDiff, litd_t, litd_f, decide_true, decide_false, Bool.not_true, Bool.not_false, not_true_eq_false, not_false_eq_true, true_and, and_true, false_and, and_false, true_or, or_true, false_or, or_false, Int.toNat_natCast, cond_true, cond_false, List.map_cons, List.map_nil, Option.map_some, Option.map_none, bo0, hxL]
    have y0 : ∀ o, hat (X ++ [o]) k = .cells [.int .u64 (bS 8 st)] := fun o => (hat_app_lt (by omega)).trans x1
    have h1 : ¬ bV 8 st < 2 := by omega
    have h2 : bV 8 st < 5 := by omega
    refine RunC_r (below_p (y0 _) (by omega)) ?_
    have xl : k < X.length := by omega
    obtain ⟨n1, n2, n3⟩ := oM_b (bS 8 st)
    simp -failIfUnchanged (disch := first | assumption | omega | (refine room_i _ _ ?_ ?_ <;> omega) | (refine @_root_.id _ ?_; with_unfolding_all exact Eq.refl _) | (simp only [List.length_take, List.length_drop, List.length_append, List.length_cons, List.length_nil, List.length_replicate, List.length_map] <;> omega) | fail) only [rnL, opL, ruL, hpL, rsL, natL, outL, Nat.add_sub_cancel_left, Nat.mul_one, List.length_cons, List.length_nil, Nat.zero_add, Nat.add_zero, Nat.reduceAdd, Nat.reduceMul, Nat.reduceSub, Nat.reduceEqDiff, Nat.reduceLT, Nat.reduceLeDiff, litd_t, litd_f, decide_true, decide_false, Bool.not_true, Bool.not_false, not_true_eq_false, not_false_eq_true, true_and, and_true, false_and, and_false, true_or, or_true, false_or, or_false, Int.toNat_natCast, cond_true, cond_false, List.map_cons, List.map_nil, Option.map_some, Option.map_none, hset_app_lt xl, ← n3]
    refine Run_loop (σ := Nat × Heap × AV) (fun σ => [(0, .ptr k 1 0), (2, .ptr H.length 5 0), (3, .ptr X.length 5 0), (6, .bool false), (9, .int .i64 (bV 8 st)), (10, .bool false), (16, .bool true), (23, .int .i64 (oM (bS 8 st) : Nat)), (24, .int .i64 (σ.1 : Nat))])
      (fun σ => σ.2.1 :: S) (fun σ => σ.1 ≤ oM (bS 8 st) ∧ hat σ.2.1 k = .cells [.int .u64 (msF (bS 3 (bS 8 st)) σ.1)] ∧ hat σ.2.1 H.length = .cells o0 ∧ X.length < σ.2.1.length ∧ (∀ j, j < H.length → j ≠ k → hat σ.2.1 j = hat H j) ∧ Row true σ.2.1 σ.2.2 (mLF (bS 3 (bS 8 st)) σ.1) ∧ (∀ j, j ≤ X.length → isAt σ.2.2 j = false) ∧ hat σ.2.1 X.length = .cells [.int .u8 2, .str [], .str [], .int .i64 0, σ.2.2])
      (fun σ => oM (bS 8 st) - σ.1) (0, _, .imm true 0 0 (some 0) []) ?_ rfl ⟨Nat.zero_le _, hat_kq xl, ?_, by simp [hset_len], fun j a b => ?_, Row.nil, fun _ _ => rfl, hat_endh _ _ _ _⟩ ?_
    · rfl
    · rw [hat_app_lt (by rw [hset_len]; omega), hat_hset_ne _ (by omega), x3]
    · rw [hat_app_lt (by rw [hset_len]; omega), hat_hset_ne _ (Ne.symm b), x4 j a b]
    rintro ⟨i, G, w⟩ ⟨hi, g1, g2, g3, g4, g5, g6, g7⟩
    simp only at hi g1 g2 g3 g4 g5 g6 g7
    simp -failIfUnchanged (disch := first | assumption | omega | (refine room_i _ _ ?_ ?_ <;> omega) | (refine @_root_.id _ ?_; with_unfolding_all exact Eq.refl _) | (simp only [List.length_take, List.length_drop, List.length_append, List.length_cons, List.length_nil, List.length_replicate, List.length_map] <;> omega) | fail) only [rnL, opL, ruL, hpL, rsL, natL, outL, Nat.add_sub_cancel_left, Nat.mul_one, List.length_cons, List.length_nil, Nat.zero_add, Nat.add_zero, Nat.reduceAdd, Nat.reduceMul, Nat.reduceSub, Nat.reduceEqDiff, Nat.reduceLT, Nat.reduceLeDiff, litd_t, litd_f, decide_true, decide_false, Bool.not_true, Bool.not_false, not_true_eq_false, not_false_eq_true, true_and, and_true, false_and, and_false, true_or, or_true, false_or, or_false, Int.toNat_natCast, cond_true, cond_false, List.map_cons, List.map_nil, Option.map_some, Option.map_none]
    (first | refine RunB_i (fun h3 => ?_) (fun h3 => ?_) | refine RunG_i (fun h3 => ?_) (fun h3 => ?_) | refine RunB_ib (fun h3 => ?_) (fun h3 => ?_))
    · obtain ⟨G1, r1, k1, p1⟩ := msg_p G S k _ g1
      have g8 := g6 k (Nat.le_of_lt xl)
      have hR := Row.kp g5 p1 g8
      have hml := mLF_len (bS 3 (bS 8 st)) i
      have k2 : hat G1 X.length = .cells [.int .u8 2, .str [], .str [], .int .i64 0, w] := (p1.at_ _ g3 (by omega)).trans g7
      obtain ⟨w', G2, ha, hR2, hK⟩ := Row.append (es := 6) (bytes := 72) (mV (msF (bS 3 (bS 8 st)) i)) hR rfl rfl (by refine room_i _ _ ?_ ?_ <;> omega)
      have k3 : hat G2 X.length = .cells [.int .u8 2, .str [], .str [], .int .i64 0, w] := (hK.same _ (Nat.lt_of_lt_of_le g3 p1.len) (g6 _ (Nat.le_refl _))).trans k2
      have hw1 := rowOne g5
      have hw2 := rowOne hR2
      simp -failIfUnchanged (disch := first | assumption | omega | (refine room_i _ _ ?_ ?_ <;> omega) | (refine @_root_.id _ ?_; with_unfolding_all exact Eq.refl _) | (simp only [List.length_take, List.length_drop, List.length_append, List.length_cons, List.length_nil, List.length_replicate, List.length_map] <;> omega) | fail) only [rnL, opL, ruL, hpL, rsL, natL, outL, Nat.add_sub_cancel_left, Nat.mul_one, List.length_cons, List.length_nil, Nat.zero_add, Nat.add_zero, Nat.reduceAdd, Nat.reduceMul, Nat.reduceSub, Nat.reduceEqDiff, Nat.reduceLT, Nat.reduceLeDiff, litd_t, litd_f, decide_true, decide_false, Bool.not_true, Bool.not_false, not_true_eq_false, not_false_eq_true, true_and, and_true, false_and, and_false, true_or, or_true, false_or, or_false, Int.toNat_natCast, cond_true, cond_false, List.map_cons, List.map_nil, Option.map_some, Option.map_none, opV_slots0]
      refine Run_multi (e1 := [(0, .ptr k 1 0), (2, .ptr H.length 5 0), (3, .ptr X.length 5 0), (6, .bool false), (9, .int .i64 (bV 8 st)), (10, .bool false), (16, .bool true), (23, .int .i64 (oM (bS 8 st) : Nat)), (24, .int .i64 (i : Nat)), (25, .bool true), (26, .ptr X.length 5 4), (27, w), (28, .ptr k 1 0), (29, .agg (Cel.enc (mV (msF (bS 3 (bS 8 st)) i)))), (30, .imm false 6 1 (some 1) (Cel.enc (mV (msF (bS 3 (bS 8 st)) i)))), (31, w'), (32, .ptr X.length 5 4)])
        (S1 := hset G2 X.length (.cells [.int .u8 2, .str [], .str [], .int .i64 0, w']) :: S) ?_ ?_ ?_
      · intro h; cases h
      · simp only [List.mem_cons, List.not_mem_nil, or_false, forall_eq_or_imp, forall_eq]
        constructor
        · simp only [List.map_cons, List.map_nil, absO, absP]
          simp -failIfUnchanged (disch := first | assumption | omega | (refine room_i _ _ ?_ ?_ <;> omega) | (refine @_root_.id _ ?_; with_unfolding_all exact Eq.refl _) | (simp only [List.length_take, List.length_drop, List.length_append, List.length_cons, List.length_nil, List.length_replicate, List.length_map] <;> omega) | fail) only [rnL, opL, ruL, hpL, rsL, natL, outL, Nat.add_sub_cancel_left, Nat.mul_one, List.length_cons, List.length_nil, Nat.zero_add, Nat.add_zero, Nat.reduceAdd, Nat.reduceMul, Nat.reduceSub, Nat.reduceEqDiff, Nat.reduceLT, Nat.reduceLeDiff, litd_t, litd_f, decide_true, decide_false, Bool.not_true, Bool.not_false, not_true_eq_false, not_false_eq_true, true_and, and_true, false_and, and_false, true_or, or_true, false_or, or_false, Int.toNat_natCast, cond_true, cond_false, List.map_cons, List.map_nil, Option.map_some, Option.map_none, g7, hw1]
          refine RunC_r r1 ?_
          simp -failIfUnchanged (disch := first | assumption | omega | (refine room_i _ _ ?_ ?_ <;> omega) | (refine @_root_.id _ ?_; with_unfolding_all exact Eq.refl _) | (simp only [List.length_take, List.length_drop, List.length_append, List.length_cons, List.length_nil, List.length_replicate, List.length_map] <;> omega) | fail) only [rnL, opL, ruL, hpL, rsL, natL, outL, Nat.add_sub_cancel_left, Nat.mul_one, List.length_cons, List.length_nil, Nat.zero_add, Nat.add_zero, Nat.reduceAdd, Nat.reduceMul, Nat.reduceSub, Nat.reduceEqDiff, Nat.reduceLT, Nat.reduceLeDiff, litd_t, litd_f, decide_true, decide_false, Bool.not_true, Bool.not_false, not_true_eq_false, not_false_eq_true, true_and, and_true, false_and, and_false, true_or, or_true, false_or, or_false, Int.toNat_natCast, cond_true, cond_false, List.map_cons, List.map_nil, Option.map_some, Option.map_none, ha, k3, hw2]
          first | done | rfl | exact ⟨rfl, rfl⟩
        · simp only [List.map_cons, List.map_nil, absO, absP]
          simp -failIfUnchanged (disch := first | assumption | omega | (refine room_i _ _ ?_ ?_ <;> omega) | (refine @_root_.id _ ?_; with_unfolding_all exact Eq.refl _) | (simp only [List.length_take, List.length_drop, List.length_append, List.length_cons, List.length_nil, List.length_replicate, List.length_map] <;> omega) | fail) only [rnL, opL, ruL, hpL, rsL, natL, outL, Nat.add_sub_cancel_left, Nat.mul_one, List.length_cons, List.length_nil, Nat.zero_add, Nat.add_zero, Nat.reduceAdd, Nat.reduceMul, Nat.reduceSub, Nat.reduceEqDiff, Nat.reduceLT, Nat.reduceLeDiff, litd_t, litd_f, decide_true, decide_false, Bool.not_true, Bool.not_false, not_true_eq_false, not_false_eq_true, true_and, and_true, false_and, and_false, true_or, or_true, false_or, or_false, Int.toNat_natCast, cond_true, cond_false, List.map_cons, List.map_nil, Option.map_some, Option.map_none, g7, hw1]
          refine RunC_r r1 ?_
          simp -failIfUnchanged (disch := first | assumption | omega | (refine room_i _ _ ?_ ?_ <;> omega) | (refine @_root_.id _ ?_; with_unfolding_all exact Eq.refl _) | (simp only [List.length_take, List.length_drop, List.length_append, List.length_cons, List.length_nil, List.length_replicate, List.length_map] <;> omega) | fail) only [rnL, opL, ruL, hpL, rsL, natL, outL, Nat.add_sub_cancel_left, Nat.mul_one, List.length_cons, List.length_nil, Nat.zero_add, Nat.add_zero, Nat.reduceAdd, Nat.reduceMul, Nat.reduceSub, Nat.reduceEqDiff, Nat.reduceLT, Nat.reduceLeDiff, litd_t, litd_f, decide_true, decide_false, Bool.not_true, Bool.not_false, not_true_eq_false, not_false_eq_true, true_and, and_true, false_and, and_false, true_or, or_true, false_or, or_false, Int.toNat_natCast, cond_true, cond_false, List.map_cons, List.map_nil, Option.map_some, Option.map_none, ha, k2, k3, hw1, hw2]
          first | done | rfl | exact ⟨rfl, rfl⟩
      · simp -failIfUnchanged (disch := first | assumption | omega | (refine room_i _ _ ?_ ?_ <;> omega) | (refine @_root_.id _ ?_; with_unfolding_all exact Eq.refl _) | (simp only [List.length_take, List.length_drop, List.length_append, List.length_cons, List.length_nil, List.length_replicate, List.length_map] <;> omega) | fail) only [rnL, opL, ruL, hpL, rsL, natL, outL, Nat.add_sub_cancel_left, Nat.mul_one, List.length_cons, List.length_nil, Nat.zero_add, Nat.add_zero, Nat.reduceAdd, Nat.reduceMul, Nat.reduceSub, Nat.reduceEqDiff, Nat.reduceLT, Nat.reduceLeDiff, litd_t, litd_f, decide_true, decide_false, Bool.not_true, Bool.not_false, not_true_eq_false, not_false_eq_true, true_and, and_true, false_and, and_false, true_or, or_true, false_or, or_false, Int.toNat_natCast, cond_true, cond_false, List.map_cons, List.map_nil, Option.map_some, Option.map_none]
        have l1 : X.length < G2.length := by have := p1.len; have := hK.len; omega
        refine Next.i (i + 1, hset G2 X.length (.cells [.int .u8 2, .str [], .str [], .int .i64 0, w']), w') ?_ rfl ⟨by show i + 1 ≤ _; omega, ?_, ?_, ?_, fun j a b => ?_, ?_, fun j a => ?_, hat_hset_eq _ l1⟩ (by show oM (bS 8 st) - (i + 1) < oM (bS 8 st) - i; omega)
        · simp -failIfUnchanged (disch := first | assumption | omega | (refine room_i _ _ ?_ ?_ <;> omega) | (refine @_root_.id _ ?_; with_unfolding_all exact Eq.refl _) | (simp only [List.length_take, List.length_drop, List.length_append, List.length_cons, List.length_nil, List.length_replicate, List.length_map] <;> omega) | fail) only [rnL, opL, ruL, hpL, rsL, natL, outL, Nat.add_sub_cancel_left, Nat.mul_one, List.length_cons, List.length_nil, Nat.zero_add, Nat.add_zero, Nat.reduceAdd, Nat.reduceMul, Nat.reduceSub, Nat.reduceEqDiff, Nat.reduceLT, Nat.reduceLeDiff, litd_t, litd_f, decide_true, decide_false, Bool.not_true, Bool.not_false, not_true_eq_false, not_false_eq_true, true_and, and_true, false_and, and_false, true_or, or_true, false_or, or_false, Int.toNat_natCast, cond_true, cond_false, List.map_cons, List.map_nil, Option.map_some, Option.map_none]
        · show hat (hset G2 _ _) k = _
          rw [hat_hset_ne _ (by omega), hK.same k (hat_some k1) g8, k1]; rfl
        · show hat (hset G2 _ _) H.length = _
          rw [hat_hset_ne _ (by omega), hK.same _ (by have := p1.len; omega) (g6 _ (by omega)), p1.at_ _ (by omega) (by omega), g2]
        · show X.length < (hset G2 _ _).length
          rw [hset_len]; exact l1
        · show hat (hset G2 _ _) j = _
          rw [hat_hset_ne _ (by omega), hK.same j (by have := p1.len; omega) (g6 j (by omega)), p1.at_ j (by omega) b, g4 j a b]
        · exact hR2.hset (hK.at_ _ (by have := p1.len; omega) (g6 _ (Nat.le_refl _)))
        · exact hK.at_ j (by have := p1.len; omega) (g6 j a)
    · have hi2 : i = oM (bS 8 st) := by omega
      subst hi2
      have hml := mLF_len (bS 3 (bS 8 st)) (oM (bS 8 st))
      have hone : one (some 5) [.int .u8 2, .str [], .str [], .int .i64 0, w] 0 = some (.agg [.int .u8 2, .str [], .str [], .int .i64 0, w]) := rfl
      simp -failIfUnchanged (disch := first | assumption | omega | (refine room_i _ _ ?_ ?_ <;> omega) | (refine @_root_.id _ ?_; with_unfolding_all exact Eq.refl _) | (simp only [List.length_take, List.length_drop, List.length_append, List.length_cons, List.length_nil, List.length_replicate, List.length_map] <;> omega) | fail) only [rnL, opL, ruL, hpL, rsL, natL, outL, Nat.add_sub_cancel_left, Nat.mul_one, List.length_cons, List.length_nil, Nat.zero_add, Nat.add_zero, Nat.reduceAdd, Nat.reduceMul, Nat.reduceSub, Nat.reduceEqDiff, Nat.reduceLT, Nat.reduceLeDiff, litd_t, litd_f, decide_true, decide_false, Bool.not_true, Bool.not_false, not_true_eq_false, not_false_eq_true, true_and, and_true, false_and, and_false, true_or, or_true, false_or, or_false, Int.toNat_natCast, cond_true, cond_false, List.map_cons, List.map_nil, Option.map_some, Option.map_none, g7, g2, hone]
      have hne : mLF (bS 3 (bS 8 st)) (oM (bS 8 st)) ≠ [] := by intro e; rw [e] at hml; simp at hml; omega
      exact fin_op (w := w) (.inr rfl) (by simp only [opA, oK, oKey, oN, if_neg h1, if_pos h2]; rfl) hl (by omega) (by rfl) g1 g4 (by unfold oS; rw [if_neg h1, if_pos h2]) (by unfold oL; rw [if_neg h1, if_pos h2]; exact g5) (fun j a => g6 j (by omega))
  have h1 : ¬ bV 8 st < 2 := by omega
  have h2 : ¬ bV 8 st < 5 := by omega
  simp -failIfUnchanged (disch := first | assumption | omega | (refine room_i _ _ ?_ ?_ <;> omega) | (refine @_root_.id _ ?_; with_unfolding_all exact Eq.refl _) | (simp only [List.length_take, List.length_drop, List.length_append, List.length_cons, List.length_nil, List.length_replicate, List.length_map] <;> omega) | fail) only [rnL, opL, ruL, hpL, rsL, natL, outL, Nat.add_sub_cancel_left, Nat.mul_one, List.length_cons, List.length_nil, Nat.zero_add, Nat.add_zero, Nat.reduceAdd, Nat.reduceMul, Nat.reduceSub, Nat.reduceEqDiff, Nat.reduceLT, Nat.reduceLeDiff, litd_t, litd_f, decide_true, decide_false, Bool.not_true, Bool.not_false, not_true_eq_false, not_false_eq_true, true_and, and_true, false_and, and_false, true_or, or_true, false_or, or_false, Int.toNat_natCast, cond_true, cond_false, List.map_cons, List.map_nil, Option.map_some, Option.map_none]
  (first | refine RunB_i (fun h3 => ?_) (fun h3 => ?_) | refine RunG_i (fun h3 => ?_) (fun h3 => ?_) | refine RunB_ib (fun h3 => ?_) (fun h3 => ?_))
  · simp -failIfUnchanged (disch := first | assumption | omega | (refine room_i _ _ ?_ ?_ <;> omega) | (refine @_root_.id _ ?_; with_unfolding_all exact Eq.refl _) | (simp only [List.length_take, List.length_drop, List.length_append, List.length_cons, List.length_nil, List.length_replicate, List.length_map] <;> omega) | fail) only [rnL, opL, ruL, hpL, rsL, natL, outL, Nat.add_sub_cancel_left, Nat.mul_one, List.length_cons, List.length_nil, Nat.zero_add, Nat.add_zero, Nat.reduceAdd, Nat.reduceMul, Nat.reduceSub, Nat.reduceEqDiff, Nat.reduceLT, Nat.reduceLeDiff, litd_t, litd_f, decide_true, decide_false, Bool.not_true, Bool.not_false, not_true_eq_false, not_false_eq_true, true_and, and_true, false_and, and_false, true_or, or_true, false_or, or_false, Int.toNat_natCast, cond_true, cond_false, List.map_cons, List.map_nil, Option.map_some, Option.map_none]
    obtain ⟨H1, r1, k1, p1⟩ := key_p 4 1 X S k _ x1
    have q1 : H.length < H1.length := by have := p1.len; omega
    have q2 : hat H1 H.length = .cells o0 := (p1.at_ _ (by omega) (by omega)).trans x3
    have q3 : ∀ j, j < H.length → j ≠ k → hat H1 j = hat H j := fun j a b => (p1.at_ j (by omega) b).trans (x4 j a b)
    refine RunC_r r1 ?_
    have d1 := bV_nn 3 (kS 4 1 (bS 8 st))
    have d2 := bV_lt 3 (kS 4 1 (bS 8 st)) (by omega)
    simp -failIfUnchanged (disch := first | assumption | omega | (refine room_i _ _ ?_ ?_ <;> omega) | (refine @_root_.id _ ?_; with_unfolding_all exact Eq.refl _) | (simp only [List.length_take, List.length_drop, List.length_append, List.length_cons, List.length_nil, List.length_replicate, List.length_map] <;> omega) | fail) only [rnL, opL, ruL, hpL, rsL, natL, outL, Nat.add_sub_cancel_left, Nat.mul_one, List.length_cons, List.length_nil, Nat.zero_add, Nat.add_zero, Nat.reduceAdd, Nat.reduceMul, Nat.reduceSub, Nat.reduceEqDiff, Nat.reduceLT, Nat.reduceLeDiff, litd_t, litd_f, decide_true, decide_false, Bool.not_true, Bool.not_false, not_true_eq_false, not_false_eq_true, true_and, and_true, false_and, and_false, true_or, or_true, false_or, or_false, Int.toNat_natCast, cond_true, cond_false, List.map_cons, List.map_nil, Option.map_some, Option.map_none]
    refine RunC_r (below_p k1 (by omega)) ?_
    have q4 : hat (hset H1 k (.cells [.int .u64 (bS 3 (kS 4 1 (bS 8 st)))])) H.length = .cells o0 := by rw [hat_hset_ne _ (by omega), q2]
    simp -failIfUnchanged (disch := first | assumption | omega | (refine room_i _ _ ?_ ?_ <;> omega) | (refine @_root_.id _ ?_; with_unfolding_all exact Eq.refl _) | (simp only [List.length_take, List.length_drop, List.length_append, List.length_cons, List.length_nil, List.length_replicate, List.length_map] <;> omega) | fail) only [rnL, opL, ruL, hpL, rsL, natL, outL, Nat.add_sub_cancel_left, Nat.mul_one, List.length_cons, List.length_nil, Nat.zero_add, Nat.add_zero, Nat.reduceAdd, Nat.reduceMul, Nat.reduceSub, Nat.reduceEqDiff, Nat.reduceLT, Nat.reduceLeDiff, litd_t, litd_f, decide_true, decide_false, Bool.not_true, Bool.not_false, not_true_eq_false, not_false_eq_true, true_and, and_true, false_and, and_false, true_or, or_true, false_or, or_false, Int.toNat_natCast, cond_true, cond_false, List.map_cons, List.map_nil, Option.map_some, Option.map_none, q4, bo13]
    exact fin_op (w := .imm true 0 0 (some 0) []) (.inr rfl) (by simp only [opA, oK, oKey, oN, if_neg h1, if_neg h2, if_pos h3]; rfl) hl (by rw [hset_len]; exact q1) (by rfl) (hat_hset_eq _ (hat_some k1)) (fun j a b => (hat_hset_ne _ (Ne.symm b)).trans (q3 j a b)) (by unfold oS; rw [if_neg h1, if_neg h2, if_pos h3]) (by unfold oL; rw [if_neg h1, if_neg h2]; exact Row.nil) (fun _ _ => rfl)
  simp -failIfUnchanged (disch := first | assumption | omega | (refine room_i _ _ ?_ ?_ <;> omega) | (refine @_root_.id _ ?_; with_unfolding_all exact Eq.refl _) | (simp only [List.length_take, List.length_drop, List.length_append, List.length_cons, List.length_nil, List.length_replicate, List.length_map] <;> omega) | fail) only [rnL, opL, ruL, hpL, rsL, natL, outL, Nat.add_sub_cancel_left, Nat.mul_one, List.length_cons, List.length_nil, Nat.zero_add, Nat.add_zero, Nat.reduceAdd, Nat.reduceMul, Nat.reduceSub, Nat.reduceEqDiff, Nat.reduceLT, Nat.reduceLeDiff, litd_t, litd_f, decide_true, decide_false, Bool.not_true, Bool.not_false, not_true_eq_false, not_false_eq_true, true_and, and_true, false_and, and_false, true_or, or_true, false_or, or_false, Int.toNat_natCast, cond_true, cond_false, List.map_cons, List.map_nil, Option.map_some, Option.map_none]
  (first | refine RunB_i (fun h4 => ?_) (fun h4 => ?_) | refine RunG_i (fun h4 => ?_) (fun h4 => ?_) | refine RunB_ib (fun h4 => ?_) (fun h4 => ?_))
  · simp -failIfUnchanged (disch := first | assumption | omega | (refine room_i _ _ ?_ ?_ <;> omega) | (refine @_root_.id _ ?_; with_unfolding_all exact Eq.refl _) | (simp only [List.length_take, List.length_drop, List.length_append, List.length_cons, List.length_nil, List.length_replicate, List.length_map] <;> omega) | fail) only [rnL, opL, ruL, hpL, rsL, natL, outL, Nat.add_sub_cancel_left, Nat.mul_one, List.length_cons, List.length_nil, Nat.zero_add, Nat.add_zero, Nat.reduceAdd, Nat.reduceMul, Nat.reduceSub, Nat.reduceEqDiff, Nat.reduceLT, Nat.reduceLeDiff, litd_t, litd_f, decide_true, decide_false, Bool.not_true, Bool.not_false, not_true_eq_false, not_false_eq_true, true_and, and_true, false_and, and_false, true_or, or_true, false_or, or_false, Int.toNat_natCast, cond_true, cond_false, List.map_cons, List.map_nil, Option.map_some, Option.map_none, x3, bo0]
    exact fin_op (w := .imm true 0 0 (some 0) []) (.inr rfl) (by simp only [opA, oK, oKey, oN, if_neg h1, if_neg h2, if_neg h3, if_pos h4]; rfl) hl (by omega) (by rfl) x1 x4 (by unfold oS; rw [if_neg h1, if_neg h2, if_neg h3]) (by unfold oL; rw [if_neg h1, if_neg h2]; exact Row.nil) (fun _ _ => rfl)
  · simp -failIfUnchanged (disch := first | assumption | omega | (refine room_i _ _ ?_ ?_ <;> omega) | (refine @_root_.id _ ?_; with_unfolding_all exact Eq.refl _) | (simp only [List.length_take, List.length_drop, List.length_append, List.length_cons, List.length_nil, List.length_replicate, List.length_map] <;> omega) | fail) only [rnL, opL, ruL, hpL, rsL, natL, outL, Nat.add_sub_cancel_left, Nat.mul_one, List.length_cons, List.length_nil, Nat.zero_add, Nat.add_zero, Nat.reduceAdd, Nat.reduceMul, Nat.reduceSub, Nat.reduceEqDiff, Nat.reduceLT, Nat.reduceLeDiff, litd_t, litd_f, decide_true, decide_false, Bool.not_true, Bool.not_false, not_true_eq_false, not_false_eq_true, true_and, and_true, false_and, and_false, true_or, or_true, false_or, or_false, Int.toNat_natCast, cond_true, cond_false, List.map_cons, List.map_nil, Option.map_some, Option.map_none, x3, bo3]
    exact fin_op (w := .imm true 0 0 (some 0) []) (.inr rfl) (by simp only [opA, oK, oKey, oN, if_neg h1, if_neg h2, if_neg h3, if_neg h4]; rfl) hl (by omega) (by rfl) x1 x4 (by unfold oS; rw [if_neg h1, if_neg h2, if_neg h3]) (by unfold oL; rw [if_neg h1, if_neg h2]; exact Row.nil) (fun _ _ => rfl)
end Go.AS.Sd

namespace Go.AS.Sd
open Go Go.AS Go.Proofs
set_option maxHeartbeats 2000000
set_option maxRecDepth 8000
theorem ikEq_refl (k : IntKind) : ikEq k k = true := by cases k <;> rfl
theorem eqa_msg {H : Heap} {ng : Bool} (m : Msg) : opV H (.eqa ng [(0, 0), (1, 0), (2, 1), (3, 1), (4, 1), (5, 0)] (.c (.agg (Cel.enc m))) (.c (.agg (Cel.enc m)))) = some (.bool (bif ng then false else true), H) := by
  have : primEqs (Cel.enc m) (Cel.enc m) [(0, 0), (1, 0), (2, 1), (3, 1), (4, 1), (5, 0)] = some true := by
    simp [Cel.enc, primEqs, primEq, ikEq_refl]
  simp only [opV, evOp, Opd.ev, this]
  cases ng <;> rfl
theorem same4_true (n1 n2 : Bool) (l : List Msg) (hl : l.length ≤ 1000000) (h1 : n1 = true → l = []) (h2 : n2 = true → l = []) : Gives F 29 [sl n1 l, sl n2 l] (.bool true) := by
  refine Gives.of fn_r04_Same rfl rfl (args' := [sl n1 l, sl n2 l]) (by simp only [mapO_nil, mapO_c2, consO_some, upf_v]) ?_
  simp only [ir_r04_Same]
  simp -failIfUnchanged (disch := first | assumption | omega | (refine room_i _ _ ?_ ?_ <;> omega) | (refine @_root_.id _ ?_; with_unfolding_all exact Eq.refl _) | (simp only [List.length_take, List.length_drop, List.length_append, List.length_cons, List.length_nil, List.length_replicate, List.length_map] <;> omega) | fail) only [rnL, opL, ruL, hpL, rsL, natL, outL, Nat.add_sub_cancel_left, Nat.mul_one, List.length_cons, List.length_nil, Nat.zero_add, Nat.add_zero, Nat.reduceAdd, Nat.reduceMul, Nat.reduceSub, Nat.reduceEqDiff, Nat.reduceLT, Nat.reduceLeDiff, litd_t, litd_f, decide_true, decide_false, Bool.not_true, Bool.not_false, not_true_eq_false, not_false_eq_true, true_and, and_true, false_and, and_false, true_or, or_true, false_or, or_false, Int.toNat_natCast, cond_true, cond_false, List.map_cons, List.map_nil, Option.map_some, Option.map_none]
  refine Run_upto l.length (fun i => [(0, sl n1 l), (1, sl n2 l), (4, .bool false), (5, .int .i64 (i : Nat)), (10, .bool false)]) (fun _ => [[]]) (fun _ => True) rfl rfl trivial ?_
  intro i hi _
  simp -failIfUnchanged (disch := first | assumption | omega | (refine room_i _ _ ?_ ?_ <;> omega) | (refine @_root_.id _ ?_; with_unfolding_all exact Eq.refl _) | (simp only [List.length_take, List.length_drop, List.length_append, List.length_cons, List.length_nil, List.length_replicate, List.length_map] <;> omega) | fail) only [rnL, opL, ruL, hpL, rsL, natL, outL, Nat.add_sub_cancel_left, Nat.mul_one, List.length_cons, List.length_nil, Nat.zero_add, Nat.add_zero, Nat.reduceAdd, Nat.reduceMul, Nat.reduceSub, Nat.reduceEqDiff, Nat.reduceLT, Nat.reduceLeDiff, litd_t, litd_f, decide_true, decide_false, Bool.not_true, Bool.not_false, not_true_eq_false, not_false_eq_true, true_and, and_true, false_and, and_false, true_or, or_true, false_or, or_false, Int.toNat_natCast, cond_true, cond_false, List.map_cons, List.map_nil, Option.map_some, Option.map_none]
  (first | refine RunB_i (fun h3 => ?_) (fun h3 => ?_) | refine RunG_i (fun h3 => ?_) (fun h3 => ?_) | refine RunB_ib (fun h3 => ?_) (fun h3 => ?_))
  · have hi' : i < l.length := by omega
    simp -failIfUnchanged (disch := first | assumption | omega | (refine room_i _ _ ?_ ?_ <;> omega) | (refine @_root_.id _ ?_; with_unfolding_all exact Eq.refl _) | (simp only [List.length_take, List.length_drop, List.length_append, List.length_cons, List.length_nil, List.length_replicate, List.length_map] <;> omega) | fail) only [rnL, opL, ruL, hpL, rsL, natL, outL, Nat.add_sub_cancel_left, Nat.mul_one, List.length_cons, List.length_nil, Nat.zero_add, Nat.add_zero, Nat.reduceAdd, Nat.reduceMul, Nat.reduceSub, Nat.reduceEqDiff, Nat.reduceLT, Nat.reduceLeDiff, litd_t, litd_f, decide_true, decide_false, Bool.not_true, Bool.not_false, not_true_eq_false, not_false_eq_true, true_and, and_true, false_and, and_false, true_or, or_true, false_or, or_false, Int.toNat_natCast, cond_true, cond_false, List.map_cons, List.map_nil, Option.map_some, Option.map_none, datL, eqa_msg]
    exact Nx.i hi' rfl rfl trivial
  · simp -failIfUnchanged (disch := first | assumption | omega | (refine room_i _ _ ?_ ?_ <;> omega) | (refine @_root_.id _ ?_; with_unfolding_all exact Eq.refl _) | (simp only [List.length_take, List.length_drop, List.length_append, List.length_cons, List.length_nil, List.length_replicate, List.length_map] <;> omega) | fail) only [rnL, opL, ruL, hpL, rsL, natL, outL, Nat.add_sub_cancel_left, Nat.mul_one, List.length_cons, List.length_nil, Nat.zero_add, Nat.add_zero, Nat.reduceAdd, Nat.reduceMul, Nat.reduceSub, Nat.reduceEqDiff, Nat.reduceLT, Nat.reduceLeDiff, litd_t, litd_f, decide_true, decide_false, Bool.not_true, Bool.not_false, not_true_eq_false, not_false_eq_true, true_and, and_true, false_and, and_false, true_or, or_true, false_or, or_false, Int.toNat_natCast, cond_true, cond_false, List.map_cons, List.map_nil, Option.map_some, Option.map_none]
    (refine Fin_g (.inr rfl) (by simp -failIfUnchanged (disch := first | assumption | omega | (refine room_i _ _ ?_ ?_ <;> omega) | (refine @_root_.id _ ?_; with_unfolding_all exact Eq.refl _) | (simp only [List.length_take, List.length_drop, List.length_append, List.length_cons, List.length_nil, List.length_replicate, List.length_map] <;> omega) | fail) only [rnL, opL, ruL, hpL, rsL, natL, outL, Nat.add_sub_cancel_left, Nat.mul_one, List.length_cons, List.length_nil, Nat.zero_add, Nat.add_zero, Nat.reduceAdd, Nat.reduceMul, Nat.reduceSub, Nat.reduceEqDiff, Nat.reduceLT, Nat.reduceLeDiff, litd_t, litd_f, decide_true, decide_false, Bool.not_true, Bool.not_false, not_true_eq_false, not_false_eq_true, true_and, and_true, false_and, and_false, true_or, or_true, false_or, or_false, Int.toNat_natCast, cond_true, cond_false, List.map_cons, List.map_nil, Option.map_some, Option.map_none]; rfl) ?_; simp -failIfUnchanged (disch := first | assumption | omega | (refine room_i _ _ ?_ ?_ <;> omega) | (refine @_root_.id _ ?_; with_unfolding_all exact Eq.refl _) | (simp only [List.length_take, List.length_drop, List.length_append, List.length_cons, List.length_nil, List.length_replicate, List.length_map] <;> omega) | fail) only [rnL, opL, ruL, hpL, rsL, natL, outL, Nat.add_sub_cancel_left, Nat.mul_one, List.length_cons, List.length_nil, Nat.zero_add, Nat.add_zero, Nat.reduceAdd, Nat.reduceMul, Nat.reduceSub, Nat.reduceEqDiff, Nat.reduceLT, Nat.reduceLeDiff, litd_t, litd_f, decide_true, decide_false, Bool.not_true, Bool.not_false, not_true_eq_false, not_false_eq_true, true_and, and_true, false_and, and_false, true_or, or_true, false_or, or_false, Int.toNat_natCast, cond_true, cond_false, List.map_cons, List.map_nil, Option.map_some, Option.map_none])
end Go.AS.Sd

namespace Go.AS.Sd
open Go Go.AS Go.Proofs
set_option maxHeartbeats 4000000
set_option maxRecDepth 8000
theorem new_p {H : Heap} {S : Stack} {st : Int} : Rets F (.func (.func 18) [] []) [.int .u64 st] (H :: S) (.ptr H.length 1 0) ((H ++ [.cells [.int .u64 st]]) :: S) := by
  refine Rets.mem fn_seed_New rfl rfl ?_
  simp only [ir_seed_New, List.nil_append, List.cons_append]
  have hb : opV H (.build [.int .u64 0] [(0, 1, .c (.int .u64 st))]) = some (.agg [.int .u64 st], H) := rfl
  have hx : opV H (.box 1 (.c (.agg [.int .u64 st]))) = some (.ptr H.length 1 0, H ++ [.cells [.int .u64 st]]) := rfl
  simp -failIfUnchanged (disch := first | assumption | omega | (refine room_i _ _ ?_ ?_ <;> omega) | (refine @_root_.id _ ?_; with_unfolding_all exact Eq.refl _) | (simp only [List.length_take, List.length_drop, List.length_append, List.length_cons, List.length_nil, List.length_replicate, List.length_map] <;> omega) | fail) only [rnL, opL, ruL, hpL, rsL, natL, outL, Nat.add_sub_cancel_left, Nat.mul_one, List.length_cons, List.length_nil, Nat.zero_add, Nat.add_zero, Nat.reduceAdd, Nat.reduceMul, Nat.reduceSub, Nat.reduceEqDiff, Nat.reduceLT, Nat.reduceLeDiff, litd_t, litd_f, decide_true, decide_false, Bool.not_true, Bool.not_false, not_true_eq_false, not_false_eq_true, true_and, and_true, false_and, and_false, true_or, or_true, false_or, or_false, Int.toNat_natCast, cond_true, cond_false, List.map_cons, List.map_nil, Option.map_some, Option.map_none, hb, hx]
  exact ⟨.inr rfl, rfl, rfl⟩
theorem neq_ii {H : Heap} {k : IntKind} {a : Int} : opV H (.bin .neq (.c (.int k a)) (.c (.int k a))) = some (.bool false, H) := by simp [opV, evOp, Opd.ev, binA, ikEq_refl]
theorem neq_ss {H : Heap} {a : Str} : opV H (.bin .neq (.c (.str a)) (.c (.str a))) = some (.bool false, H) := by simp [opV, evOp, Opd.ev, binA]
theorem kp_hset {H : Heap} {k : Nat} {o : AObj} : Kp k H (hset H k o) := Kp.hset0
theorem next_ps : Step 19 [] (fun st => .int .u64 (nO (nS st))) nS := fun _ _ _ _ hk => ⟨_, next_p hk, hat_hset_eq _ (hat_some hk), Kp.hset0⟩
theorem next_rs : Step 20 [] (fun st => .int .u64 (nO (nS st))) nS := fun _ _ _ _ hk => ⟨_, next_r hk, hat_hset_eq _ (hat_some hk), Kp.hset0⟩
theorem below_ps (n : Int) (hn : n ≤ 9223372036854775807) : Step 21 [.int .i64 n] (fun st => .int .i64 (bV n st)) (bS n) := fun _ _ _ _ hk => ⟨_, below_p hk hn, hat_hset_eq _ (hat_some hk), Kp.hset0⟩
theorem below_rs (n : Int) (hn : n ≤ 9223372036854775807) : Step 22 [.int .i64 n] (fun st => .int .i64 (bV n st)) (bS n) := fun _ _ _ _ hk => ⟨_, below_r hk hn, hat_hset_eq _ (hat_some hk), Kp.hset0⟩
theorem oL_len (st : Int) : (oL st).length ≤ 3 := by
  unfold oL
  split
  · simp
  · split
    · rw [mLF_len]; exact (oM_b _).2.1
    · simp
theorem isE {l : List Msg} : (true && l.isEmpty) = true → l = [] := by
  cases l <;> simp
end Go.AS.Sd

/-
  Rows of rows in a memory: what they show, and where. By an AI agent.
-/
namespace Go.AS
open Go
theorem mapO_mono {α β : Type} {f g : α → Option β} (h : ∀ a b, f a = some b → g a = some b) : ∀ (l : List α) (r : List β), mapO f l = some r → mapO g l = some r
  | [], r, hr => hr
  | x :: l, r, hr => by
    simp only [mapO] at hr ⊢
    split at hr
    · rename_i y ys h1 h2
      rw [h _ _ h1, mapO_mono h l _ h2]
      exact hr
    · cases hr
theorem frz_mono {H H' : Heap} (h : ∀ (id : Nat) (cs : List AV), H[id]? = some (AObj.cells cs) → H'[id]? = some (AObj.cells cs)) : ∀ (k : Nat) (w r : AV), frz H k w = some r → frz H' k w = some r
  | 0, _, _, hr => by simp [frz] at hr
  | k + 1, w, r, hr => by
    have ih := mapO_mono (frz_mono h k)
    unfold frz at hr ⊢
    cases hf : hfree w with
    | true => rw [hf] at hr; exact hr
    | false =>
      rw [hf] at hr
      simp only [cond_false] at hr ⊢
      cases w with
      | ptr id lim off =>
        simp only at hr ⊢
        split at hr
        · rename_i cs hg
          rw [h _ _ hg]
          simp only
          rw [Bool.cond_eq_ite] at hr ⊢
          split at hr
          · rename_i hc
            rw [if_pos hc]
            rw [Option.map_eq_some_iff] at hr ⊢
            obtain ⟨y, h1, h2⟩ := hr
            exact ⟨y, ih _ _ h1, h2⟩
          · cases hr
        · cases hr
      | ref id lim off es len cap ex =>
        simp only at hr ⊢
        split at hr
        · rename_i cs hg
          rw [h _ _ hg]
          simp only
          rw [Bool.cond_eq_ite] at hr ⊢
          split at hr
          · rename_i hc
            rw [if_pos hc]
            rw [Option.map_eq_some_iff] at hr ⊢
            obtain ⟨y, h1, h2⟩ := hr
            exact ⟨y, ih _ _ h1, h2⟩
          · cases hr
        · cases hr
      | iptr row o => simp only [Option.map_eq_some_iff] at hr ⊢; obtain ⟨y, h1, h2⟩ := hr; exact ⟨y, ih _ _ h1, h2⟩
      | imm n es l c cs => simp only [Option.map_eq_some_iff] at hr ⊢; obtain ⟨y, h1, h2⟩ := hr; exact ⟨y, ih _ _ h1, h2⟩
      | agg cs => simp only [Option.map_eq_some_iff] at hr ⊢; obtain ⟨y, h1, h2⟩ := hr; exact ⟨y, ih _ _ h1, h2⟩
      | tuple cs => simp only [Option.map_eq_some_iff] at hr ⊢; obtain ⟨y, h1, h2⟩ := hr; exact ⟨y, ih _ _ h1, h2⟩
      | iface t v => simp only [Option.map_eq_some_iff] at hr ⊢; obtain ⟨y, h1, h2⟩ := hr; exact ⟨y, frz_mono h k _ _ h1, h2⟩
      | ext v => exact hr
      | func fn fi ca =>
        cases fn with
        | yield l => simp only at hr; cases hr
        | _ =>
          simp only at hr ⊢
          split at hr
          · rename_i a b h1 h2
            rw [ih _ _ h1, ih _ _ h2]
            exact hr
          · cases hr
      | _ => cases hr
/-- The objects that are looked at. -/
def mask (P : Nat → Bool) (G : Heap) : Heap := G.mapIdx fun i o => bif P i then o else .dead
theorem mask_get (P : Nat → Bool) (G : Heap) (i : Nat) (cs : List AV) : (mask P G)[i]? = some (.cells cs) ↔ P i = true ∧ G[i]? = some (.cells cs) := by
  unfold mask
  rw [List.getElem?_mapIdx]
  cases h : G[i]? with
  | none => simp
  | some o => cases hp : P i <;> simp
theorem hat_iff {G : Heap} {i : Nat} {cs : List AV} : G[i]? = some (.cells cs) ↔ hat G i = .cells cs :=
  ⟨hat_app, fun h => hat_lt (by intro h; cases h) h⟩
theorem mask_hat (P : Nat → Bool) (G : Heap) (i : Nat) (cs : List AV) : hat (mask P G) i = .cells cs ↔ P i = true ∧ hat G i = .cells cs := by
  rw [← hat_iff, mask_get, hat_iff]
/-- What cells show, that look at some objects alone. -/
def Fz (P : Nat → Bool) (d : Nat) (G : Heap) (cs cs' : List AV) : Prop := ∀ k, mapO (frz (mask P G) (k + d)) cs = some cs'
theorem Fz.to {P P' : Nat → Bool} {d : Nat} {G G' : Heap} {cs cs' : List AV} (h : Fz P d G cs cs') (hP : ∀ i, i < G.length → P i = true → P' i = true ∧ hat G' i = hat G i) : Fz P' d G' cs cs' := fun k => by
  refine mapO_mono (frz_mono (fun id cs hid => ?_) (k + d)) _ _ (h k)
  rw [mask_get] at hid ⊢
  have hlt := (List.getElem?_eq_some_iff.1 hid.2).1
  obtain ⟨h1, h2⟩ := hP id hlt hid.1
  exact ⟨h1, hat_iff.2 (h2.trans (hat_iff.1 hid.2))⟩
theorem Fz.app {P : Nat → Bool} {d : Nat} {G : Heap} {a b a' b' : List AV} (h1 : Fz P d G a a') (h2 : Fz P d G b b') : Fz P d G (a ++ b) (a' ++ b') := fun k => by
  have g1 := h1 k
  have g2 := h2 k
  have key : ∀ (f : AV → Option AV) (a a' : List AV), mapO f a = some a' → mapO f b = some b' → mapO f (a ++ b) = some (a' ++ b') := by
    intro f a
    induction a with
    | nil => intro a' e1 e2; cases e1; exact e2
    | cons x a ih =>
      intro a' e1 e2
      simp only [mapO] at e1
      split at e1
      · rename_i y ys e3 e4
        cases e1
        simp only [List.cons_append, mapO, e3, ih _ e4 e2]
      · cases e1
  exact key _ _ _ g1 g2
theorem Fz.up {P : Nat → Bool} {d : Nat} {G : Heap} {a b : List AV} (h : Fz P d G a b) (e : Nat) : Fz P (d + e) G a b := fun k => by
  have := h (k + e)
  rwa [show k + e + d = k + (d + e) by omega] at this
theorem Fz.free {P : Nat → Bool} {G : Heap} {cs : List AV} (h : hfrees cs = true) : Fz P 1 G cs cs := fun k => mapO_frz k cs h
theorem fgs_app2 (a b : List AV) : fgs (a ++ b) = fgs a ++ fgs b := by
  induction a with
  | nil => rfl
  | cons x a ih => simp only [List.cons_append, fgs, ih]
theorem hfrees_app2 {a b : List AV} (ha : hfrees a = true) (hb : hfrees b = true) : hfrees (a ++ b) = true := by
  induction a with
  | nil => exact hb
  | cons x a ih =>
    simp only [hfrees, Bool.and_eq_true] at ha
    simp only [List.cons_append, hfrees, ha.1, ih ha.2, Bool.and_self]
section
variable {α : Type} [Cel α] {nl : Bool}
/-- A row's elements, seen. -/
theorem Row.fz {G : Heap} {w : AV} {l : List α} {P : Nat → Bool} (h : Row nl G w l) (hP : ∀ j, isAt w j = true → P j = true) : ∃ r, Fz P 2 G [w] [r] ∧ hfree r = true ∧ fg r = sl (nl && l.isEmpty) l := by
  have h' : Row nl (mask P G) w l := by
    rcases h with h | ⟨id, h1, h2, rfl, h4⟩
    · exact .inl h
    · refine .inr ⟨id, by unfold mask; rw [List.length_mapIdx]; exact h1, h2, rfl, ?_⟩
      rw [mask_hat]
      exact ⟨hP id (by simp [isAt]), h4⟩
  obtain ⟨r, h1, h2, h3⟩ := h'.frz 0
  refine ⟨r, fun k => ?_, h2, h3⟩
  obtain ⟨r2, g1, _, _⟩ := h'.frz k
  have : r2 = r := by
    rcases h' with ⟨rfl, rfl⟩ | ⟨id, h4, h5, rfl, h6⟩
    · have e : ∀ k, Go.AS.frz (mask P G) (k + 2) (.imm nl 0 0 (some 0) []) = some (.imm nl 0 0 (some 0) []) := fun k => by unfold Go.AS.frz; rfl
      rw [e] at g1 h1
      cases g1; cases h1; rfl
    · have hg : (mask P G)[id]? = some (.cells (cellsL l)) := hat_lt (by intro h; cases h) h6
      have e : ∀ k, Go.AS.frz (mask P G) (k + 2) (.ref id (l.length * Cel.n α) 0 (Cel.n α) l.length l.length false) = some (.imm false (Cel.n α) l.length none (cellsL l)) := fun k => by
        have e1 : Nat.beq (cellsL l).length (l.length * Cel.n α) = true := by rw [cellsL_length]; simp
        have e2 : Nat.ble (0 + l.length * Cel.n α) (l.length * Cel.n α) = true := by simp
        have e3 : ((cellsL l).drop 0).take (l.length * Cel.n α) = cellsL l := by rw [List.drop_zero, ← cellsL_length, List.take_length]
        unfold Go.AS.frz
        simp only [hfree, cond_false, hg, e1, e2, e3, mapO_frz k _ (hfrees_cellsL l), Bool.and_self, cond_true, Option.map_some]
      rw [e] at g1 h1
      cases g1; cases h1; rfl
  rw [this] at g1
  simp only [mapO, g1]
/-- A row of rows that is being built by appends; P: where it, and what it shows, lies. -/
def RowD (P : Nat → Bool) (d : Nat) (nl : Bool) (G : Heap) (w : AV) (l : List α) : Prop :=
  (l = [] ∧ w = .imm nl 0 0 (some 0) []) ∨ ∃ id cs cs', id < G.length ∧ l ≠ [] ∧ w = .ref id (l.length * Cel.n α) 0 (Cel.n α) l.length l.length false ∧ hat G id = .cells cs ∧ cs.length = l.length * Cel.n α ∧ P id = true ∧
    Fz (fun i => P i && !(Nat.beq i id)) d G cs cs' ∧ hfrees cs' = true ∧ fgs cs' = cellsL l
variable {P P' : Nat → Bool} {d : Nat} {G G' : Heap} {w : AV} {l : List α}
theorem RowD.nil : RowD P d nl G (.imm nl 0 0 (some 0) []) ([] : List α) := .inl ⟨rfl, rfl⟩
theorem RowD.to (h : RowD P d nl G w l) (hl : G.length ≤ G'.length) (hP : ∀ i, i < G.length → P i = true → P' i = true ∧ hat G' i = hat G i) : RowD P' d nl G' w l := by
  rcases h with h | ⟨id, cs, cs', h1, h2, h3, h4, h5, h6, h7, h8⟩
  · exact .inl h
  · refine .inr ⟨id, cs, cs', Nat.lt_of_lt_of_le h1 hl, h2, h3, (hP id h1 h6).2.trans h4, h5, (hP id h1 h6).1, h7.to fun i hi hp => ?_, h8⟩
    simp only [Bool.and_eq_true] at hp ⊢
    obtain ⟨a, b⟩ := hP i hi hp.1
    exact ⟨⟨a, hp.2⟩, b⟩
theorem RowD.isAt (h : RowD P d nl G w l) {j : Nat} (hj : Go.AS.isAt w j = true) : P j = true ∧ j < G.length := by
  rcases h with ⟨_, rfl⟩ | ⟨id, cs, cs', h1, h2, rfl, h4, h5, h6, h7, h8⟩
  · cases hj
  · have : id = j := by simpa [Go.AS.isAt] using hj
    subst this
    exact ⟨h6, h1⟩
theorem RowD.fz (h : RowD P d nl G w l) : ∃ r, Fz P (d + 2) G [w] [r] ∧ hfree r = true ∧ fg r = sl (nl && l.isEmpty) l := by
  rcases h with ⟨rfl, rfl⟩ | ⟨id, cs, cs', h1, h2, rfl, h4, h5, h6, h7, h8, h9⟩
  · exact ⟨.imm nl 0 0 (some 0) [], fun k => by rw [show k + (d + 2) = (k + d + 1) + 1 by omega]; exact mapO_frz _ _ rfl, rfl, by cases nl <;> rfl⟩
  · have hg : (mask P G)[id]? = some (.cells cs) := by rw [mask_get]; exact ⟨h6, hat_lt (by intro h; cases h) h4⟩
    have e1 : Nat.beq cs.length (l.length * Cel.n α) = true := by rw [h5]; simp
    have e2 : Nat.ble (0 + l.length * Cel.n α) (l.length * Cel.n α) = true := by simp
    have e3 : (cs.drop 0).take (l.length * Cel.n α) = cs := by rw [List.drop_zero, ← h5, List.take_length]
    have hF : Fz P d G cs cs' := h7.to fun i _ hp => by
      simp only [Bool.and_eq_true] at hp
      exact ⟨hp.1, rfl⟩
    refine ⟨.imm false (Cel.n α) l.length none cs', fun k => ?_, h8, ?_⟩
    · have e4 : Go.AS.frz (mask P G) (k + (d + 2)) (.ref id (l.length * Cel.n α) 0 (Cel.n α) l.length l.length false) = some (.imm false (Cel.n α) l.length none cs') := by
        rw [show k + (d + 2) = (k + 1 + d) + 1 by omega, Go.AS.frz]
        simp only [hfree, cond_false, hg, e1, e2, e3, hF (k + 1), Bool.and_self, cond_true, Option.map_some]
      simp only [mapO, e4]
    · cases l with
      | nil => exact absurd rfl h2
      | cons a r =>
        have e5 : Nat.beq (a :: r).length 0 = false := rfl
        simp only [fg, e5, cond_false, h9, List.isEmpty, Bool.and_false, sl, imm0]
theorem RowD.one (h : RowD P d nl G w l) : cellsOf w = some [w] := by rcases h with ⟨_, rfl⟩ | ⟨id, cs, cs', h1, h2, rfl, h4, h5, h6, h7, h8⟩ <;> rfl
theorem RowD.append {es bytes : Nat} (x : α) (xs xs' : List AV) (h : RowD P d nl G w l) (he : es = Cel.n α) (hp : Nat.blt 0 (Cel.n α) = true) (hr : room bytes (l.length + 1) = true)
    (hx1 : xs.length = Cel.n α) (hx : Fz (fun i => P i && !(Go.AS.isAt w i)) d G xs xs') (hx2 : hfrees xs' = true) (hx3 : fgs xs' = Cel.enc x) (hnew : P G.length = true) :
    ∃ w' G', opV G (.append es bytes (.c w) (.c (.imm false es 1 (some 1) xs))) = some (w', G') ∧ RowD P d nl G' w' (l ++ [x]) ∧ Keep G w G' w' := by
  subst he
  have e0 : Nat.beq (Cel.n α) (Cel.n α) = true := by simp
  have e1 : srcCells (.imm false (Cel.n α) 1 (some 1) xs) G (Cel.n α) = some xs := by
    show (bif Nat.beq (Cel.n α) (Cel.n α) || Nat.beq 1 0 then some xs else none) = _
    rw [e0]; rfl
  have e2 : srcLen (.imm false (Cel.n α) 1 (some 1) xs) = some 1 := rfl
  rcases h with ⟨rfl, rfl⟩ | ⟨id, cs, cs', h2, h3, rfl, h4, h5, h6, h7, h8, h9⟩
  · have e3 : opV G (.append (Cel.n α) bytes (.c (.imm nl 0 0 (some 0) [])) (.c (.imm false (Cel.n α) 1 (some 1) xs))) = some (.ref G.length (1 * Cel.n α) 0 (Cel.n α) 1 1 false, G ++ [.cells xs]) := by
      simp only [opV, evOp, Opd.ev, appendA, e1, e2]
      have e4 : (!(Nat.beq (Cel.n α) 0 || Nat.beq 0 0)) = false := by cases Nat.beq (Cel.n α) 0 <;> rfl
      have e5 : room bytes (0 + 1) = true := by simpa using hr
      rw [e4, e5]
      rfl
    refine ⟨_, _, e3, .inr ⟨G.length, xs, xs', by simp, by simp, rfl, ?_, by simp [hx1], hnew, ?_, hx2, ?_⟩, by simp, fun i hi _ => hat_app_lt hi, fun i hi _ => ?_⟩
    · rw [hat_end0]; simp [hat_0]
    · refine hx.to fun i hi hp => ⟨?_, hat_app_lt hi⟩
      simp only [Go.AS.isAt, Bool.not_false, Bool.and_true] at hp
      have : Nat.beq i G.length = false := by rw [nbeq, litd, decide_eq_false]; omega
      simp only [hp, this, Bool.not_false, Bool.and_self]
    · rw [hx3]; simp [cellsL]
    · simp only [Go.AS.isAt]; rw [nbeq, litd, decide_eq_false]; omega
  · have hg : G[id]? = some (.cells cs) := hat_lt (by intro h; cases h) h4
    have e4 : Nat.beq cs.length (l.length * Cel.n α) = true := by rw [h5]; simp
    have e5 : Nat.ble (l.length + 1) l.length = false := by rw [nble, litd, decide_eq_false]; omega
    have e6 : Nat.beq (l.length * Cel.n α) (l.length * Cel.n α) = true := by simp
    have e7 : cs.take (l.length * Cel.n α) = cs := by rw [← h5, List.take_length]
    have e3 : opV G (.append (Cel.n α) bytes (.c (.ref id (l.length * Cel.n α) 0 (Cel.n α) l.length l.length false)) (.c (.imm false (Cel.n α) 1 (some 1) xs))) =
        some (.ref id ((l.length + 1) * Cel.n α) 0 (Cel.n α) (l.length + 1) (l.length + 1) false, Go.AS.hset G id (.cells (cs ++ xs))) := by
      simp only [opV, evOp, Opd.ev, appendA, e1, e2, hg, e4, e0, e5, hr, e6, hp, e7, hset_eq, Bool.not_true, Bool.or_self, cond_false, Bool.and_self, cond_true]
      rfl
    have hne : ∀ i, Nat.beq i id = false → hat (Go.AS.hset G id (.cells (cs ++ xs))) i = hat G i := fun i hi => hat_hset_ne _ (fun e => by subst e; simp at hi)
    refine ⟨_, _, e3, .inr ⟨id, cs ++ xs, cs' ++ xs', by rw [hset_len]; exact h2, by simp, by simp, ?_, ?_, h6, ?_, hfrees_app2 h8 hx2, ?_⟩, by rw [hset_len]; exact Nat.le_refl _, fun i hi h6 => ?_, fun i hi h6 => by simpa [Go.AS.isAt] using h6⟩
    · rw [hat_hset_eq _ h2]
    · rw [List.length_append, h5, hx1, List.length_append, List.length_singleton, Nat.add_mul, Nat.one_mul]
    · refine Fz.app (h7.to fun i hi hp => ⟨hp, hne i ?_⟩) (hx.to fun i hi hp => ?_)
      · simp only [Bool.and_eq_true, Bool.not_eq_true'] at hp; exact hp.2
      · simp only [Go.AS.isAt, Bool.and_eq_true, Bool.not_eq_true'] at hp
        have hb : Nat.beq i id = false := by
          have h1 := hp.2
          rw [nbeq, litd] at h1 ⊢
          simp only [decide_eq_false_iff_not] at h1 ⊢
          exact fun e => h1 e.symm
        exact ⟨by simp only [hp.1, hb, Bool.not_false, Bool.and_self], hne i hb⟩
    · rw [fgs_app2, h9, hx3, cellsL_append]; simp [cellsL]
    · refine hat_hset_ne _ ?_
      intro e; subst e; simp [Go.AS.isAt] at h6
end
end Go.AS
