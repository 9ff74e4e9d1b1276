import Derived.Test.YtefnpnokbanbkaaFt1
set_option linter.all false
namespace Go.AS.Ft
open Go Go.AS Go.Proofs
set_option maxHeartbeats 1000000

theorem shr32 (n : Nat) : Int.fdiv (n : Int) (2 ^ (min (Int.toNat 32) IntKind.u64.bits)) = ((n / 4294967296 : Nat) : Int) := by
  have : (2 : Int) ^ (min (Int.toNat 32) IntKind.u64.bits) = ((4294967296 : Nat) : Int) := by decide
  rw [this, Int.ofNat_fdiv]
theorem and32 (n : Nat) (h : n < 18446744073709551616) : bitop .and .u64 (n : Int) 4294967295 = ((n % 4294967296 : Nat) : Int) := by
  have h1 : (BitVec.ofInt 64 (n : Int) &&& BitVec.ofInt 64 4294967295).toNat = n % 4294967296 := by
    rw [BitVec.toNat_and]
    have e1 : (BitVec.ofInt 64 (n : Int)).toNat = n := by simp [BitVec.toNat_ofInt]; omega
    have e2 : (BitVec.ofInt 64 4294967295).toNat = 2 ^ 32 - 1 := by decide
    rw [e1, e2, Nat.and_two_pow_sub_one_eq_mod]
  have h2 : bitop .and .u64 (n : Int) 4294967295 = IntKind.u64.wrap (((BitVec.ofInt 64 (n : Int) &&& BitVec.ofInt 64 4294967295).toNat : Nat) : Int) := rfl
  rw [h2, h1, wrap_u64] <;> omega
theorem mul64_is (a b : Nat) (ha : a ≤ 60) (hb : b ≤ 2147483647) : CallIs F 81 [.int .u64 a, .int .u64 b] (.tuple [.int .u64 0, .int .u64 (a * b : Nat)]) := by
  refine Gives.is ?_
  have hab : a * b ≤ 60 * 2147483647 := Nat.mul_le_mul ha hb
  have h1 : a / 4294967296 = 0 := by omega
  have h2 : b / 4294967296 = 0 := by omega
  have h3 : a % 4294967296 = a := by omega
  have h4 : b % 4294967296 = b := by omega
  have h5 : (a * b / 4294967296) % 4294967296 = a * b / 4294967296 := by omega
  have h6 : (a * b / 4294967296) / 4294967296 = 0 := by omega
  refine Gives.of fn81 rfl rfl (args' := [.int .u64 a, .int .u64 b]) (by simp only [mapO_nil, mapO_c2, consO_some, upf_v]) ?_
  simp only [ir81]
  simp -failIfUnchanged (disch := first | assumption | omega | (refine room_i _ _ ?_ ?_ <;> omega) | (refine @id _ ?_; with_unfolding_all exact Eq.refl _) | (simp only [List.length_take, List.length_drop, List.length_append, List.length_cons, List.length_nil, List.length_replicate, List.length_map] <;> omega)) only [rnL, opL, ruL, hpL, natL, outL, Nat.add_sub_cancel_left, Nat.mul_one, Nat.reduceAdd, Nat.reduceMul, Nat.reduceSub, Nat.reduceEqDiff, Nat.reduceLT, Nat.reduceLeDiff, litd_t, litd_f, decide_true, decide_false, Bool.not_true, Bool.not_false, not_true_eq_false, not_false_eq_true, true_and, and_true, false_and, and_false, true_or, or_true, false_or, or_false, Int.toNat_natCast, cond_true, cond_false, List.map_cons, List.map_nil, Option.map_some, Option.map_none, shr32, and32, h1, h2, h3, h4, Nat.zero_mul, Nat.mul_zero, Nat.zero_add, Nat.add_zero, h5, h6]
  (refine Fin_i (.inr rfl) rfl (by simp -failIfUnchanged (disch := first | assumption | omega | (refine room_i _ _ ?_ ?_ <;> omega) | (refine @id _ ?_; with_unfolding_all exact Eq.refl _) | (simp only [List.length_take, List.length_drop, List.length_append, List.length_cons, List.length_nil, List.length_replicate, List.length_map] <;> omega)) only [rnL, opL, ruL, hpL, natL, outL, Nat.add_sub_cancel_left, Nat.mul_one, Nat.reduceAdd, Nat.reduceMul, Nat.reduceSub, Nat.reduceEqDiff, Nat.reduceLT, Nat.reduceLeDiff, litd_t, litd_f, decide_true, decide_false, Bool.not_true, Bool.not_false, not_true_eq_false, not_false_eq_true, true_and, and_true, false_and, and_false, true_or, or_true, false_or, or_false, Int.toNat_natCast, cond_true, cond_false, List.map_cons, List.map_nil, Option.map_some, Option.map_none]) ?_; simp -failIfUnchanged (disch := first | assumption | omega | (refine room_i _ _ ?_ ?_ <;> omega) | (refine @id _ ?_; with_unfolding_all exact Eq.refl _) | (simp only [List.length_take, List.length_drop, List.length_append, List.length_cons, List.length_nil, List.length_replicate, List.length_map] <;> omega)) only [rnL, opL, ruL, hpL, natL, outL, Nat.add_sub_cancel_left, Nat.mul_one, Nat.reduceAdd, Nat.reduceMul, Nat.reduceSub, Nat.reduceEqDiff, Nat.reduceLT, Nat.reduceLeDiff, litd_t, litd_f, decide_true, decide_false, Bool.not_true, Bool.not_false, not_true_eq_false, not_false_eq_true, true_and, and_true, false_and, and_false, true_or, or_true, false_or, or_false, Int.toNat_natCast, cond_true, cond_false, List.map_cons, List.map_nil, Option.map_some, Option.map_none])
  rfl
theorem mul_is (a b : Nat) (ha : a ≤ 60) (hb : b ≤ 2147483647) : CallIs F 64 [.int .u64 a, .int .u64 b] (.tuple [.int .u64 0, .int .u64 (a * b : Nat)]) := by
  refine Gives.is ?_
  refine Gives.of fn64 rfl rfl (args' := [.int .u64 a, .int .u64 b]) (by simp only [mapO_nil, mapO_c2, consO_some, upf_v]) ?_
  simp only [ir64]
  simp -failIfUnchanged (disch := first | assumption | omega | (refine room_i _ _ ?_ ?_ <;> omega) | (refine @id _ ?_; with_unfolding_all exact Eq.refl _) | (simp only [List.length_take, List.length_drop, List.length_append, List.length_cons, List.length_nil, List.length_replicate, List.length_map] <;> omega)) only [rnL, opL, ruL, hpL, natL, outL, Nat.add_sub_cancel_left, Nat.mul_one, Nat.reduceAdd, Nat.reduceMul, Nat.reduceSub, Nat.reduceEqDiff, Nat.reduceLT, Nat.reduceLeDiff, litd_t, litd_f, decide_true, decide_false, Bool.not_true, Bool.not_false, not_true_eq_false, not_false_eq_true, true_and, and_true, false_and, and_false, true_or, or_true, false_or, or_false, Int.toNat_natCast, cond_true, cond_false, List.map_cons, List.map_nil, Option.map_some, Option.map_none, mul64_is]
  (refine Fin_i (.inr rfl) rfl (by simp -failIfUnchanged (disch := first | assumption | omega | (refine room_i _ _ ?_ ?_ <;> omega) | (refine @id _ ?_; with_unfolding_all exact Eq.refl _) | (simp only [List.length_take, List.length_drop, List.length_append, List.length_cons, List.length_nil, List.length_replicate, List.length_map] <;> omega)) only [rnL, opL, ruL, hpL, natL, outL, Nat.add_sub_cancel_left, Nat.mul_one, Nat.reduceAdd, Nat.reduceMul, Nat.reduceSub, Nat.reduceEqDiff, Nat.reduceLT, Nat.reduceLeDiff, litd_t, litd_f, decide_true, decide_false, Bool.not_true, Bool.not_false, not_true_eq_false, not_false_eq_true, true_and, and_true, false_and, and_false, true_or, or_true, false_or, or_false, Int.toNat_natCast, cond_true, cond_false, List.map_cons, List.map_nil, Option.map_some, Option.map_none]) ?_; simp -failIfUnchanged (disch := first | assumption | omega | (refine room_i _ _ ?_ ?_ <;> omega) | (refine @id _ ?_; with_unfolding_all exact Eq.refl _) | (simp only [List.length_take, List.length_drop, List.length_append, List.length_cons, List.length_nil, List.length_replicate, List.length_map] <;> omega)) only [rnL, opL, ruL, hpL, natL, outL, Nat.add_sub_cancel_left, Nat.mul_one, Nat.reduceAdd, Nat.reduceMul, Nat.reduceSub, Nat.reduceEqDiff, Nat.reduceLT, Nat.reduceLeDiff, litd_t, litd_f, decide_true, decide_false, Bool.not_true, Bool.not_false, not_true_eq_false, not_false_eq_true, true_and, and_true, false_and, and_false, true_or, or_true, false_or, or_false, Int.toNat_natCast, cond_true, cond_false, List.map_cons, List.map_nil, Option.map_some, Option.map_none])
theorem rep_len (w : List Int) (k : Nat) : (List.replicate k w).flatten.length = w.length * k := by
  induction k with
  | zero => simp
  | succ k ih => rw [List.replicate_succ, List.flatten_cons, List.length_append, ih, Nat.mul_succ]; omega
theorem rep_take {w : List Int} {k n d : Nat} (hn : w.length ∣ n) (hd : n + d ≤ w.length * k) : (List.replicate k w).flatten.take (n + d) = (List.replicate k w).flatten.take n ++ (List.replicate k w).flatten.take d := by
  obtain ⟨q, rfl⟩ := hn
  rw [List.take_add]
  congr 1
  rcases Nat.eq_zero_or_pos w.length with h0 | h0
  · have : w = [] := List.length_eq_zero_iff.1 h0
    subst this
    simp
  have hq : q ≤ k := by
    rcases Nat.lt_or_ge k q with h | h
    · have := Nat.mul_le_mul_left w.length (show k + 1 ≤ q from h)
      rw [Nat.mul_succ] at this
      omega
    · exact h
  have e1 : List.replicate k w = List.replicate q w ++ List.replicate (k - q) w := by rw [List.replicate_append_replicate]; congr 1; omega
  have e2 : List.replicate k w = List.replicate (k - q) w ++ List.replicate q w := by rw [List.replicate_append_replicate]; congr 1; omega
  have e3 : (List.replicate k w).flatten.drop (w.length * q) = (List.replicate (k - q) w).flatten := by
    rw [e1, List.flatten_append, List.drop_append_of_le_length (by rw [rep_len]; exact Nat.le_refl _), List.drop_of_length_le (by rw [rep_len]; exact Nat.le_refl _)]
    rfl
  have e4 : (List.replicate k w).flatten.take d = (List.replicate (k - q) w).flatten.take d := by
    rw [e2, List.flatten_append, List.take_append_of_le_length]
    rw [rep_len, Nat.mul_sub]
    omega
  rw [e3, e4]
/-- So far. -/
def cont (w : List Int) (k n : Nat) : List Int := (List.replicate k w).flatten.take n ++ List.replicate (w.length * k - n) 0
theorem cont_len {w : List Int} {k n : Nat} (h : n ≤ w.length * k) : (cont w k n).length = w.length * k := by
  simp only [cont, List.length_append, List.length_take, rep_len, List.length_replicate]
  omega
theorem cont_step {w : List Int} {k n : Nat} (h : n ≤ w.length * k) (hn : w.length ∣ n) : (cont w k n).take (0 + n) ++ ((cont w k n).drop 0).take (min n (w.length * k - n)) ++ (cont w k n).drop (0 + n + min n (w.length * k - n)) = cont w k (n + min n (w.length * k - n)) := by
  have hd : n + min n (w.length * k - n) ≤ w.length * k := by omega
  generalize hdd : min n (w.length * k - n) = d at *
  have hdn : d ≤ n := by omega
  have hl : ((List.replicate k w).flatten.take n).length = n := by rw [List.length_take, rep_len]; omega
  have e1 : (cont w k n).take n = (List.replicate k w).flatten.take n := by
    rw [cont, List.take_append_of_le_length (by rw [hl]; exact Nat.le_refl _), List.take_of_length_le (by rw [hl]; exact Nat.le_refl _)]
  have e2 : (cont w k n).take d = (List.replicate k w).flatten.take d := by
    rw [cont, List.take_append_of_le_length (by rw [hl]; exact hdn), List.take_take, Nat.min_eq_left hdn]
  have e3 : (cont w k n).drop (n + d) = List.replicate (w.length * k - (n + d)) 0 := by
    rw [cont, List.drop_append, List.drop_of_length_le (by rw [hl]; omega), hl, List.nil_append, List.drop_replicate]
    congr 1; omega
  rw [Nat.zero_add, List.drop_zero, e1, e2, e3, ← rep_take hn hd]
  rfl
theorem repeat_is (n1 : Bool) (w : List Int) (k : Nat) (hw : w.length ≤ 60) (hk2 : k ≤ 2147483647) : CallIs F 46 [sl n1 w, .int .i64 k] (sl false (List.replicate k w).flatten) := by
  refine Gives.is ?_
  have hab : w.length * k ≤ 60 * 2147483647 := Nat.mul_le_mul hw hk2
  refine Gives.of fn46 rfl rfl (args' := [sl n1 w, .int .i64 k]) (by simp only [mapO_nil, mapO_c2, consO_some, upf_v]) ?_
  simp only [ir46]
  simp -failIfUnchanged (disch := first | assumption | omega | (refine room_i _ _ ?_ ?_ <;> omega) | (refine @id _ ?_; with_unfolding_all exact Eq.refl _) | (simp only [List.length_take, List.length_drop, List.length_append, List.length_cons, List.length_nil, List.length_replicate, List.length_map] <;> omega)) only [rnL, opL, ruL, hpL, natL, outL, Nat.add_sub_cancel_left, Nat.mul_one, Nat.reduceAdd, Nat.reduceMul, Nat.reduceSub, Nat.reduceEqDiff, Nat.reduceLT, Nat.reduceLeDiff, litd_t, litd_f, decide_true, decide_false, Bool.not_true, Bool.not_false, not_true_eq_false, not_false_eq_true, true_and, and_true, false_and, and_false, true_or, or_true, false_or, or_false, Int.toNat_natCast, cond_true, cond_false, List.map_cons, List.map_nil, Option.map_some, Option.map_none, mul_is]
  have h0 : (List.replicate (w.length * k) 0).take 0 ++ w.take (min w.length (w.length * k)) ++ (List.replicate (w.length * k) 0).drop (0 + min w.length (w.length * k)) = cont w k (min w.length (w.length * k)) := by
    rw [cont]
    simp only [List.take_zero, List.nil_append, Nat.zero_add, List.drop_replicate]
    congr 1
    cases k with
    | zero => simp
    | succ k =>
      have : w.length ≤ w.length * (k + 1) := by rw [Nat.mul_succ]; omega
      rw [Nat.min_eq_left this, List.replicate_succ, List.flatten_cons, List.take_left, List.take_length]
  rw [h0]
  refine Run_loop (fun n => [(0, sl n1 w), (1, .int .i64 k), (4, .imm true 0 0 (some 0) []), (5, .int .u64 0), (6, .int .u64 (w.length * k : Nat)), (7, .ref 0 (w.length * k) 0 1 (w.length * k) (w.length * k) true), (8, .int .i64 (n : Nat)), (10, .bool false), (26, .bool false)])
    (fun n => [[.cells (cellsL (cont w k n))]]) (fun n => n ≤ w.length * k ∧ (n = w.length * k ∨ 0 < n ∧ w.length ∣ n)) (fun n => w.length * k - n) (min w.length (w.length * k)) rfl rfl ?_ ?_
  · refine ⟨Nat.min_le_right _ _, ?_⟩
    rcases Nat.le_total w.length (w.length * k) with h | h
    · rcases Nat.eq_zero_or_pos w.length with h2 | h2
      · exact .inl (by rw [h2]; simp)
      · exact .inr (by rw [Nat.min_eq_left h]; exact ⟨h2, Nat.dvd_refl _⟩)
    · exact .inl (Nat.min_eq_right h)
  · rintro n ⟨hn, hd⟩
    have hc := cont_len hn
    simp -failIfUnchanged (disch := first | assumption | omega | (refine room_i _ _ ?_ ?_ <;> omega) | (refine @id _ ?_; with_unfolding_all exact Eq.refl _) | (simp only [List.length_take, List.length_drop, List.length_append, List.length_cons, List.length_nil, List.length_replicate, List.length_map] <;> omega)) only [rnL, opL, ruL, hpL, natL, outL, Nat.add_sub_cancel_left, Nat.mul_one, Nat.reduceAdd, Nat.reduceMul, Nat.reduceSub, Nat.reduceEqDiff, Nat.reduceLT, Nat.reduceLeDiff, litd_t, litd_f, decide_true, decide_false, Bool.not_true, Bool.not_false, not_true_eq_false, not_false_eq_true, true_and, and_true, false_and, and_false, true_or, or_true, false_or, or_false, Int.toNat_natCast, cond_true, cond_false, List.map_cons, List.map_nil, Option.map_some, Option.map_none]
    (first | refine RunB_i (fun h => ?_) (fun h => ?_) | refine RunG_i (fun h => ?_) (fun h => ?_) | refine RunB_ib (fun h => ?_) (fun h => ?_))
    · have hlt : n < w.length * k := by omega
      obtain ⟨hpos, hdv⟩ : 0 < n ∧ w.length ∣ n := by
        rcases hd with h1 | h1
        · omega
        · exact h1
      simp -failIfUnchanged (disch := first | assumption | omega | (refine room_i _ _ ?_ ?_ <;> omega) | (refine @id _ ?_; with_unfolding_all exact Eq.refl _) | (simp only [List.length_take, List.length_drop, List.length_append, List.length_cons, List.length_nil, List.length_replicate, List.length_map] <;> omega)) only [rnL, opL, ruL, hpL, natL, outL, Nat.add_sub_cancel_left, Nat.mul_one, Nat.reduceAdd, Nat.reduceMul, Nat.reduceSub, Nat.reduceEqDiff, Nat.reduceLT, Nat.reduceLeDiff, litd_t, litd_f, decide_true, decide_false, Bool.not_true, Bool.not_false, not_true_eq_false, not_false_eq_true, true_and, and_true, false_and, and_false, true_or, or_true, false_or, or_false, Int.toNat_natCast, cond_true, cond_false, List.map_cons, List.map_nil, Option.map_some, Option.map_none]
      rw [cont_step hn hdv]
      refine .i (n + min n (w.length * k - n)) rfl rfl ⟨by omega, ?_⟩ (by show w.length * k - _ < w.length * k - n; omega)
      rcases Nat.le_total n (w.length * k - n) with h1 | h1
      · rw [Nat.min_eq_left h1]
        exact .inr ⟨by omega, Nat.dvd_add hdv hdv⟩
      · exact .inl (by omega)
    · have : n = w.length * k := by omega
      subst this
      simp -failIfUnchanged (disch := first | assumption | omega | (refine room_i _ _ ?_ ?_ <;> omega) | (refine @id _ ?_; with_unfolding_all exact Eq.refl _) | (simp only [List.length_take, List.length_drop, List.length_append, List.length_cons, List.length_nil, List.length_replicate, List.length_map] <;> omega)) only [rnL, opL, ruL, hpL, natL, outL, Nat.add_sub_cancel_left, Nat.mul_one, Nat.reduceAdd, Nat.reduceMul, Nat.reduceSub, Nat.reduceEqDiff, Nat.reduceLT, Nat.reduceLeDiff, litd_t, litd_f, decide_true, decide_false, Bool.not_true, Bool.not_false, not_true_eq_false, not_false_eq_true, true_and, and_true, false_and, and_false, true_or, or_true, false_or, or_false, Int.toNat_natCast, cond_true, cond_false, List.map_cons, List.map_nil, Option.map_some, Option.map_none]
      (refine Fin_i (.inr rfl) rfl (by simp -failIfUnchanged (disch := first | assumption | omega | (refine room_i _ _ ?_ ?_ <;> omega) | (refine @id _ ?_; with_unfolding_all exact Eq.refl _) | (simp only [List.length_take, List.length_drop, List.length_append, List.length_cons, List.length_nil, List.length_replicate, List.length_map] <;> omega)) only [rnL, opL, ruL, hpL, natL, outL, Nat.add_sub_cancel_left, Nat.mul_one, Nat.reduceAdd, Nat.reduceMul, Nat.reduceSub, Nat.reduceEqDiff, Nat.reduceLT, Nat.reduceLeDiff, litd_t, litd_f, decide_true, decide_false, Bool.not_true, Bool.not_false, not_true_eq_false, not_false_eq_true, true_and, and_true, false_and, and_false, true_or, or_true, false_or, or_false, Int.toNat_natCast, cond_true, cond_false, List.map_cons, List.map_nil, Option.map_some, Option.map_none]) ?_; simp -failIfUnchanged (disch := first | assumption | omega | (refine room_i _ _ ?_ ?_ <;> omega) | (refine @id _ ?_; with_unfolding_all exact Eq.refl _) | (simp only [List.length_take, List.length_drop, List.length_append, List.length_cons, List.length_nil, List.length_replicate, List.length_map] <;> omega)) only [rnL, opL, ruL, hpL, natL, outL, Nat.add_sub_cancel_left, Nat.mul_one, Nat.reduceAdd, Nat.reduceMul, Nat.reduceSub, Nat.reduceEqDiff, Nat.reduceLT, Nat.reduceLeDiff, litd_t, litd_f, decide_true, decide_false, Bool.not_true, Bool.not_false, not_true_eq_false, not_false_eq_true, true_and, and_true, false_and, and_false, true_or, or_true, false_or, or_false, Int.toNat_natCast, cond_true, cond_false, List.map_cons, List.map_nil, Option.map_some, Option.map_none])
      rw [cont, Nat.sub_self, List.replicate_zero, List.append_nil, List.take_of_length_le (by rw [rep_len]; exact Nat.le_refl _)]
theorem rounds_is (n1 : Bool) (w : List Int) (n : Int) (hw : w.length ≤ 60) (hn : n ≤ 100) : CallIs F 17 [sl n1 w, .int .i64 n] (sl false (List.replicate n.toNat w).flatten) := by
  refine Gives.is ?_
  refine Gives.of fn17 rfl rfl (args' := [sl n1 w, .int .i64 n]) (by simp only [mapO_nil, mapO_c2, consO_some, upf_v]) ?_
  simp only [ir17]
  simp -failIfUnchanged (disch := first | assumption | omega | (refine room_i _ _ ?_ ?_ <;> omega) | (refine @id _ ?_; with_unfolding_all exact Eq.refl _) | (simp only [List.length_take, List.length_drop, List.length_append, List.length_cons, List.length_nil, List.length_replicate, List.length_map] <;> omega)) only [rnL, opL, ruL, hpL, natL, outL, Nat.add_sub_cancel_left, Nat.mul_one, Nat.reduceAdd, Nat.reduceMul, Nat.reduceSub, Nat.reduceEqDiff, Nat.reduceLT, Nat.reduceLeDiff, litd_t, litd_f, decide_true, decide_false, Bool.not_true, Bool.not_false, not_true_eq_false, not_false_eq_true, true_and, and_true, false_and, and_false, true_or, or_true, false_or, or_false, Int.toNat_natCast, cond_true, cond_false, List.map_cons, List.map_nil, Option.map_some, Option.map_none]
  (first | refine RunB_i (fun h => ?_) (fun h => ?_) | refine RunG_i (fun h => ?_) (fun h => ?_) | refine RunB_ib (fun h => ?_) (fun h => ?_))
  · have h1 : IntKind.i64.wrap (Int.tdiv 2147483647 (w.length : Int)) = ((2147483647 / w.length : Nat) : Int) := by
      rw [show (2147483647 : Int) = ((2147483647 : Nat) : Int) from rfl, ← Int.ofNat_tdiv, wrap_i64]
      · exact Int.le_trans (by decide) (Int.natCast_nonneg _)
      · have := Nat.div_le_self 2147483647 w.length
        omega
    have h2 : 100 ≤ 2147483647 / w.length := by
      rw [Nat.le_div_iff_mul_le (by omega)]; omega
    have h3 : min n ((2147483647 / w.length : Nat) : Int) = n := by omega
    have h4 : max (min n 2147483647) 0 = ((n.toNat : Nat) : Int) := by omega
    simp -failIfUnchanged (disch := first | assumption | omega | (refine room_i _ _ ?_ ?_ <;> omega) | (refine @id _ ?_; with_unfolding_all exact Eq.refl _) | (simp only [List.length_take, List.length_drop, List.length_append, List.length_cons, List.length_nil, List.length_replicate, List.length_map] <;> omega)) only [rnL, opL, ruL, hpL, natL, outL, Nat.add_sub_cancel_left, Nat.mul_one, Nat.reduceAdd, Nat.reduceMul, Nat.reduceSub, Nat.reduceEqDiff, Nat.reduceLT, Nat.reduceLeDiff, litd_t, litd_f, decide_true, decide_false, Bool.not_true, Bool.not_false, not_true_eq_false, not_false_eq_true, true_and, and_true, false_and, and_false, true_or, or_true, false_or, or_false, Int.toNat_natCast, cond_true, cond_false, List.map_cons, List.map_nil, Option.map_some, Option.map_none, h1, h3, h4, repeat_is]
    (refine Fin_i (.inr rfl) rfl (by simp -failIfUnchanged (disch := first | assumption | omega | (refine room_i _ _ ?_ ?_ <;> omega) | (refine @id _ ?_; with_unfolding_all exact Eq.refl _) | (simp only [List.length_take, List.length_drop, List.length_append, List.length_cons, List.length_nil, List.length_replicate, List.length_map] <;> omega)) only [rnL, opL, ruL, hpL, natL, outL, Nat.add_sub_cancel_left, Nat.mul_one, Nat.reduceAdd, Nat.reduceMul, Nat.reduceSub, Nat.reduceEqDiff, Nat.reduceLT, Nat.reduceLeDiff, litd_t, litd_f, decide_true, decide_false, Bool.not_true, Bool.not_false, not_true_eq_false, not_false_eq_true, true_and, and_true, false_and, and_false, true_or, or_true, false_or, or_false, Int.toNat_natCast, cond_true, cond_false, List.map_cons, List.map_nil, Option.map_some, Option.map_none]) ?_; simp -failIfUnchanged (disch := first | assumption | omega | (refine room_i _ _ ?_ ?_ <;> omega) | (refine @id _ ?_; with_unfolding_all exact Eq.refl _) | (simp only [List.length_take, List.length_drop, List.length_append, List.length_cons, List.length_nil, List.length_replicate, List.length_map] <;> omega)) only [rnL, opL, ruL, hpL, natL, outL, Nat.add_sub_cancel_left, Nat.mul_one, Nat.reduceAdd, Nat.reduceMul, Nat.reduceSub, Nat.reduceEqDiff, Nat.reduceLT, Nat.reduceLeDiff, litd_t, litd_f, decide_true, decide_false, Bool.not_true, Bool.not_false, not_true_eq_false, not_false_eq_true, true_and, and_true, false_and, and_false, true_or, or_true, false_or, or_false, Int.toNat_natCast, cond_true, cond_false, List.map_cons, List.map_nil, Option.map_some, Option.map_none])
  · have h4 : max (min n 2147483647) 0 = ((n.toNat : Nat) : Int) := by omega
    simp -failIfUnchanged (disch := first | assumption | omega | (refine room_i _ _ ?_ ?_ <;> omega) | (refine @id _ ?_; with_unfolding_all exact Eq.refl _) | (simp only [List.length_take, List.length_drop, List.length_append, List.length_cons, List.length_nil, List.length_replicate, List.length_map] <;> omega)) only [rnL, opL, ruL, hpL, natL, outL, Nat.add_sub_cancel_left, Nat.mul_one, Nat.reduceAdd, Nat.reduceMul, Nat.reduceSub, Nat.reduceEqDiff, Nat.reduceLT, Nat.reduceLeDiff, litd_t, litd_f, decide_true, decide_false, Bool.not_true, Bool.not_false, not_true_eq_false, not_false_eq_true, true_and, and_true, false_and, and_false, true_or, or_true, false_or, or_false, Int.toNat_natCast, cond_true, cond_false, List.map_cons, List.map_nil, Option.map_some, Option.map_none, h4, repeat_is]
    (refine Fin_i (.inr rfl) rfl (by simp -failIfUnchanged (disch := first | assumption | omega | (refine room_i _ _ ?_ ?_ <;> omega) | (refine @id _ ?_; with_unfolding_all exact Eq.refl _) | (simp only [List.length_take, List.length_drop, List.length_append, List.length_cons, List.length_nil, List.length_replicate, List.length_map] <;> omega)) only [rnL, opL, ruL, hpL, natL, outL, Nat.add_sub_cancel_left, Nat.mul_one, Nat.reduceAdd, Nat.reduceMul, Nat.reduceSub, Nat.reduceEqDiff, Nat.reduceLT, Nat.reduceLeDiff, litd_t, litd_f, decide_true, decide_false, Bool.not_true, Bool.not_false, not_true_eq_false, not_false_eq_true, true_and, and_true, false_and, and_false, true_or, or_true, false_or, or_false, Int.toNat_natCast, cond_true, cond_false, List.map_cons, List.map_nil, Option.map_some, Option.map_none]) ?_; simp -failIfUnchanged (disch := first | assumption | omega | (refine room_i _ _ ?_ ?_ <;> omega) | (refine @id _ ?_; with_unfolding_all exact Eq.refl _) | (simp only [List.length_take, List.length_drop, List.length_append, List.length_cons, List.length_nil, List.length_replicate, List.length_map] <;> omega)) only [rnL, opL, ruL, hpL, natL, outL, Nat.add_sub_cancel_left, Nat.mul_one, Nat.reduceAdd, Nat.reduceMul, Nat.reduceSub, Nat.reduceEqDiff, Nat.reduceLT, Nat.reduceLeDiff, litd_t, litd_f, decide_true, decide_false, Bool.not_true, Bool.not_false, not_true_eq_false, not_false_eq_true, true_and, and_true, false_and, and_false, true_or, or_true, false_or, or_false, Int.toNat_natCast, cond_true, cond_false, List.map_cons, List.map_nil, Option.map_some, Option.map_none])
end Go.AS.Ft
