import Derived.Test.YtefnpnokbanbkaaFx2
set_option linter.all false
namespace Go.AS.Fw
open Go Go.Proofs
set_option maxHeartbeats 1000000

/-- No x from s on, for c places. -/
def NoX (x : Int) (l : List Int) (s c : Nat) : Prop := ∀ j, s ≤ j → j < s + c → l[j]? ≠ some x

theorem rows_spec (x : Int) (l : List Int) : ∀ n, n ≤ l.length →
    (rows x (l.take n)).2 ≤ n ∧ NoX x l (n - (rows x (l.take n)).2) (rows x (l.take n)).2 ∧ (∀ c, c ≤ n → NoX x l (n - c) c → c ≤ (rows x (l.take n)).2) ∧
    (∃ s, s + (rows x (l.take n)).1 ≤ n ∧ NoX x l s (rows x (l.take n)).1) ∧ (∀ s c, s + c ≤ n → NoX x l s c → c ≤ (rows x (l.take n)).1) := by
  intro n
  induction n with
  | zero =>
    intro _
    refine ⟨by simp [rows], fun j h1 h2 => by simp [rows] at h2, fun c hc _ => by omega, ⟨0, by simp [rows], fun j h1 h2 => by simp [rows] at h2⟩, fun s c hc _ => by omega⟩
  | succ n ih =>
    intro hn
    obtain ⟨a1, a2, a3, ⟨s, a4, a5⟩, a6⟩ := ih (by omega)
    have hget : l[n]? = some (l[n]'(by omega)) := List.getElem?_eq_getElem (by omega)
    rw [List.take_add_one, hget, Option.toList_some, rows_snoc]
    generalize rows x (l.take n) = q at *
    obtain ⟨M, R⟩ := q
    simp only at a1 a2 a3 a4 a5 a6
    simp only [rowStep]
    by_cases hx : l[n]'(by omega) = x
    · rw [if_pos hx]
      rw [hx] at hget
      refine ⟨by omega, fun j h1 h2 => by omega, fun c hc hno => ?_, ⟨s, by simp; omega, by simpa using a5⟩, fun s c hc hno => ?_⟩
      · rcases Nat.eq_zero_or_pos c with h | h
        · omega
        · exact absurd hget (hno n (by omega) (by omega))
      · simp only [Nat.max_zero]
        rcases Nat.lt_or_ge n (s + c) with h | h
        · rcases Nat.eq_zero_or_pos c with h0 | h0
          · omega
          · exact absurd hget (hno n (by omega) (by omega))
        · exact a6 s c h hno
    · rw [if_neg hx]
      have hne : l[n]? ≠ some x := by rw [hget]; simpa using hx
      have hR : NoX x l (n - R) (R + 1) := fun j h1 h2 => by
        rcases Nat.lt_or_ge j n with h | h
        · exact a2 j h1 (by omega)
        · have : j = n := by omega
          subst this; exact hne
      have hlast : ∀ c, c ≤ n + 1 → NoX x l (n + 1 - c) c → c ≤ R + 1 := fun c hc hno => by
        cases c with
        | zero => omega
        | succ c =>
          have := a3 c (by omega) fun j h1 h2 => hno j (by omega) (by omega)
          omega
      refine ⟨by omega, by rw [show n + 1 - (R + 1) = n - R by omega]; exact hR, hlast, ?_, fun s c hc hno => ?_⟩
      · rcases Nat.le_total M (R + 1) with h | h
        · exact ⟨n - R, by rw [Nat.max_eq_right h]; omega, by rw [Nat.max_eq_right h]; exact hR⟩
        · exact ⟨s, by rw [Nat.max_eq_left h]; omega, by rw [Nat.max_eq_left h]; exact a5⟩
      · rcases Nat.lt_or_ge n (s + c) with h | h
        · have := hlast c (by omega) (by rw [show n + 1 - c = s by omega]; exact hno)
          omega
        · have := a6 s c h hno
          omega

theorem mem_window (x : Int) (l : List Int) (i k : Nat) : x ∈ (l.drop i).take k ↔ ¬ NoX x l i k := by
  constructor
  · intro h hno
    obtain ⟨j, hj, he⟩ := List.mem_iff_getElem.1 h
    have hj' : j < k := by simp at hj; omega
    refine hno (i + j) (by omega) (by omega) ?_
    rw [← he]
    have := List.getElem?_eq_getElem hj
    rw [List.getElem?_take, if_pos hj', List.getElem?_drop] at this
    exact this
  · intro h
    have : ∃ j, i ≤ j ∧ j < i + k ∧ l[j]? = some x := by
      apply Classical.byContradiction
      intro hn
      exact h fun j h1 h2 h3 => hn ⟨j, h1, h2, h3⟩
    obtain ⟨j, h1, h2, h3⟩ := this
    refine List.mem_of_getElem? (i := j - i) ?_
    rw [List.getElem?_take, if_pos (by omega), List.getElem?_drop, show i + (j - i) = j by omega, h3]

theorem gap_iff (p w : List Int) (k : Nat) : gap p w ≤ k ↔ 1 ≤ k ∧ ∀ x ∈ w, (rows x p).1 + 1 ≤ k := by
  have key : ∀ (w : List Int) (m : Nat), w.foldl (gapStep p) m ≤ k ↔ m ≤ k ∧ ∀ x ∈ w, (rows x p).1 + 1 ≤ k := by
    intro w
    induction w with
    | nil => simp
    | cons y w ih =>
      intro m
      simp only [List.foldl_cons, ih, gapStep, List.mem_cons, forall_eq_or_imp, Nat.max_le, and_assoc]
  exact key w 1

/-- THE PLAIN LAW. -/
theorem allIn_iff (p w : List Int) (k : Nat) (hk : 1 ≤ k) : AllIn p w k ↔ gap p w ≤ k := by
  rw [gap_iff]
  constructor
  · intro h
    refine ⟨hk, fun x hx => ?_⟩
    obtain ⟨_, _, _, ⟨s, a4, a5⟩, _⟩ := rows_spec x p p.length (Nat.le_refl _)
    rw [List.take_length] at a4 a5
    apply Classical.byContradiction
    intro hn
    have := h s (by omega) (by omega) x hx
    rw [mem_window] at this
    exact this fun j h1 h2 => a5 j h1 (by omega)
  · rintro ⟨_, h⟩ i hi hik x hx
    obtain ⟨_, _, _, _, a6⟩ := rows_spec x p p.length (Nat.le_refl _)
    rw [List.take_length] at a6
    rw [mem_window]
    intro hno
    have := a6 i k hik hno
    have := h x hx
    omega

theorem gap_all (p w : List Int) : 1 ≤ gap p w ∧ gap p w ≤ p.length + 1 := by
  have := gap_le p w w.length (Nat.le_refl _)
  rwa [List.take_length] at this
theorem ref_fair_is (n1 n2 : Bool) (p w : List Int) (k : Int) (hk2 : k ≤ 9223372036854775807) (hp : p.length ≤ 1000) (hw : w.length ≤ 1000) : CallIs (funsOf Try.prog ann) 11 [sl n1 p, sl n2 w, .int .i64 k] (.bool (decide ((gap p w : Nat) ≤ k))) := by
  refine Gives.is ?_
  have hg := gap_all p w
  by_cases hk : 1 ≤ k
  · obtain ⟨k, rfl⟩ := Int.eq_ofNat_of_zero_le (show 0 ≤ k by omega)
    have := ref_fair_gives n1 n2 p w k (by omega) (by omega) hp hw
    have he : decide (AllIn p w k) = decide (((gap p w : Nat) : Int) ≤ (k : Int)) := by
      rw [decide_eq_decide, allIn_iff p w k (by omega)]; omega
    rwa [he] at this
  · refine Gives.of fn11 rfl rfl (args' := [sl n1 p, sl n2 w, .int .i64 k]) (by simp only [mapO, upf, up, ioL, hfree, hfrees, cond_true, Option.map_some, fg, fgs]) ?_
    simp only [ir11]
    simp -failIfUnchanged (disch := first | assumption | omega | (with_unfolding_all exact Eq.refl _) | (simp only [List.length_take, List.length_drop, List.length_append, List.length_cons, List.length_nil]; omega)) only [rnL, opL, ruL, natL, Nat.add_sub_cancel_left, Nat.reduceAdd, Nat.reduceMul, Nat.reduceSub, Nat.reduceEqDiff, Nat.reduceLT, Nat.reduceLeDiff, litd_t, litd_f, decide_true, decide_false, Bool.not_true, Bool.not_false, not_true_eq_false, not_false_eq_true, true_and, and_true, false_and, and_false, true_or, or_true, false_or, or_false, Int.toNat_natCast, cond_true, cond_false, List.map_cons, List.map_nil, Option.map_some, Option.map_none]
    (refine Fin_i (.inr rfl) rfl (by simp -failIfUnchanged (disch := first | assumption | omega | (with_unfolding_all exact Eq.refl _) | (simp only [List.length_take, List.length_drop, List.length_append, List.length_cons, List.length_nil]; omega)) only [rnL, opL, ruL, natL, Nat.add_sub_cancel_left, Nat.reduceAdd, Nat.reduceMul, Nat.reduceSub, Nat.reduceEqDiff, Nat.reduceLT, Nat.reduceLeDiff, litd_t, litd_f, decide_true, decide_false, Bool.not_true, Bool.not_false, not_true_eq_false, not_false_eq_true, true_and, and_true, false_and, and_false, true_or, or_true, false_or, or_false, Int.toNat_natCast, cond_true, cond_false, List.map_cons, List.map_nil, Option.map_some, Option.map_none, outL]) ?_; simp -failIfUnchanged (disch := first | assumption | omega | (with_unfolding_all exact Eq.refl _) | (simp only [List.length_take, List.length_drop, List.length_append, List.length_cons, List.length_nil]; omega)) only [rnL, opL, ruL, natL, Nat.add_sub_cancel_left, Nat.reduceAdd, Nat.reduceMul, Nat.reduceSub, Nat.reduceEqDiff, Nat.reduceLT, Nat.reduceLeDiff, litd_t, litd_f, decide_true, decide_false, Bool.not_true, Bool.not_false, not_true_eq_false, not_false_eq_true, true_and, and_true, false_and, and_false, true_or, or_true, false_or, or_false, Int.toNat_natCast, cond_true, cond_false, List.map_cons, List.map_nil, Option.map_some, Option.map_none, outL])
theorem ref_gap_is (n1 n2 : Bool) (p w : List Int) (hp : p.length ≤ 1000) (hw : w.length ≤ 1000) : CallIs (funsOf Try.prog ann) 12 [sl n1 p, sl n2 w] (.int .i64 (gap p w : Nat)) := by
  refine Gives.is ?_
  have hg := gap_all p w
  refine Gives.of fn12 rfl rfl (args' := [sl n1 p, sl n2 w]) (by simp only [mapO, upf, up, ioL, hfree, hfrees, cond_true, Option.map_some, fg, fgs]) ?_
  simp only [ir12]
  simp -failIfUnchanged (disch := first | assumption | omega | (with_unfolding_all exact Eq.refl _) | (simp only [List.length_take, List.length_drop, List.length_append, List.length_cons, List.length_nil]; omega)) only [rnL, opL, ruL, natL, Nat.add_sub_cancel_left, Nat.reduceAdd, Nat.reduceMul, Nat.reduceSub, Nat.reduceEqDiff, Nat.reduceLT, Nat.reduceLeDiff, litd_t, litd_f, decide_true, decide_false, Bool.not_true, Bool.not_false, not_true_eq_false, not_false_eq_true, true_and, and_true, false_and, and_false, true_or, or_true, false_or, or_false, Int.toNat_natCast, cond_true, cond_false, List.map_cons, List.map_nil, Option.map_some, Option.map_none]
  refine Run_upto (gap p w - 1) (fun i => [(0, sl n1 p), (1, sl n2 w), (4, .int .i64 0), (5, .int .i64 (i + 1 : Nat))]) (fun _ => [[]]) (fun _ => True) rfl rfl trivial ?_
  intro i hi _
  simp -failIfUnchanged (disch := first | assumption | omega | (with_unfolding_all exact Eq.refl _) | (simp only [List.length_take, List.length_drop, List.length_append, List.length_cons, List.length_nil]; omega)) only [rnL, opL, ruL, natL, Nat.add_sub_cancel_left, Nat.reduceAdd, Nat.reduceMul, Nat.reduceSub, Nat.reduceEqDiff, Nat.reduceLT, Nat.reduceLeDiff, litd_t, litd_f, decide_true, decide_false, Bool.not_true, Bool.not_false, not_true_eq_false, not_false_eq_true, true_and, and_true, false_and, and_false, true_or, or_true, false_or, or_false, Int.toNat_natCast, cond_true, cond_false, List.map_cons, List.map_nil, Option.map_some, Option.map_none, ref_fair_is]
  (first | refine RunB_i (fun h => ?_) (fun h => ?_) | refine RunG_i (fun h => ?_) (fun h => ?_) | refine RunB_ib (fun h => ?_) (fun h => ?_))
  · simp -failIfUnchanged (disch := first | assumption | omega | (with_unfolding_all exact Eq.refl _) | (simp only [List.length_take, List.length_drop, List.length_append, List.length_cons, List.length_nil]; omega)) only [rnL, opL, ruL, natL, Nat.add_sub_cancel_left, Nat.reduceAdd, Nat.reduceMul, Nat.reduceSub, Nat.reduceEqDiff, Nat.reduceLT, Nat.reduceLeDiff, litd_t, litd_f, decide_true, decide_false, Bool.not_true, Bool.not_false, not_true_eq_false, not_false_eq_true, true_and, and_true, false_and, and_false, true_or, or_true, false_or, or_false, Int.toNat_natCast, cond_true, cond_false, List.map_cons, List.map_nil, Option.map_some, Option.map_none]
    exact .i (by omega) (by first | exact trivial | rfl) (by first | exact trivial | rfl) trivial
  · simp -failIfUnchanged (disch := first | assumption | omega | (with_unfolding_all exact Eq.refl _) | (simp only [List.length_take, List.length_drop, List.length_append, List.length_cons, List.length_nil]; omega)) only [rnL, opL, ruL, natL, Nat.add_sub_cancel_left, Nat.reduceAdd, Nat.reduceMul, Nat.reduceSub, Nat.reduceEqDiff, Nat.reduceLT, Nat.reduceLeDiff, litd_t, litd_f, decide_true, decide_false, Bool.not_true, Bool.not_false, not_true_eq_false, not_false_eq_true, true_and, and_true, false_and, and_false, true_or, or_true, false_or, or_false, Int.toNat_natCast, cond_true, cond_false, List.map_cons, List.map_nil, Option.map_some, Option.map_none]
    (refine Fin_i (.inr rfl) rfl (by simp -failIfUnchanged (disch := first | assumption | omega | (with_unfolding_all exact Eq.refl _) | (simp only [List.length_take, List.length_drop, List.length_append, List.length_cons, List.length_nil]; omega)) only [rnL, opL, ruL, natL, Nat.add_sub_cancel_left, Nat.reduceAdd, Nat.reduceMul, Nat.reduceSub, Nat.reduceEqDiff, Nat.reduceLT, Nat.reduceLeDiff, litd_t, litd_f, decide_true, decide_false, Bool.not_true, Bool.not_false, not_true_eq_false, not_false_eq_true, true_and, and_true, false_and, and_false, true_or, or_true, false_or, or_false, Int.toNat_natCast, cond_true, cond_false, List.map_cons, List.map_nil, Option.map_some, Option.map_none, outL]) ?_; simp -failIfUnchanged (disch := first | assumption | omega | (with_unfolding_all exact Eq.refl _) | (simp only [List.length_take, List.length_drop, List.length_append, List.length_cons, List.length_nil]; omega)) only [rnL, opL, ruL, natL, Nat.add_sub_cancel_left, Nat.reduceAdd, Nat.reduceMul, Nat.reduceSub, Nat.reduceEqDiff, Nat.reduceLT, Nat.reduceLeDiff, litd_t, litd_f, decide_true, decide_false, Bool.not_true, Bool.not_false, not_true_eq_false, not_false_eq_true, true_and, and_true, false_and, and_false, true_or, or_true, false_or, or_false, Int.toNat_natCast, cond_true, cond_false, List.map_cons, List.map_nil, Option.map_some, Option.map_none, outL])
    simp; omega
theorem few_is (nl : Bool) (l : List Int) (hl : l.length ≤ 9223372036854775807) : CallIs (funsOf Try.prog ann) 8 [sl nl l] (sl nl (l.take 60)) := (few_gives nl l hl).is
theorem gap_is (n1 n2 : Bool) (p w : List Int) (hp : p.length ≤ 1000) (hw : w.length ≤ 1000) : CallIs (funsOf Try.prog ann) 9 [sl n1 p, sl n2 w] (.int .i64 (gap p w : Nat)) := (gap_gives n1 n2 p w hp hw).is
theorem fair_is (n1 n2 : Bool) (p w : List Int) (k : Int) (hp : p.length ≤ 1000) (hw : w.length ≤ 1000) : CallIs (funsOf Try.prog ann) 10 [sl n1 p, sl n2 w, .int .i64 k] (.bool (decide ((gap p w : Nat) ≤ k))) := (fair_gives n1 n2 p w k hp hw).is
theorem live_is : CallIs (funsOf Try.prog ann) 13 [] (.bool true) := Gives.is ⟨60, live_gives⟩

theorem law (n1 n2 : Bool) (p0 w0 : List Int) (k : Int) (hp0 : p0.length ≤ 9223372036854775807) (hw0 : w0.length ≤ 9223372036854775807) (hk2 : k ≤ 9223372036854775807) : Gives (funsOf Try.prog ann) 3 [sl n1 p0, sl n2 w0, .int .i64 k] (.bool true) := by
  have fp := few_is n1 p0 hp0
  have fw := few_is n2 w0 hw0
  have hp : (p0.take 60).length ≤ 60 := by simp; omega
  have hw : (w0.take 60).length ≤ 60 := by simp; omega
  generalize p0.take 60 = p at *
  generalize w0.take 60 = w at *
  have hg := gap_all p w
  refine Gives.of fn3 rfl rfl (args' := [sl n1 p0, sl n2 w0, .int .i64 k]) (by simp only [mapO, upf, up, ioL, hfree, hfrees, cond_true, Option.map_some, fg, fgs]) ?_
  simp only [ir3]
  simp -failIfUnchanged (disch := first | assumption | omega | (with_unfolding_all exact Eq.refl _) | (simp only [List.length_take, List.length_drop, List.length_append, List.length_cons, List.length_nil]; omega)) only [rnL, opL, ruL, natL, Nat.add_sub_cancel_left, Nat.reduceAdd, Nat.reduceMul, Nat.reduceSub, Nat.reduceEqDiff, Nat.reduceLT, Nat.reduceLeDiff, litd_t, litd_f, decide_true, decide_false, Bool.not_true, Bool.not_false, not_true_eq_false, not_false_eq_true, true_and, and_true, false_and, and_false, true_or, or_true, false_or, or_false, Int.toNat_natCast, cond_true, cond_false, List.map_cons, List.map_nil, Option.map_some, Option.map_none, fp, fw, gap_is, fair_is, ref_fair_is, ref_gap_is, live_is]
  (first | refine RunB_i (fun h => ?_) (fun h => ?_) | refine RunG_i (fun h => ?_) (fun h => ?_) | refine RunB_ib (fun h => ?_) (fun h => ?_))
  · simp -failIfUnchanged (disch := first | assumption | omega | (with_unfolding_all exact Eq.refl _) | (simp only [List.length_take, List.length_drop, List.length_append, List.length_cons, List.length_nil]; omega)) only [rnL, opL, ruL, natL, Nat.add_sub_cancel_left, Nat.reduceAdd, Nat.reduceMul, Nat.reduceSub, Nat.reduceEqDiff, Nat.reduceLT, Nat.reduceLeDiff, litd_t, litd_f, decide_true, decide_false, Bool.not_true, Bool.not_false, not_true_eq_false, not_false_eq_true, true_and, and_true, false_and, and_false, true_or, or_true, false_or, or_false, Int.toNat_natCast, cond_true, cond_false, List.map_cons, List.map_nil, Option.map_some, Option.map_none]
    (refine Fin_i (.inr rfl) rfl (by simp -failIfUnchanged (disch := first | assumption | omega | (with_unfolding_all exact Eq.refl _) | (simp only [List.length_take, List.length_drop, List.length_append, List.length_cons, List.length_nil]; omega)) only [rnL, opL, ruL, natL, Nat.add_sub_cancel_left, Nat.reduceAdd, Nat.reduceMul, Nat.reduceSub, Nat.reduceEqDiff, Nat.reduceLT, Nat.reduceLeDiff, litd_t, litd_f, decide_true, decide_false, Bool.not_true, Bool.not_false, not_true_eq_false, not_false_eq_true, true_and, and_true, false_and, and_false, true_or, or_true, false_or, or_false, Int.toNat_natCast, cond_true, cond_false, List.map_cons, List.map_nil, Option.map_some, Option.map_none, outL]) ?_; simp -failIfUnchanged (disch := first | assumption | omega | (with_unfolding_all exact Eq.refl _) | (simp only [List.length_take, List.length_drop, List.length_append, List.length_cons, List.length_nil]; omega)) only [rnL, opL, ruL, natL, Nat.add_sub_cancel_left, Nat.reduceAdd, Nat.reduceMul, Nat.reduceSub, Nat.reduceEqDiff, Nat.reduceLT, Nat.reduceLeDiff, litd_t, litd_f, decide_true, decide_false, Bool.not_true, Bool.not_false, not_true_eq_false, not_false_eq_true, true_and, and_true, false_and, and_false, true_or, or_true, false_or, or_false, Int.toNat_natCast, cond_true, cond_false, List.map_cons, List.map_nil, Option.map_some, Option.map_none, outL])
  · simp -failIfUnchanged (disch := first | assumption | omega | (with_unfolding_all exact Eq.refl _) | (simp only [List.length_take, List.length_drop, List.length_append, List.length_cons, List.length_nil]; omega)) only [rnL, opL, ruL, natL, Nat.add_sub_cancel_left, Nat.reduceAdd, Nat.reduceMul, Nat.reduceSub, Nat.reduceEqDiff, Nat.reduceLT, Nat.reduceLeDiff, litd_t, litd_f, decide_true, decide_false, Bool.not_true, Bool.not_false, not_true_eq_false, not_false_eq_true, true_and, and_true, false_and, and_false, true_or, or_true, false_or, or_false, Int.toNat_natCast, cond_true, cond_false, List.map_cons, List.map_nil, Option.map_some, Option.map_none, fair_is]
    (refine Fin_i (.inr rfl) rfl (by simp -failIfUnchanged (disch := first | assumption | omega | (with_unfolding_all exact Eq.refl _) | (simp only [List.length_take, List.length_drop, List.length_append, List.length_cons, List.length_nil]; omega)) only [rnL, opL, ruL, natL, Nat.add_sub_cancel_left, Nat.reduceAdd, Nat.reduceMul, Nat.reduceSub, Nat.reduceEqDiff, Nat.reduceLT, Nat.reduceLeDiff, litd_t, litd_f, decide_true, decide_false, Bool.not_true, Bool.not_false, not_true_eq_false, not_false_eq_true, true_and, and_true, false_and, and_false, true_or, or_true, false_or, or_false, Int.toNat_natCast, cond_true, cond_false, List.map_cons, List.map_nil, Option.map_some, Option.map_none, outL]) ?_; simp -failIfUnchanged (disch := first | assumption | omega | (with_unfolding_all exact Eq.refl _) | (simp only [List.length_take, List.length_drop, List.length_append, List.length_cons, List.length_nil]; omega)) only [rnL, opL, ruL, natL, Nat.add_sub_cancel_left, Nat.reduceAdd, Nat.reduceMul, Nat.reduceSub, Nat.reduceEqDiff, Nat.reduceLT, Nat.reduceLeDiff, litd_t, litd_f, decide_true, decide_false, Bool.not_true, Bool.not_false, not_true_eq_false, not_false_eq_true, true_and, and_true, false_and, and_false, true_or, or_true, false_or, or_false, Int.toNat_natCast, cond_true, cond_false, List.map_cons, List.map_nil, Option.map_some, Option.map_none, outL])
end Go.AS.Fw
