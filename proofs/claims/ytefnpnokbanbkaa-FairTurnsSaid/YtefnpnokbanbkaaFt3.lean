import Derived.Test.YtefnpnokbanbkaaFt2
set_option linter.all false
namespace Go.AS.Ft
open Go Go.AS Go.Proofs
set_option maxHeartbeats 1000000

/-- The keys of a map. -/
def keys (l : List (Int × Nat)) : List Int := l.map Prod.fst
theorem addK_mem {l : List (Int × Nat)} {x y : Int} {c : Nat} : y ∈ keys (addK l x c) ↔ y ∈ keys l ∨ y = x := by
  unfold addK keys
  by_cases h : x ∈ l.map Prod.fst
  · rw [if_pos h]
    exact ⟨.inl, fun hh => hh.elim id fun e => e ▸ h⟩
  · rw [if_neg h]; simp
theorem addK_nodup {l : List (Int × Nat)} {x : Int} {c : Nat} (h : (keys l).Nodup) : (keys (addK l x c)).Nodup := by
  unfold addK
  by_cases hx : x ∈ l.map Prod.fst
  · rw [if_pos hx]; exact h
  · rw [if_neg hx]
    unfold keys
    rw [List.map_append, List.nodup_append]
    refine ⟨h, by simp, ?_⟩
    intro a ha b hb
    simp at hb
    subst hb
    intro e
    subst e
    exact hx ha
theorem nodup_le : ∀ {A B : List Int}, A.Nodup → (∀ x ∈ A, x ∈ B) → A.length ≤ B.length
  | [], _, _, _ => Nat.zero_le _
  | a :: r, B, h, hs => by
    have ha : a ∈ B := hs a (by simp)
    have h1 := nodup_le (A := r) (B := B.erase a) (List.nodup_cons.1 h).2 (fun x hx => by
      rw [List.mem_erase_of_ne]
      · exact hs x (by simp [hx])
      · intro e; subst e; exact (List.nodup_cons.1 h).1 hx)
    rw [List.length_erase_of_mem ha] at h1
    have : 0 < B.length := List.length_pos_of_mem ha
    simp; omega
theorem len_eq_iff {A B : List Int} (hA : A.Nodup) (hB : B.Nodup) (hs : ∀ x ∈ A, x ∈ B) : A.length = B.length ↔ ∀ x ∈ B, x ∈ A := by
  constructor
  · intro h x hx
    apply Classical.byContradiction
    intro hn
    have := nodup_le (A := x :: A) (B := B) (List.nodup_cons.2 ⟨hn, hA⟩) (fun y hy => by
      rcases List.mem_cons.1 hy with e | e
      · exact e ▸ hx
      · exact hs y e)
    simp at this
    omega
  · intro h
    exact Nat.le_antisymm (nodup_le hA hs) (nodup_le hB h)
/-- What is needed. -/
def nd (w : List Int) : Nat → List (Int × Nat) × Nat
  | 0 => ([], 0)
  | k + 1 => (addK (nd w k).1 (w.getD k 0) (nd w k).2, addC (nd w k).1 (w.getD k 0) (nd w k).2)
theorem nd_mem (w : List Int) : ∀ k, k ≤ w.length → ((keys (nd w k).1).Nodup ∧ ∀ x, x ∈ keys (nd w k).1 ↔ x ∈ w.take k) := by
  intro k
  induction k with
  | zero => intro _; simp [nd, keys]
  | succ k ih =>
    intro hk
    obtain ⟨h1, h2⟩ := ih (by omega)
    have hg : w.getD k 0 = w[k] := by rw [List.getD_eq_getElem?_getD, List.getElem?_eq_getElem (by omega)]; rfl
    refine ⟨addK_nodup h1, fun x => ?_⟩
    rw [show (nd w (k + 1)).1 = addK (nd w k).1 (w.getD k 0) (nd w k).2 from rfl, addK_mem, h2, take_snoc w k (by omega), hg]
    simp only [List.mem_append, List.mem_singleton]
theorem nd_len (w : List Int) (k : Nat) (h : k ≤ w.length) : (nd w k).1.length ≤ w.length := by
  have := nodup_le (nd_mem w k h).1 (fun x hx => List.mem_of_mem_take (((nd_mem w k h).2 x).1 hx))
  simpa [keys] using this

theorem clone_f (l : List Int) (hl : l.length ≤ 100000) : CallIs F 45 [sl false l] (sl false l) := clone_is false l (fun h => by cases h) hl
theorem turns_is (n1 n2 : Bool) (p w : List Int) (hn : n1 = true → p = []) (hp : p.length ≤ 60) (hw : w.length ≤ 60) : CallIs F 14 [sl n1 p, sl n2 w] (sl (tn p w p.length).1.isEmpty ((tn p w p.length).1.map (Sl.mk n1))) := by
  refine Gives.is ?_
  refine Gives.of fn14 rfl rfl (args' := [sl n1 p, sl n2 w]) (by simp only [mapO_nil, mapO_c2, consO_some, upf_v]) ?_
  simp only [ir14]
  simp -failIfUnchanged (disch := first | assumption | omega | (refine room_i _ _ ?_ ?_ <;> omega) | (refine @id _ ?_; with_unfolding_all exact Eq.refl _) | (simp only [List.length_take, List.length_drop, List.length_append, List.length_cons, List.length_nil, List.length_replicate, List.length_map] <;> omega)) only [rnL, opL, ruL, hpL, natL, outL, Nat.add_sub_cancel_left, Nat.mul_one, Nat.reduceAdd, Nat.reduceMul, Nat.reduceSub, Nat.reduceEqDiff, Nat.reduceLT, Nat.reduceLeDiff, litd_t, litd_f, decide_true, decide_false, Bool.not_true, Bool.not_false, not_true_eq_false, not_false_eq_true, true_and, and_true, false_and, and_false, true_or, or_true, false_or, or_false, Int.toNat_natCast, cond_true, cond_false, List.map_cons, List.map_nil, Option.map_some, Option.map_none]
  refine Run_upto w.length (fun k => [(0, sl n1 p), (1, sl n2 w), (4, AV.imm true 0 0 (some 0) []), (5, AV.map 0), (14, sl n2 w), (15, AV.int IntKind.i64 w.length), (16, AV.int IntKind.i64 k)]) (fun k => [[setO (nd w k).1 (nd w k).2]]) (fun _ => True) rfl rfl trivial ?_
  intro k hk _
  simp -failIfUnchanged (disch := first | assumption | omega | (refine room_i _ _ ?_ ?_ <;> omega) | (refine @id _ ?_; with_unfolding_all exact Eq.refl _) | (simp only [List.length_take, List.length_drop, List.length_append, List.length_cons, List.length_nil, List.length_replicate, List.length_map] <;> omega)) only [rnL, opL, ruL, hpL, natL, outL, Nat.add_sub_cancel_left, Nat.mul_one, Nat.reduceAdd, Nat.reduceMul, Nat.reduceSub, Nat.reduceEqDiff, Nat.reduceLT, Nat.reduceLeDiff, litd_t, litd_f, decide_true, decide_false, Bool.not_true, Bool.not_false, not_true_eq_false, not_false_eq_true, true_and, and_true, false_and, and_false, true_or, or_true, false_or, or_false, Int.toNat_natCast, cond_true, cond_false, List.map_cons, List.map_nil, Option.map_some, Option.map_none]
  (first | refine RunB_i (fun h => ?_) (fun h => ?_) | refine RunG_i (fun h => ?_) (fun h => ?_) | refine RunB_ib (fun h => ?_) (fun h => ?_))
  · have hlt : k < w.length := by omega
    have hg : w[k] = w.getD k 0 := by rw [List.getD_eq_getElem?_getD, List.getElem?_eq_getElem (by omega)]; rfl
    simp -failIfUnchanged (disch := first | assumption | omega | (refine room_i _ _ ?_ ?_ <;> omega) | (refine @id _ ?_; with_unfolding_all exact Eq.refl _) | (simp only [List.length_take, List.length_drop, List.length_append, List.length_cons, List.length_nil, List.length_replicate, List.length_map] <;> omega)) only [rnL, opL, ruL, hpL, natL, outL, Nat.add_sub_cancel_left, Nat.mul_one, Nat.reduceAdd, Nat.reduceMul, Nat.reduceSub, Nat.reduceEqDiff, Nat.reduceLT, Nat.reduceLeDiff, litd_t, litd_f, decide_true, decide_false, Bool.not_true, Bool.not_false, not_true_eq_false, not_false_eq_true, true_and, and_true, false_and, and_false, true_or, or_true, false_or, or_false, Int.toNat_natCast, cond_true, cond_false, List.map_cons, List.map_nil, Option.map_some, Option.map_none]
    rw [hg]
    exact .i hlt (by first | exact trivial | rfl) (by first | exact trivial | rfl) trivial
  · have : k = w.length := by omega
    subst this
    obtain ⟨m1, m2⟩ := nd_mem w w.length (Nat.le_refl _)
    rw [List.take_length] at m2
    have hnl := nd_len w w.length (Nat.le_refl _)
    simp -failIfUnchanged (disch := first | assumption | omega | (refine room_i _ _ ?_ ?_ <;> omega) | (refine @id _ ?_; with_unfolding_all exact Eq.refl _) | (simp only [List.length_take, List.length_drop, List.length_append, List.length_cons, List.length_nil, List.length_replicate, List.length_map] <;> omega)) only [rnL, opL, ruL, hpL, natL, outL, Nat.add_sub_cancel_left, Nat.mul_one, Nat.reduceAdd, Nat.reduceMul, Nat.reduceSub, Nat.reduceEqDiff, Nat.reduceLT, Nat.reduceLeDiff, litd_t, litd_f, decide_true, decide_false, Bool.not_true, Bool.not_false, not_true_eq_false, not_false_eq_true, true_and, and_true, false_and, and_false, true_or, or_true, false_or, or_false, Int.toNat_natCast, cond_true, cond_false, List.map_cons, List.map_nil, Option.map_some, Option.map_none]
    (first | refine RunB_i (fun h0 => ?_) (fun h0 => ?_) | refine RunG_i (fun h0 => ?_) (fun h0 => ?_) | refine RunB_ib (fun h0 => ?_) (fun h0 => ?_))
    · have hw0 : w = [] := by
        cases w with
        | nil => rfl
        | cons a r =>
          have := (m2 a).2 (by simp)
          have hl : (nd (a :: r) (a :: r).length).1 = [] := List.length_eq_zero_iff.1 (by omega)
          rw [hl] at this
          simp [keys] at this
      have ht : ∀ i, (tn p w i).1 = [] := fun i => by
        induction i with
        | zero => rfl
        | succ i ih =>
          rw [tn_neg (fun hh => hh.1 hw0)]
          exact ih
      simp -failIfUnchanged (disch := first | assumption | omega | (refine room_i _ _ ?_ ?_ <;> omega) | (refine @id _ ?_; with_unfolding_all exact Eq.refl _) | (simp only [List.length_take, List.length_drop, List.length_append, List.length_cons, List.length_nil, List.length_replicate, List.length_map] <;> omega)) only [rnL, opL, ruL, hpL, natL, outL, Nat.add_sub_cancel_left, Nat.mul_one, Nat.reduceAdd, Nat.reduceMul, Nat.reduceSub, Nat.reduceEqDiff, Nat.reduceLT, Nat.reduceLeDiff, litd_t, litd_f, decide_true, decide_false, Bool.not_true, Bool.not_false, not_true_eq_false, not_false_eq_true, true_and, and_true, false_and, and_false, true_or, or_true, false_or, or_false, Int.toNat_natCast, cond_true, cond_false, List.map_cons, List.map_nil, Option.map_some, Option.map_none]
      (refine Fin_i (.inr rfl) rfl (by simp -failIfUnchanged (disch := first | assumption | omega | (refine room_i _ _ ?_ ?_ <;> omega) | (refine @id _ ?_; with_unfolding_all exact Eq.refl _) | (simp only [List.length_take, List.length_drop, List.length_append, List.length_cons, List.length_nil, List.length_replicate, List.length_map] <;> omega)) only [rnL, opL, ruL, hpL, natL, outL, Nat.add_sub_cancel_left, Nat.mul_one, Nat.reduceAdd, Nat.reduceMul, Nat.reduceSub, Nat.reduceEqDiff, Nat.reduceLT, Nat.reduceLeDiff, litd_t, litd_f, decide_true, decide_false, Bool.not_true, Bool.not_false, not_true_eq_false, not_false_eq_true, true_and, and_true, false_and, and_false, true_or, or_true, false_or, or_false, Int.toNat_natCast, cond_true, cond_false, List.map_cons, List.map_nil, Option.map_some, Option.map_none]) ?_; simp -failIfUnchanged (disch := first | assumption | omega | (refine room_i _ _ ?_ ?_ <;> omega) | (refine @id _ ?_; with_unfolding_all exact Eq.refl _) | (simp only [List.length_take, List.length_drop, List.length_append, List.length_cons, List.length_nil, List.length_replicate, List.length_map] <;> omega)) only [rnL, opL, ruL, hpL, natL, outL, Nat.add_sub_cancel_left, Nat.mul_one, Nat.reduceAdd, Nat.reduceMul, Nat.reduceSub, Nat.reduceEqDiff, Nat.reduceLT, Nat.reduceLeDiff, litd_t, litd_f, decide_true, decide_false, Bool.not_true, Bool.not_false, not_true_eq_false, not_false_eq_true, true_and, and_true, false_and, and_false, true_or, or_true, false_or, or_false, Int.toNat_natCast, cond_true, cond_false, List.map_cons, List.map_nil, Option.map_some, Option.map_none])
      rw [ht]
      rfl
    · have hwne : w ≠ [] := fun e => by subst e; simp [nd] at h0
      simp -failIfUnchanged (disch := first | assumption | omega | (refine room_i _ _ ?_ ?_ <;> omega) | (refine @id _ ?_; with_unfolding_all exact Eq.refl _) | (simp only [List.length_take, List.length_drop, List.length_append, List.length_cons, List.length_nil, List.length_replicate, List.length_map] <;> omega)) only [rnL, opL, ruL, hpL, natL, outL, Nat.add_sub_cancel_left, Nat.mul_one, Nat.reduceAdd, Nat.reduceMul, Nat.reduceSub, Nat.reduceEqDiff, Nat.reduceLT, Nat.reduceLeDiff, litd_t, litd_f, decide_true, decide_false, Bool.not_true, Bool.not_false, not_true_eq_false, not_false_eq_true, true_and, and_true, false_and, and_false, true_or, or_true, false_or, or_false, Int.toNat_natCast, cond_true, cond_false, List.map_cons, List.map_nil, Option.map_some, Option.map_none]
      refine Run_loop (σ := Nat × List (Int × Nat) × Nat)
        (fun s => [(0, sl n1 p), (1, sl n2 w), (4, AV.imm true 0 0 (some 0) []), (5, AV.map 0), (8, bv 2 true ((tn p w s.1).1.map (Sl.mk n1))), (9, AV.map 1), (10, AV.int IntKind.i64 (tn p w s.1).2), (14, sl n2 w), (15, AV.int IntKind.i64 w.length),
          (16, AV.int IntKind.i64 w.length), (25, AV.bool false), (27, sl n1 p), (28, AV.int IntKind.i64 p.length), (29, AV.int IntKind.i64 s.1)])
        (fun s => [bh [setO (nd w w.length).1 (nd w w.length).2, setO s.2.1 s.2.2] ((tn p w s.1).1.map (Sl.mk n1))])
        (fun s => s.1 ≤ p.length ∧ (keys s.2.1).Nodup ∧ ∀ x, x ∈ keys s.2.1 ↔ x ∈ w ∧ x ∈ seg p (tn p w s.1).2 s.1) (fun s => p.length - s.1) (0, [], 0) rfl rfl ⟨Nat.zero_le _, by simp [keys], by simp [keys, seg, tn]⟩ ?_
      rintro ⟨i, S, c⟩ ⟨hi, hnd, hS⟩
      simp only at hi hnd hS
      have hb := tn_le p w i
      simp -failIfUnchanged (disch := first | assumption | omega | (refine room_i _ _ ?_ ?_ <;> omega) | (refine @id _ ?_; with_unfolding_all exact Eq.refl _) | (simp only [List.length_take, List.length_drop, List.length_append, List.length_cons, List.length_nil, List.length_replicate, List.length_map] <;> omega)) only [rnL, opL, ruL, hpL, natL, outL, Nat.add_sub_cancel_left, Nat.mul_one, Nat.reduceAdd, Nat.reduceMul, Nat.reduceSub, Nat.reduceEqDiff, Nat.reduceLT, Nat.reduceLeDiff, litd_t, litd_f, decide_true, decide_false, Bool.not_true, Bool.not_false, not_true_eq_false, not_false_eq_true, true_and, and_true, false_and, and_false, true_or, or_true, false_or, or_false, Int.toNat_natCast, cond_true, cond_false, List.map_cons, List.map_nil, Option.map_some, Option.map_none]
      (first | refine RunB_i (fun h1 => ?_) (fun h1 => ?_) | refine RunG_i (fun h1 => ?_) (fun h1 => ?_) | refine RunB_ib (fun h1 => ?_) (fun h1 => ?_))
      · have hlt : i < p.length := by omega
        have hn1 : n1 = false := by
          cases n1 with
          | false => rfl
          | true => rw [hn rfl] at hlt; simp at hlt
        subst hn1
        have hol : ((tn p w i).1.map (Sl.mk false)).length ≤ 60 := by simp; omega
        have hsg : seg p (tn p w i).2 (i + 1) = seg p (tn p w i).2 i ++ [p[i]] := by
          unfold seg
          rw [show i + 1 - (tn p w i).2 = (i - (tn p w i).2) + 1 by omega, List.take_add_one, List.getElem?_drop, show (tn p w i).2 + (i - (tn p w i).2) = i by omega, List.getElem?_eq_getElem hlt]
          rfl
        -- what the round makes of the keys that were seen
        have key : ∀ (S' : List (Int × Nat)), (keys S').Nodup → (∀ x, x ∈ keys S' ↔ x ∈ w ∧ x ∈ seg p (tn p w i).2 (i + 1)) → ((S'.length : Int) = ((nd w w.length).1.length : Int) ↔ (w ≠ [] ∧ ∀ y ∈ w, y ∈ seg p (tn p w i).2 (i + 1))) := by
          intro S' k1 k2
          have := len_eq_iff k1 m1 (fun x hx => (m2 x).2 ((k2 x).1 hx).1)
          simp only [keys, List.length_map] at this
          constructor
          · intro e
            refine ⟨hwne, fun y hy => ((k2 y).1 ((this.1 (by omega)) y ((m2 y).2 hy))).2⟩
          · intro e
            have h3 := this.2 (fun x hx => (k2 x).2 ⟨(m2 x).1 hx, e.2 x ((m2 x).1 hx)⟩)
            omega
        by_cases hx : p[i] ∈ (nd w w.length).1.map Prod.fst
        · have hxw : p[i] ∈ w := (m2 _).1 hx
          have k1 : (keys (addK S p[i] c)).Nodup := addK_nodup hnd
          have k2 : ∀ x, x ∈ keys (addK S p[i] c) ↔ x ∈ w ∧ x ∈ seg p (tn p w i).2 (i + 1) := by
            intro x
            rw [addK_mem, hS, hsg]
            simp only [List.mem_append, List.mem_singleton]
            constructor
            · rintro (h | h)
              · exact ⟨h.1, .inl h.2⟩
              · exact ⟨h ▸ hxw, .inr h⟩
            · rintro ⟨h, h2 | h2⟩
              · exact .inl ⟨h, h2⟩
              · exact .inr h2
          have hkey := key _ k1 k2
          simp -failIfUnchanged (disch := first | assumption | omega | (refine room_i _ _ ?_ ?_ <;> omega) | (refine @id _ ?_; with_unfolding_all exact Eq.refl _) | (simp only [List.length_take, List.length_drop, List.length_append, List.length_cons, List.length_nil, List.length_replicate, List.length_map] <;> omega)) only [rnL, opL, ruL, hpL, natL, outL, Nat.add_sub_cancel_left, Nat.mul_one, Nat.reduceAdd, Nat.reduceMul, Nat.reduceSub, Nat.reduceEqDiff, Nat.reduceLT, Nat.reduceLeDiff, litd_t, litd_f, decide_true, decide_false, Bool.not_true, Bool.not_false, not_true_eq_false, not_false_eq_true, true_and, and_true, false_and, and_false, true_or, or_true, false_or, or_false, Int.toNat_natCast, cond_true, cond_false, List.map_cons, List.map_nil, Option.map_some, Option.map_none, if_pos hx]
          (first | refine RunB_i (fun h2 => ?_) (fun h2 => ?_) | refine RunG_i (fun h2 => ?_) (fun h2 => ?_) | refine RunB_ib (fun h2 => ?_) (fun h2 => ?_))
          · have htn := hkey.1 h2
            simp -failIfUnchanged (disch := first | assumption | omega | (refine room_i _ _ ?_ ?_ <;> omega) | (refine @id _ ?_; with_unfolding_all exact Eq.refl _) | (simp only [List.length_take, List.length_drop, List.length_append, List.length_cons, List.length_nil, List.length_replicate, List.length_map] <;> omega)) only [rnL, opL, ruL, hpL, natL, outL, Nat.add_sub_cancel_left, Nat.mul_one, Nat.reduceAdd, Nat.reduceMul, Nat.reduceSub, Nat.reduceEqDiff, Nat.reduceLT, Nat.reduceLeDiff, litd_t, litd_f, decide_true, decide_false, Bool.not_true, Bool.not_false, not_true_eq_false, not_false_eq_true, true_and, and_true, false_and, and_false, true_or, or_true, false_or, or_false, Int.toNat_natCast, cond_true, cond_false, List.map_cons, List.map_nil, Option.map_some, Option.map_none, clone_f]
            refine .i (i + 1, [], addC S p[i] c) (by rw [tn_pos htn]; simp [seg]) (by rw [tn_pos htn]; simp [seg]) ⟨hlt, by simp [keys], by rw [tn_pos htn]; simp [keys, seg]⟩ (by show p.length - (i + 1) < p.length - i; omega)
          · have htn := fun e => h2 (hkey.2 e)
            simp -failIfUnchanged (disch := first | assumption | omega | (refine room_i _ _ ?_ ?_ <;> omega) | (refine @id _ ?_; with_unfolding_all exact Eq.refl _) | (simp only [List.length_take, List.length_drop, List.length_append, List.length_cons, List.length_nil, List.length_replicate, List.length_map] <;> omega)) only [rnL, opL, ruL, hpL, natL, outL, Nat.add_sub_cancel_left, Nat.mul_one, Nat.reduceAdd, Nat.reduceMul, Nat.reduceSub, Nat.reduceEqDiff, Nat.reduceLT, Nat.reduceLeDiff, litd_t, litd_f, decide_true, decide_false, Bool.not_true, Bool.not_false, not_true_eq_false, not_false_eq_true, true_and, and_true, false_and, and_false, true_or, or_true, false_or, or_false, Int.toNat_natCast, cond_true, cond_false, List.map_cons, List.map_nil, Option.map_some, Option.map_none]
            refine .i (i + 1, addK S p[i] c, addC S p[i] c) (by rw [tn_neg htn]) (by rw [tn_neg htn]) ⟨hlt, k1, by rw [tn_neg htn]; exact k2⟩ (by show p.length - (i + 1) < p.length - i; omega)
        · have hxw : ¬ p[i] ∈ w := fun h => hx ((m2 _).2 h)
          have k2 : ∀ x, x ∈ keys S ↔ x ∈ w ∧ x ∈ seg p (tn p w i).2 (i + 1) := by
            intro x
            rw [hS, hsg]
            simp only [List.mem_append, List.mem_singleton]
            constructor
            · rintro ⟨h, h2⟩; exact ⟨h, .inl h2⟩
            · rintro ⟨h, h2 | h2⟩
              · exact ⟨h, h2⟩
              · exact absurd (h2 ▸ h) hxw
          have hkey := key _ hnd k2
          simp -failIfUnchanged (disch := first | assumption | omega | (refine room_i _ _ ?_ ?_ <;> omega) | (refine @id _ ?_; with_unfolding_all exact Eq.refl _) | (simp only [List.length_take, List.length_drop, List.length_append, List.length_cons, List.length_nil, List.length_replicate, List.length_map] <;> omega)) only [rnL, opL, ruL, hpL, natL, outL, Nat.add_sub_cancel_left, Nat.mul_one, Nat.reduceAdd, Nat.reduceMul, Nat.reduceSub, Nat.reduceEqDiff, Nat.reduceLT, Nat.reduceLeDiff, litd_t, litd_f, decide_true, decide_false, Bool.not_true, Bool.not_false, not_true_eq_false, not_false_eq_true, true_and, and_true, false_and, and_false, true_or, or_true, false_or, or_false, Int.toNat_natCast, cond_true, cond_false, List.map_cons, List.map_nil, Option.map_some, Option.map_none, if_neg hx]
          (first | refine RunB_i (fun h2 => ?_) (fun h2 => ?_) | refine RunG_i (fun h2 => ?_) (fun h2 => ?_) | refine RunB_ib (fun h2 => ?_) (fun h2 => ?_))
          · have htn := hkey.1 h2
            simp -failIfUnchanged (disch := first | assumption | omega | (refine room_i _ _ ?_ ?_ <;> omega) | (refine @id _ ?_; with_unfolding_all exact Eq.refl _) | (simp only [List.length_take, List.length_drop, List.length_append, List.length_cons, List.length_nil, List.length_replicate, List.length_map] <;> omega)) only [rnL, opL, ruL, hpL, natL, outL, Nat.add_sub_cancel_left, Nat.mul_one, Nat.reduceAdd, Nat.reduceMul, Nat.reduceSub, Nat.reduceEqDiff, Nat.reduceLT, Nat.reduceLeDiff, litd_t, litd_f, decide_true, decide_false, Bool.not_true, Bool.not_false, not_true_eq_false, not_false_eq_true, true_and, and_true, false_and, and_false, true_or, or_true, false_or, or_false, Int.toNat_natCast, cond_true, cond_false, List.map_cons, List.map_nil, Option.map_some, Option.map_none, clone_f]
            refine .i (i + 1, [], c) (by rw [tn_pos htn]; simp [seg]) (by rw [tn_pos htn]; simp [seg]) ⟨hlt, by simp [keys], by rw [tn_pos htn]; simp [keys, seg]⟩ (by show p.length - (i + 1) < p.length - i; omega)
          · have htn := fun e => h2 (hkey.2 e)
            simp -failIfUnchanged (disch := first | assumption | omega | (refine room_i _ _ ?_ ?_ <;> omega) | (refine @id _ ?_; with_unfolding_all exact Eq.refl _) | (simp only [List.length_take, List.length_drop, List.length_append, List.length_cons, List.length_nil, List.length_replicate, List.length_map] <;> omega)) only [rnL, opL, ruL, hpL, natL, outL, Nat.add_sub_cancel_left, Nat.mul_one, Nat.reduceAdd, Nat.reduceMul, Nat.reduceSub, Nat.reduceEqDiff, Nat.reduceLT, Nat.reduceLeDiff, litd_t, litd_f, decide_true, decide_false, Bool.not_true, Bool.not_false, not_true_eq_false, not_false_eq_true, true_and, and_true, false_and, and_false, true_or, or_true, false_or, or_false, Int.toNat_natCast, cond_true, cond_false, List.map_cons, List.map_nil, Option.map_some, Option.map_none]
            refine .i (i + 1, S, c) (by rw [tn_neg htn]) (by rw [tn_neg htn]) ⟨hlt, hnd, by rw [tn_neg htn]; exact k2⟩ (by show p.length - (i + 1) < p.length - i; omega)
      · have : i = p.length := by omega
        subst this
        simp -failIfUnchanged (disch := first | assumption | omega | (refine room_i _ _ ?_ ?_ <;> omega) | (refine @id _ ?_; with_unfolding_all exact Eq.refl _) | (simp only [List.length_take, List.length_drop, List.length_append, List.length_cons, List.length_nil, List.length_replicate, List.length_map] <;> omega)) only [rnL, opL, ruL, hpL, natL, outL, Nat.add_sub_cancel_left, Nat.mul_one, Nat.reduceAdd, Nat.reduceMul, Nat.reduceSub, Nat.reduceEqDiff, Nat.reduceLT, Nat.reduceLeDiff, litd_t, litd_f, decide_true, decide_false, Bool.not_true, Bool.not_false, not_true_eq_false, not_false_eq_true, true_and, and_true, false_and, and_false, true_or, or_true, false_or, or_false, Int.toNat_natCast, cond_true, cond_false, List.map_cons, List.map_nil, Option.map_some, Option.map_none]
        (refine Fin_i (.inr rfl) rfl (by simp -failIfUnchanged (disch := first | assumption | omega | (refine room_i _ _ ?_ ?_ <;> omega) | (refine @id _ ?_; with_unfolding_all exact Eq.refl _) | (simp only [List.length_take, List.length_drop, List.length_append, List.length_cons, List.length_nil, List.length_replicate, List.length_map] <;> omega)) only [rnL, opL, ruL, hpL, natL, outL, Nat.add_sub_cancel_left, Nat.mul_one, Nat.reduceAdd, Nat.reduceMul, Nat.reduceSub, Nat.reduceEqDiff, Nat.reduceLT, Nat.reduceLeDiff, litd_t, litd_f, decide_true, decide_false, Bool.not_true, Bool.not_false, not_true_eq_false, not_false_eq_true, true_and, and_true, false_and, and_false, true_or, or_true, false_or, or_false, Int.toNat_natCast, cond_true, cond_false, List.map_cons, List.map_nil, Option.map_some, Option.map_none]) ?_; simp -failIfUnchanged (disch := first | assumption | omega | (refine room_i _ _ ?_ ?_ <;> omega) | (refine @id _ ?_; with_unfolding_all exact Eq.refl _) | (simp only [List.length_take, List.length_drop, List.length_append, List.length_cons, List.length_nil, List.length_replicate, List.length_map] <;> omega)) only [rnL, opL, ruL, hpL, natL, outL, Nat.add_sub_cancel_left, Nat.mul_one, Nat.reduceAdd, Nat.reduceMul, Nat.reduceSub, Nat.reduceEqDiff, Nat.reduceLT, Nat.reduceLeDiff, litd_t, litd_f, decide_true, decide_false, Bool.not_true, Bool.not_false, not_true_eq_false, not_false_eq_true, true_and, and_true, false_and, and_false, true_or, or_true, false_or, or_false, Int.toNat_natCast, cond_true, cond_false, List.map_cons, List.map_nil, Option.map_some, Option.map_none])
        simp
end Go.AS.Ft
