import Derived.Test.YtefnpnokbanbkaaTh2
import Derived.Test.YtefnpnokbanbkaaRn0
set_option linter.all false
namespace Go.AS.Th
open Go Go.AS Go.Proofs
set_option maxHeartbeats 1000000

def r0 : Rng := ⟨[], []⟩
/-- All nodes that are come to, depth first. -/
def visits (T : Tr) : List V × Ks × Bool := dfs T (T.nodes.l.length + 1) 1 r0 [] ([], 0)
structure Small (T : Tr) : Prop where
  len : T.nodes.l.length ≤ 900
  nodes : ∀ n, (nodeAt T n).pivots.l.length ≤ 1000 ∧ (nodeAt T n).kids.l.length ≤ 1000
theorem unseen0 (T : Tr) : unseen T ([], 0) < T.nodes.l.length + 1 := by
  unfold unseen
  have := List.length_filter_le (fun (i : Nat) => decide (Int.ofNat i ∉ (([], 0) : Ks).1.map Prod.fst)) (List.range T.nodes.l.length)
  rw [List.length_range] at this
  omega
theorem build_walker {H : Heap} (T : Tr) (f : AV) (hf : cellsOf f = some [f]) : opV H (.build [.imm true 0 0 (some 0) [], .nilmap, .bool false, .nilFunc] [(0, 1, .c (.agg (Cel.enc T))), (1, 1, .c (.map 1)), (3, 1, .c f)]) =
    some (.agg [sl T.nodes.nil T.nodes.l, .map 1, .bool false, f], H) := by
  simp only [opV, evOp, fillA, Opd.ev, hf]
  rfl
theorem encR0 : [AV.str [], AV.str []] = Cel.enc r0 := rfl
theorem each_is (T : Tr) (hT : Small T) (f0 f : AV) (hf0 : upf f0 = some f) (hf : cellsOf f = some [f]) {σ : Nat → Stack} {m : Nat} {stop : Bool} (hm : m ≤ ((visits T).1.map visit).length) (hns : stop = false → m = ((visits T).1.map visit).length) (hst : stop = true → 0 < m)
    (hcb : ∀ Hc, Cb F f ((visits T).1.map visit) (fun i => Hc :: σ i) m stop) :
    ∃ b, Rets F (.func (.func 71) [] []) [.agg (Cel.enc T), f0] (σ 0) (.bool b) (σ m) ∧ (stop = false → b = (visits T).2.2) := by
  obtain ⟨v, S', h1, h2⟩ := walk_is T (.cells (Cel.enc T)) f hT.nodes hm hns hcb (T.nodes.l.length + 1) 1 r0 [] ([], 0) [] 0 [] (unseen0 T) (by have := hT.len; simp only [List.length_nil]; omega) (by rw [List.drop_zero, List.append_nil]; rfl) (Nat.zero_le _) hst
  have h3 : ∃ s q E, S' = hp T (.cells (Cel.enc T)) f s q E :: σ m ∧ (stop = false → (!q) = (visits T).2.2) := by
    rcases h2 with ⟨E, rfl, rfl, b1, b2⟩ | ⟨s', E, hs, rfl, rfl, b1⟩
    · cases hs : stop with
      | true =>
        have := b2 hs
        rw [List.length_map] at hm
        have e : (dfs T (T.nodes.l.length + 1) 1 r0 [] ([], 0)).1.length = (visits T).1.length := rfl
        omega
      | false =>
        have := hns hs
        rw [List.length_map] at this
        refine ⟨(visits T).2.1, !(visits T).2.2, E, ?_, fun _ => Bool.not_not _⟩
        rw [this, Nat.zero_add]; rfl
    · exact ⟨s', false, _, rfl, fun h => absurd hs (by rw [h]; simp)⟩
  obtain ⟨s, q, E, rfl, h4⟩ := h3
  refine ⟨!q, Rets.of (args' := [.agg (Cel.enc T), f]) fn_tree_each rfl rfl (by simp only [List.nil_append, List.append_nil, mapO, hf0, upf_v]) ?_, h4⟩
  simp only [ir_tree_each]
  simp -failIfUnchanged (disch := first | assumption | omega | (refine room_i _ _ ?_ ?_ <;> omega) | (refine @_root_.id _ ?_; with_unfolding_all exact Eq.refl _) | (simp only [List.length_take, List.length_drop, List.length_append, List.length_cons, List.length_nil, List.length_replicate, List.length_map] <;> omega) | fail) only [rnL, opL, ruL, hpL, rsL, natL, outL, Nat.add_sub_cancel_left, Nat.mul_one, List.length_cons, List.length_nil, Nat.zero_add, Nat.add_zero, Nat.reduceAdd, Nat.reduceMul, Nat.reduceSub, Nat.reduceEqDiff, Nat.reduceLT, Nat.reduceLeDiff, litd_t, litd_f, decide_true, decide_false, Bool.not_true, Bool.not_false, not_true_eq_false, not_false_eq_true, true_and, and_true, false_and, and_false, true_or, or_true, false_or, or_false, Int.toNat_natCast, cond_true, cond_false, List.map_cons, List.map_nil, Option.map_some, Option.map_none, datL, build_walker, hf, opV_build0, encR0]
  have e0 : aboveV [] = .imm true 0 0 (some 0) [] := if_pos rfl
  rw [e0] at h1
  refine RunC_r h1 ?_
  simp only [hp]
  simp -failIfUnchanged (disch := first | assumption | omega | (refine room_i _ _ ?_ ?_ <;> omega) | (refine @_root_.id _ ?_; with_unfolding_all exact Eq.refl _) | (simp only [List.length_take, List.length_drop, List.length_append, List.length_cons, List.length_nil, List.length_replicate, List.length_map] <;> omega) | fail) only [rnL, opL, ruL, hpL, rsL, natL, outL, Nat.add_sub_cancel_left, Nat.mul_one, List.length_cons, List.length_nil, Nat.zero_add, Nat.add_zero, Nat.reduceAdd, Nat.reduceMul, Nat.reduceSub, Nat.reduceEqDiff, Nat.reduceLT, Nat.reduceLeDiff, litd_t, litd_f, decide_true, decide_false, Bool.not_true, Bool.not_false, not_true_eq_false, not_false_eq_true, true_and, and_true, false_and, and_false, true_or, or_true, false_or, or_false, Int.toNat_natCast, cond_true, cond_false, List.map_cons, List.map_nil, Option.map_some, Option.map_none, ]
  exact FinS_i (.inr rfl) rfl rfl rfl
theorem ab_free (ab : List Int) : hfree (aboveV ab) = true := by
  unfold aboveV; split
  · rfl
  · exact sl_free _ _
theorem ab_upf (ab : List Int) : upf (aboveV ab) = some (sl (decide (ab = [])) ab) := by
  rw [upf_f (ab_free ab)]
  unfold aboveV
  split
  · rename_i h; subst h; rfl
  · rename_i h; rw [sl_canon, decide_eq_false h]
theorem sound1 (v : V) : Gives F 72 (visit v) (.bool true) := by
  refine Gives.of fn_tree_Sound_1 rfl rfl (args' := [.int .i64 v.n, .agg (Cel.enc v.r), sl (decide (v.ab = [])) v.ab]) (by simp only [visit, mapO, upf_v, ab_upf]) ?_
  simp only [ir_tree_Sound_1]
  simp -failIfUnchanged (disch := first | assumption | omega | (refine room_i _ _ ?_ ?_ <;> omega) | (refine @_root_.id _ ?_; with_unfolding_all exact Eq.refl _) | (simp only [List.length_take, List.length_drop, List.length_append, List.length_cons, List.length_nil, List.length_replicate, List.length_map] <;> omega) | fail) only [rnL, opL, ruL, hpL, rsL, natL, outL, Nat.add_sub_cancel_left, Nat.mul_one, List.length_cons, List.length_nil, Nat.zero_add, Nat.add_zero, Nat.reduceAdd, Nat.reduceMul, Nat.reduceSub, Nat.reduceEqDiff, Nat.reduceLT, Nat.reduceLeDiff, litd_t, litd_f, decide_true, decide_false, Bool.not_true, Bool.not_false, not_true_eq_false, not_false_eq_true, true_and, and_true, false_and, and_false, true_or, or_true, false_or, or_false, Int.toNat_natCast, cond_true, cond_false, List.map_cons, List.map_nil, Option.map_some, Option.map_none]
  (refine Fin_g (.inr rfl) (by simp -failIfUnchanged (disch := first | assumption | omega | (refine room_i _ _ ?_ ?_ <;> omega) | (refine @_root_.id _ ?_; with_unfolding_all exact Eq.refl _) | (simp only [List.length_take, List.length_drop, List.length_append, List.length_cons, List.length_nil, List.length_replicate, List.length_map] <;> omega) | fail) only [rnL, opL, ruL, hpL, rsL, natL, outL, Nat.add_sub_cancel_left, Nat.mul_one, List.length_cons, List.length_nil, Nat.zero_add, Nat.add_zero, Nat.reduceAdd, Nat.reduceMul, Nat.reduceSub, Nat.reduceEqDiff, Nat.reduceLT, Nat.reduceLeDiff, litd_t, litd_f, decide_true, decide_false, Bool.not_true, Bool.not_false, not_true_eq_false, not_false_eq_true, true_and, and_true, false_and, and_false, true_or, or_true, false_or, or_false, Int.toNat_natCast, cond_true, cond_false, List.map_cons, List.map_nil, Option.map_some, Option.map_none]; rfl) ?_; simp -failIfUnchanged (disch := first | assumption | omega | (refine room_i _ _ ?_ ?_ <;> omega) | (refine @_root_.id _ ?_; with_unfolding_all exact Eq.refl _) | (simp only [List.length_take, List.length_drop, List.length_append, List.length_cons, List.length_nil, List.length_replicate, List.length_map] <;> omega) | fail) only [rnL, opL, ruL, hpL, rsL, natL, outL, Nat.add_sub_cancel_left, Nat.mul_one, List.length_cons, List.length_nil, Nat.zero_add, Nat.add_zero, Nat.reduceAdd, Nat.reduceMul, Nat.reduceSub, Nat.reduceEqDiff, Nat.reduceLT, Nat.reduceLeDiff, litd_t, litd_f, decide_true, decide_false, Bool.not_true, Bool.not_false, not_true_eq_false, not_false_eq_true, true_and, and_true, false_and, and_false, true_or, or_true, false_or, or_false, Int.toNat_natCast, cond_true, cond_false, List.map_cons, List.map_nil, Option.map_some, Option.map_none])
/-- Is a tree sound? -/
theorem sound_gives (T : Tr) (hT : Small T) : Gives F 54 [.agg (Cel.enc T)] (.bool (visits T).2.2) := by
  refine Gives.of fn_tree_Sound rfl rfl (args' := [.agg (Cel.enc T)]) (by simp only [mapO_nil, mapO_c2, consO_some, upf_v]) ?_
  simp only [ir_tree_Sound]
  obtain ⟨b, h1, h2⟩ := each_is T hT (.func (.func 72) [] []) (.func (.func 72) [] []) rfl rfl (σ := fun _ => [[.cells (Cel.enc T)]]) (m := ((visits T).1.map visit).length) (stop := false) (Nat.le_refl _) (fun _ => rfl) (fun h => by cases h) (fun Hc i hi hl => by
    rw [List.getElem_map]
    exact (sound1 _).rets _)
  rw [h2 rfl] at h1
  simp -failIfUnchanged (disch := first | assumption | omega | (refine room_i _ _ ?_ ?_ <;> omega) | (refine @_root_.id _ ?_; with_unfolding_all exact Eq.refl _) | (simp only [List.length_take, List.length_drop, List.length_append, List.length_cons, List.length_nil, List.length_replicate, List.length_map] <;> omega) | fail) only [rnL, opL, ruL, hpL, rsL, natL, outL, Nat.add_sub_cancel_left, Nat.mul_one, List.length_cons, List.length_nil, Nat.zero_add, Nat.add_zero, Nat.reduceAdd, Nat.reduceMul, Nat.reduceSub, Nat.reduceEqDiff, Nat.reduceLT, Nat.reduceLeDiff, litd_t, litd_f, decide_true, decide_false, Bool.not_true, Bool.not_false, not_true_eq_false, not_false_eq_true, true_and, and_true, false_and, and_false, true_or, or_true, false_or, or_false, Int.toNat_natCast, cond_true, cond_false, List.map_cons, List.map_nil, Option.map_some, Option.map_none, datL]
  refine RunC_r h1 ?_
  simp -failIfUnchanged (disch := first | assumption | omega | (refine room_i _ _ ?_ ?_ <;> omega) | (refine @_root_.id _ ?_; with_unfolding_all exact Eq.refl _) | (simp only [List.length_take, List.length_drop, List.length_append, List.length_cons, List.length_nil, List.length_replicate, List.length_map] <;> omega) | fail) only [rnL, opL, ruL, hpL, rsL, natL, outL, Nat.add_sub_cancel_left, Nat.mul_one, List.length_cons, List.length_nil, Nat.zero_add, Nat.add_zero, Nat.reduceAdd, Nat.reduceMul, Nat.reduceSub, Nat.reduceEqDiff, Nat.reduceLT, Nat.reduceLeDiff, litd_t, litd_f, decide_true, decide_false, Bool.not_true, Bool.not_false, not_true_eq_false, not_false_eq_true, true_and, and_true, false_and, and_false, true_or, or_true, false_or, or_false, Int.toNat_natCast, cond_true, cond_false, List.map_cons, List.map_nil, Option.map_some, Option.map_none]
  (refine Fin_g (.inr rfl) (by simp -failIfUnchanged (disch := first | assumption | omega | (refine room_i _ _ ?_ ?_ <;> omega) | (refine @_root_.id _ ?_; with_unfolding_all exact Eq.refl _) | (simp only [List.length_take, List.length_drop, List.length_append, List.length_cons, List.length_nil, List.length_replicate, List.length_map] <;> omega) | fail) only [rnL, opL, ruL, hpL, rsL, natL, outL, Nat.add_sub_cancel_left, Nat.mul_one, List.length_cons, List.length_nil, Nat.zero_add, Nat.add_zero, Nat.reduceAdd, Nat.reduceMul, Nat.reduceSub, Nat.reduceEqDiff, Nat.reduceLT, Nat.reduceLeDiff, litd_t, litd_f, decide_true, decide_false, Bool.not_true, Bool.not_false, not_true_eq_false, not_false_eq_true, true_and, and_true, false_and, and_false, true_or, or_true, false_or, or_false, Int.toNat_natCast, cond_true, cond_false, List.map_cons, List.map_nil, Option.map_some, Option.map_none]; rfl) ?_; simp -failIfUnchanged (disch := first | assumption | omega | (refine room_i _ _ ?_ ?_ <;> omega) | (refine @_root_.id _ ?_; with_unfolding_all exact Eq.refl _) | (simp only [List.length_take, List.length_drop, List.length_append, List.length_cons, List.length_nil, List.length_replicate, List.length_map] <;> omega) | fail) only [rnL, opL, ruL, hpL, rsL, natL, outL, Nat.add_sub_cancel_left, Nat.mul_one, List.length_cons, List.length_nil, Nat.zero_add, Nat.add_zero, Nat.reduceAdd, Nat.reduceMul, Nat.reduceSub, Nat.reduceEqDiff, Nat.reduceLT, Nat.reduceLeDiff, litd_t, litd_f, decide_true, decide_false, Bool.not_true, Bool.not_false, not_true_eq_false, not_false_eq_true, true_and, and_true, false_and, and_false, true_or, or_true, false_or, or_false, Int.toNat_natCast, cond_true, cond_false, List.map_cons, List.map_nil, Option.map_some, Option.map_none])
def item2 (v : V) : List AV := [.int .i64 v.n, .agg (Cel.enc v.r)]
/-- A function's value that goes through a tree's nodes. -/
def allV (T : Tr) : AV := .func (.func 73) [] [.iptr (Cel.enc T) 0]
def garb (T : Tr) (i : Nat) : Heap := ((visits T).1.take i).map fun v => .cells (Cel.enc v.r)
theorem upf_ptr (a b c : Nat) : upf (.ptr a b c) = none := rfl
theorem hatG1 (a : AObj) (G L : Heap) (k : Nat) : hat (a :: (G ++ L)) (G.length + (k + 1)) = hat L k := by
  have e : G.length + (k + 1) = (G.length + k) + 1 := by omega
  rw [e]
  show hat (G ++ L) (G.length + k) = _
  clear e
  induction G with
  | nil => simp
  | cons x G ih =>
    have e : (x :: G).length + k = (G.length + k) + 1 := by simp; omega
    rw [e]
    exact ih
theorem all1 {y : AV} {σ : Nat → Stack} {m : Nat} {stop : Bool} (T : Tr) (hcb : ∀ Hc, Cb F y ((visits T).1.map item2) (fun i => Hc :: σ i) m stop) : Cb F (.func (.func 74) [] [.ptr 0 1 0]) ((visits T).1.map visit) (fun i => (.cells [y] :: garb T i) :: σ i) m stop := by
  intro i hi hl
  have hl2 : i < (visits T).1.length := by simpa using hl
  rw [List.getElem_map]
  have hy := fun Hc => hcb Hc i hi (by simpa using hl2)
  simp only [List.getElem_map] at hy
  have hg : garb T (i + 1) = garb T i ++ [.cells (Cel.enc (visits T).1[i].r)] := by
    unfold garb
    rw [List.take_succ_eq_append_getElem hl2, List.map_append]; rfl
  refine Rets.mem fn_tree_All_1_1 rfl ?_ ?_
  · show mapO upf _ = none
    simp only [visit, List.nil_append, List.cons_append, mapO, upf_v, ab_upf, upf_ptr]
  · simp only [ir_tree_All_1_1, visit, List.nil_append, List.cons_append]
    simp -failIfUnchanged (disch := first | assumption | omega | (refine room_i _ _ ?_ ?_ <;> omega) | (refine @_root_.id _ ?_; with_unfolding_all exact Eq.refl _) | (simp only [List.length_take, List.length_drop, List.length_append, List.length_cons, List.length_nil, List.length_replicate, List.length_map] <;> omega) | fail) only [rnL, opL, ruL, hpL, rsL, natL, outL, Nat.add_sub_cancel_left, Nat.mul_one, List.length_cons, List.length_nil, Nat.zero_add, Nat.add_zero, Nat.reduceAdd, Nat.reduceMul, Nat.reduceSub, Nat.reduceEqDiff, Nat.reduceLT, Nat.reduceLeDiff, litd_t, litd_f, decide_true, decide_false, Bool.not_true, Bool.not_false, not_true_eq_false, not_false_eq_true, true_and, and_true, false_and, and_false, true_or, or_true, false_or, or_false, Int.toNat_natCast, cond_true, cond_false, List.map_cons, List.map_nil, Option.map_some, Option.map_none, datL, lo1, lo2, lo3, lo4, lo5, lo6, hatG1, Nat.add_assoc]
    refine RunC_r (hy _) ?_
    simp -failIfUnchanged (disch := first | assumption | omega | (refine room_i _ _ ?_ ?_ <;> omega) | (refine @_root_.id _ ?_; with_unfolding_all exact Eq.refl _) | (simp only [List.length_take, List.length_drop, List.length_append, List.length_cons, List.length_nil, List.length_replicate, List.length_map] <;> omega) | fail) only [rnL, opL, ruL, hpL, rsL, natL, outL, Nat.add_sub_cancel_left, Nat.mul_one, List.length_cons, List.length_nil, Nat.zero_add, Nat.add_zero, Nat.reduceAdd, Nat.reduceMul, Nat.reduceSub, Nat.reduceEqDiff, Nat.reduceLT, Nat.reduceLeDiff, litd_t, litd_f, decide_true, decide_false, Bool.not_true, Bool.not_false, not_true_eq_false, not_false_eq_true, true_and, and_true, false_and, and_false, true_or, or_true, false_or, or_false, Int.toNat_natCast, cond_true, cond_false, List.map_cons, List.map_nil, Option.map_some, Option.map_none]
    exact FinM_g (.inr rfl) (by simp -failIfUnchanged (disch := first | assumption | omega | (refine room_i _ _ ?_ ?_ <;> omega) | (refine @_root_.id _ ?_; with_unfolding_all exact Eq.refl _) | (simp only [List.length_take, List.length_drop, List.length_append, List.length_cons, List.length_nil, List.length_replicate, List.length_map] <;> omega) | fail) only [rnL, opL, ruL, hpL, rsL, natL, outL, Nat.add_sub_cancel_left, Nat.mul_one, List.length_cons, List.length_nil, Nat.zero_add, Nat.add_zero, Nat.reduceAdd, Nat.reduceMul, Nat.reduceSub, Nat.reduceEqDiff, Nat.reduceLT, Nat.reduceLeDiff, litd_t, litd_f, decide_true, decide_false, Bool.not_true, Bool.not_false, not_true_eq_false, not_false_eq_true, true_and, and_true, false_and, and_false, true_or, or_true, false_or, or_false, Int.toNat_natCast, cond_true, cond_false, List.map_cons, List.map_nil, Option.map_some, Option.map_none]; rfl) rfl (by rw [hg])
theorem ptr_up : upf (.func (.func 74) [] [.ptr 0 1 0]) = some (.ext (.func (.func 74) [] [.ptr 0 1 0])) := rfl
theorem all_iter (T : Tr) (hT : Small T) : Iter F (allV T) ((visits T).1.map item2) := by
  intro y0 y σ m stop hy hy1 hm hns hst hcb
  have hm' : m ≤ ((visits T).1.map visit).length := by simpa using hm
  have hd : ∀ it ∈ (visits T).1.map visit, mapO down it = some it := by
    intro it hit
    obtain ⟨v, hv, rfl⟩ := List.mem_map.mp hit
    have h1 : down (.agg (Cel.enc v.r)) = some (.agg (Cel.enc v.r)) := by unfold down; rw [hfree_enc]; rfl
    have h2 : down (aboveV v.ab) = some (aboveV v.ab) := by unfold down; rw [ab_free]; rfl
    have h3 : ∀ k m, down (.int k m) = some (.int k m) := fun _ _ => rfl
    simp only [visit, mapO, h1, h2, h3]
  obtain ⟨b, h1, -⟩ := each_is T hT (.func (.func 74) [] [.ptr 0 1 0]) (.ext (.func (.func 74) [] [.ptr 0 1 0])) ptr_up rfl (σ := fun i => (.cells [y] :: garb T i) :: σ i) (m := m) (stop := stop) hm' (fun h => by simpa using hns h) hst
    (fun Hc => (all1 T hcb).ext hd Hc)
  refine ⟨.tuple [], ?_⟩
  unfold allV
  refine Rets.of (args' := [y, .iptr (Cel.enc T) 0]) fn_tree_All_1 rfl rfl (by simp only [List.nil_append, List.cons_append, mapO, hy, upf_enc T]) ?_
  simp only [ir_tree_All_1]
  have hb : ∀ H, opV H (.box 1 (.c y)) = some (.ptr H.length 1 0, H ++ [.cells [y]]) := fun H => by
    simp only [opV, evOp, Opd.ev, hy1]; rfl
  have hm1 : ∀ (H : Heap) (f : Fn) (a : AV), opV H (.mkfn f [] [.c a]) = some (.func f [] [a], H) := fun _ _ _ => rfl
  simp -failIfUnchanged (disch := first | assumption | omega | (refine room_i _ _ ?_ ?_ <;> omega) | (refine @_root_.id _ ?_; with_unfolding_all exact Eq.refl _) | (simp only [List.length_take, List.length_drop, List.length_append, List.length_cons, List.length_nil, List.length_replicate, List.length_map] <;> omega) | fail) only [rnL, opL, ruL, hpL, rsL, natL, outL, Nat.add_sub_cancel_left, Nat.mul_one, List.length_cons, List.length_nil, Nat.zero_add, Nat.add_zero, Nat.reduceAdd, Nat.reduceMul, Nat.reduceSub, Nat.reduceEqDiff, Nat.reduceLT, Nat.reduceLeDiff, litd_t, litd_f, decide_true, decide_false, Bool.not_true, Bool.not_false, not_true_eq_false, not_false_eq_true, true_and, and_true, false_and, and_false, true_or, or_true, false_or, or_false, Int.toNat_natCast, cond_true, cond_false, List.map_cons, List.map_nil, Option.map_some, Option.map_none, opV_loadI, hb, hm1]
  refine RunC_r h1 ?_
  simp -failIfUnchanged (disch := first | assumption | omega | (refine room_i _ _ ?_ ?_ <;> omega) | (refine @_root_.id _ ?_; with_unfolding_all exact Eq.refl _) | (simp only [List.length_take, List.length_drop, List.length_append, List.length_cons, List.length_nil, List.length_replicate, List.length_map] <;> omega) | fail) only [rnL, opL, ruL, hpL, rsL, natL, outL, Nat.add_sub_cancel_left, Nat.mul_one, List.length_cons, List.length_nil, Nat.zero_add, Nat.add_zero, Nat.reduceAdd, Nat.reduceMul, Nat.reduceSub, Nat.reduceEqDiff, Nat.reduceLT, Nat.reduceLeDiff, litd_t, litd_f, decide_true, decide_false, Bool.not_true, Bool.not_false, not_true_eq_false, not_false_eq_true, true_and, and_true, false_and, and_false, true_or, or_true, false_or, or_false, Int.toNat_natCast, cond_true, cond_false, List.map_cons, List.map_nil, Option.map_some, Option.map_none]
  exact FinS_i (.inl rfl) rfl rfl rfl
theorem leave_fn1 {H : Heap} {f i li : Nat} {ci : List AV} (hi : H[i]? = some (.cells ci)) (hli : ci.length = li) (hf1 : hfrees ci = true) (hg1 : fgs ci = ci) :
    leave H (.func (.func f) [] [.ptr i li 0]) = some (.func (.func f) [] [.iptr ci 0]) := by
  have h1 : frz H 1000 (.func (.func f) [] [.ptr i li 0]) = some (.func (.func f) [] [.iptr ci 0]) := by
    unfold frz
    simp only [hfree, hfrees, Bool.false_and, Bool.and_false, cond_false, mapO, frz_ptr 997 hi hli hf1]
  unfold leave
  rw [h1]
  simp only [down, hfree, hfrees, hf1, Bool.and_true, cond_true, Option.map_some, fg, fgs, hg1]
/-- All nodes of a tree. -/
theorem all_gives (T : Tr) : Gives F 55 [.agg (Cel.enc T)] (allV T) := by
  refine Gives.of fn_tree_All rfl rfl (args' := [.agg (Cel.enc T)]) (by simp only [mapO_nil, mapO_c2, consO_some, upf_v]) ?_
  simp only [ir_tree_All]
  have hm1 : ∀ (H : Heap) (f : Fn) (a : AV), opV H (.mkfn f [] [.c a]) = some (.func f [] [a], H) := fun _ _ _ => rfl
  simp -failIfUnchanged (disch := first | assumption | omega | (refine room_i _ _ ?_ ?_ <;> omega) | (refine @_root_.id _ ?_; with_unfolding_all exact Eq.refl _) | (simp only [List.length_take, List.length_drop, List.length_append, List.length_cons, List.length_nil, List.length_replicate, List.length_map] <;> omega) | fail) only [rnL, opL, ruL, hpL, rsL, natL, outL, Nat.add_sub_cancel_left, Nat.mul_one, List.length_cons, List.length_nil, Nat.zero_add, Nat.add_zero, Nat.reduceAdd, Nat.reduceMul, Nat.reduceSub, Nat.reduceEqDiff, Nat.reduceLT, Nat.reduceLeDiff, litd_t, litd_f, decide_true, decide_false, Bool.not_true, Bool.not_false, not_true_eq_false, not_false_eq_true, true_and, and_true, false_and, and_false, true_or, or_true, false_or, or_false, Int.toNat_natCast, cond_true, cond_false, List.map_cons, List.map_nil, Option.map_some, Option.map_none, hm1]
  (refine Fin_g (.inr rfl) (by simp -failIfUnchanged (disch := first | assumption | omega | (refine room_i _ _ ?_ ?_ <;> omega) | (refine @_root_.id _ ?_; with_unfolding_all exact Eq.refl _) | (simp only [List.length_take, List.length_drop, List.length_append, List.length_cons, List.length_nil, List.length_replicate, List.length_map] <;> omega) | fail) only [rnL, opL, ruL, hpL, rsL, natL, outL, Nat.add_sub_cancel_left, Nat.mul_one, List.length_cons, List.length_nil, Nat.zero_add, Nat.add_zero, Nat.reduceAdd, Nat.reduceMul, Nat.reduceSub, Nat.reduceEqDiff, Nat.reduceLT, Nat.reduceLeDiff, litd_t, litd_f, decide_true, decide_false, Bool.not_true, Bool.not_false, not_true_eq_false, not_false_eq_true, true_and, and_true, false_and, and_false, true_or, or_true, false_or, or_false, Int.toNat_natCast, cond_true, cond_false, List.map_cons, List.map_nil, Option.map_some, Option.map_none]; rfl) ?_; simp -failIfUnchanged (disch := first | assumption | omega | (refine room_i _ _ ?_ ?_ <;> omega) | (refine @_root_.id _ ?_; with_unfolding_all exact Eq.refl _) | (simp only [List.length_take, List.length_drop, List.length_append, List.length_cons, List.length_nil, List.length_replicate, List.length_map] <;> omega) | fail) only [rnL, opL, ruL, hpL, rsL, natL, outL, Nat.add_sub_cancel_left, Nat.mul_one, List.length_cons, List.length_nil, Nat.zero_add, Nat.add_zero, Nat.reduceAdd, Nat.reduceMul, Nat.reduceSub, Nat.reduceEqDiff, Nat.reduceLT, Nat.reduceLeDiff, litd_t, litd_f, decide_true, decide_false, Bool.not_true, Bool.not_false, not_true_eq_false, not_false_eq_true, true_and, and_true, false_and, and_false, true_or, or_true, false_or, or_false, Int.toNat_natCast, cond_true, cond_false, List.map_cons, List.map_nil, Option.map_some, Option.map_none])
  exact leave_fn1 rfl rfl (Cel.free T) (Cel.canon T)
end Go.AS.Th

namespace Go.AS.Th
open Go Go.AS Go.Proofs
theorem kidsL_len (T : Tr) (f : Int → Rng → Ks → List V × Ks × Bool) (hf : ∀ n r s, (f n r s).1.length + unseen T (f n r s).2.1 ≤ unseen T s) (kids : List Int) : ∀ (l : List (Nat × Rng)) (s : Ks), (kidsL f kids l s).1.length + unseen T (kidsL f kids l s).2.1 ≤ unseen T s
  | [], s => by simp [kidsL]
  | (i, sp) :: rest, s => by
    unfold kidsL
    split
    · have h1 := hf (kids.getD i 0) sp s
      have h2 := kidsL_len T f hf kids rest (f (kids.getD i 0) sp s).2.1
      simp only [List.length_append]
      omega
    · exact hf _ _ _
theorem dfs_len (T : Tr) : ∀ (k : Nat) (n : Int) (r : Rng) (ab : List Int) (s : Ks), (dfs T k n r ab s).1.length + unseen T (dfs T k n r ab s).2.1 ≤ unseen T s
  | 0, _, _, _, s => by simp [dfs]
  | k + 1, n, r, ab, s => by
    unfold dfs
    split
    · simp
    · rename_i hb
      have hkd : (nodeAt T n).kind = 1 ∨ (nodeAt T n).kind = 2 := Decidable.byContradiction fun h => hb (.inl h)
      have hlt := unseen_add (nodeAt_range hkd).1 (nodeAt_range hkd).2 (fun h => hb (.inr (.inl h)))
      split
      · simp only [List.length_singleton]; omega
      · have := kidsL_len T _ (fun n' r' s' => dfs_len T k n' r' (ab ++ [n]) s') (nodeAt T n).kids.l (spans (nodeAt T n).pivots.l r) (add s n)
        simp only [List.length_cons]
        rw [Nat.add_right_comm]
        exact Nat.succ_le_of_lt (Nat.lt_of_le_of_lt this hlt)
theorem visits_len (T : Tr) : (visits T).1.length ≤ T.nodes.l.length := by
  have h1 := dfs_len T (T.nodes.l.length + 1) 1 r0 [] ([], 0)
  have h2 := unseen0 T
  have e : (visits T).1.length = (dfs T (T.nodes.l.length + 1) 1 r0 [] ([], 0)).1.length := rfl
  omega
theorem kidsL_kind (T : Tr) (f : Int → Rng → Ks → List V × Ks × Bool) (P : V → Prop) (hf : ∀ n r s, ∀ v ∈ (f n r s).1, P v) (kids : List Int) : ∀ (l : List (Nat × Rng)) (s : Ks), ∀ v ∈ (kidsL f kids l s).1, P v
  | [], s, v, h => by simp [kidsL] at h
  | (i, sp) :: rest, s, v, h => by
    unfold kidsL at h
    split at h
    · rcases List.mem_append.mp h with h | h
      · exact hf _ _ _ v h
      · exact kidsL_kind T f P hf kids rest _ v h
    · exact hf _ _ _ v h
theorem dfs_kind (T : Tr) : ∀ (k : Nat) (n : Int) (r : Rng) (ab : List Int) (s : Ks), ∀ v ∈ (dfs T k n r ab s).1, (nodeAt T v.n).kind = 1 ∨ (nodeAt T v.n).kind = 2
  | 0, _, _, _, s, v, h => by simp [dfs] at h
  | k + 1, n, r, ab, s, v, h => by
    unfold dfs at h
    split at h
    · cases h
    · rename_i hb
      have hkd : (nodeAt T n).kind = 1 ∨ (nodeAt T n).kind = 2 := Decidable.byContradiction fun h => hb (.inl h)
      split at h
      · rw [List.mem_singleton] at h
        subst h; exact hkd
      · rcases List.mem_cons.mp h with h | h
        · subst h; exact hkd
        · exact kidsL_kind T _ (fun v => (nodeAt T v.n).kind = 1 ∨ (nodeAt T v.n).kind = 2) (fun n' r' s' => dfs_kind T k n' r' (ab ++ [n]) s') _ _ _ v h
theorem visits_range (T : Tr) : ∀ v ∈ (visits T).1, 1 ≤ v.n ∧ v.n.toNat < T.nodes.l.length := fun v h => nodeAt_range (dfs_kind T _ _ _ _ _ v h)
theorem nodeAt_get {T : Tr} {n : Int} (h : 1 ≤ n) (h2 : n.toNat < T.nodes.l.length) : T.nodes.l[n.toNat] = nodeAt T n := by
  unfold nodeAt; rw [if_pos h, List.getElem?_eq_getElem h2]; rfl
end Go.AS.Th

namespace Go.AS.Th
open Go Go.AS Go.Proofs
set_option maxHeartbeats 2000000
set_option maxRecDepth 8000
/-- A node that is reached: its number, range, parent, and place there. -/
structure Sn where
  n : Int
  r : Rng
  parent : Int
  place : Int
instance celSn : Cel Sn := ⟨5, fun x => [.int .i64 x.n, .str x.r.lo, .str x.r.hi, .int .i64 x.parent, .int .i64 x.place], fun _ => rfl, fun _ => rfl, fun _ => rfl⟩
theorem encSn0 (x : Sn) : one none (Cel.enc x) 0 = some (.int .i64 x.n) := rfl
theorem encSn1 (x : Sn) : one (some 2) (Cel.enc x) 1 = some (.agg (Cel.enc x.r)) := rfl
theorem encSn3 (x : Sn) : one none (Cel.enc x) 3 = some (.int .i64 x.parent) := rfl
theorem encSn4 (x : Sn) : one none (Cel.enc x) 4 = some (.int .i64 x.place) := rfl
theorem buildSn {H : Heap} (n p a : Int) (r : Rng) : opV H (.build [.int .i64 0, .str [], .str [], .int .i64 0, .int .i64 0] [(0, 1, .c (.int .i64 n)), (1, 2, .c (.agg (Cel.enc r))), (3, 1, .c (.int .i64 p)), (4, 1, .c (.int .i64 a))]) = some (.agg (Cel.enc (Sn.mk n r p a)), H) := rfl
/-- A node's kids, one behind the other. -/
def kidsB (f : Sn → List Sn → List Sn × Bool) (kids : List Int) (p : Int) (sp : Nat → Rng) : Nat → Nat → List Sn → List Sn × Bool
  | 0, _, seen => (seen, true)
  | m + 1, i, seen => if (f ⟨kids.getD i 0, sp i, p, i⟩ seen).2 then kidsB f kids p sp m (i + 1) (f ⟨kids.getD i 0, sp i, p, i⟩ seen).1 else ((f ⟨kids.getD i 0, sp i, p, i⟩ seen).1, false)
def bel (T : Tr) : Nat → Sn → List Sn → List Sn × Bool
  | 0, _, seen => (seen, false)
  | k + 1, x, seen => if x.n < 1 ∨ T.nodes.l.length ≤ x.n then (seen, false) else
    if x.n ∈ seen.map Sn.n then (seen, false) else
    if (nodeAt T x.n).kind = 1 ∧ 0 < x.parent then (seen ++ [x], true) else
    if (nodeAt T x.n).kind ≠ 2 ∨ (nodeAt T x.n).kids.l.length ≠ (nodeAt T x.n).pivots.l.length + 1 ∨ ¬ rightP (nodeAt T x.n).pivots.l x.r then (seen ++ [x], false) else
    kidsB (bel T k) (nodeAt T x.n).kids.l x.n (spanAt (nodeAt T x.n).pivots.l x.r) (nodeAt T x.n).kids.l.length 0 (seen ++ [x])
def left (T : Tr) (seen : List Sn) : Nat := ((List.range T.nodes.l.length).filter fun (i : Nat) => decide ((i : Int) ∉ seen.map Sn.n)).length
theorem left_add {T : Tr} {seen : List Sn} {x : Sn} (h1 : 1 ≤ x.n) (h2 : x.n.toNat < T.nodes.l.length) (h3 : x.n ∉ seen.map Sn.n) : left T (seen ++ [x]) < left T seen := by
  unfold left
  refine Nat.lt_of_succ_le ?_
  have e : ∀ (l : List Nat), l.Nodup → x.n.toNat ∈ l → (l.filter fun (i : Nat) => decide ((i : Int) ∉ (seen ++ [x]).map Sn.n)).length + 1 ≤ (l.filter fun (i : Nat) => decide ((i : Int) ∉ seen.map Sn.n)).length := by
    have mono : ∀ (l : List Nat), (l.filter fun (i : Nat) => decide ((i : Int) ∉ (seen ++ [x]).map Sn.n)).length ≤ (l.filter fun (i : Nat) => decide ((i : Int) ∉ seen.map Sn.n)).length := by
      intro l
      induction l with
      | nil => simp
      | cons a l ih =>
        simp only [List.filter_cons]
        by_cases g : (a : Int) ∈ seen.map Sn.n
        · have g2 : (a : Int) ∈ (seen ++ [x]).map Sn.n := by rw [List.map_append]; exact List.mem_append_left _ g
          simp only [g, g2, not_true_eq_false, decide_false, Bool.false_eq_true, if_false]; exact ih
        · by_cases g2 : (a : Int) ∈ (seen ++ [x]).map Sn.n
          · simp only [g, g2, not_true_eq_false, not_false_eq_true, decide_false, decide_true, Bool.false_eq_true, if_false, if_true, List.length_cons]; omega
          · simp only [g, g2, not_false_eq_true, decide_true, if_true, List.length_cons]; omega
    intro l hl hm
    induction l with
    | nil => cases hm
    | cons a l ih =>
      rw [List.nodup_cons] at hl
      simp only [List.filter_cons]
      by_cases g : a = x.n.toNat
      · have g3 : (a : Int) = x.n := by omega
        have g1 : (a : Int) ∉ seen.map Sn.n := by rw [g3]; exact h3
        have g2 : (a : Int) ∈ (seen ++ [x]).map Sn.n := by rw [g3, List.map_append]; exact List.mem_append_right _ (by simp)
        simp only [g1, g2, not_true_eq_false, not_false_eq_true, decide_false, decide_true, Bool.false_eq_true, if_false, if_true, List.length_cons]
        have := mono l; omega
      · have hm2 : x.n.toNat ∈ l := by rcases List.mem_cons.mp hm with h | h; exact absurd h.symm g; exact h
        have := ih hl.2 hm2
        by_cases g1 : (a : Int) ∈ seen.map Sn.n
        · have g2 : (a : Int) ∈ (seen ++ [x]).map Sn.n := by rw [List.map_append]; exact List.mem_append_left _ g1
          simp only [g1, g2, not_true_eq_false, decide_false, Bool.false_eq_true, if_false]; exact this
        · have g2 : (a : Int) ∉ (seen ++ [x]).map Sn.n := by
            rw [List.map_append, List.mem_append]
            rintro (h | h)
            · exact g1 h
            · simp at h; omega
          simp only [g1, g2, not_false_eq_true, decide_true, if_true, List.length_cons]; omega
  exact e _ List.nodup_range (by rw [List.mem_range]; exact h2)
theorem kidsB_m {T : Tr} {f : Sn → List Sn → List Sn × Bool} (hf : ∀ x s, left T (f x s).1 ≤ left T s ∧ (f x s).1.length + left T (f x s).1 ≤ s.length + left T s) (kids : List Int) (p : Int) (sp : Nat → Rng) : ∀ (m i : Nat) (s : List Sn),
    left T (kidsB f kids p sp m i s).1 ≤ left T s ∧ (kidsB f kids p sp m i s).1.length + left T (kidsB f kids p sp m i s).1 ≤ s.length + left T s
  | 0, _, s => ⟨Nat.le_refl _, Nat.le_refl _⟩
  | m + 1, i, s => by
    have h1 := hf ⟨kids.getD i 0, sp i, p, i⟩ s
    have h2 := kidsB_m hf kids p sp m (i + 1) (f ⟨kids.getD i 0, sp i, p, i⟩ s).1
    unfold kidsB
    split
    · exact ⟨Nat.le_trans h2.1 h1.1, Nat.le_trans h2.2 h1.2⟩
    · exact h1
theorem bel_m (T : Tr) : ∀ (k : Nat) (x : Sn) (s : List Sn), left T (bel T k x s).1 ≤ left T s ∧ (bel T k x s).1.length + left T (bel T k x s).1 ≤ s.length + left T s
  | 0, _, s => ⟨Nat.le_refl _, Nat.le_refl _⟩
  | k + 1, x, s => by
    unfold bel
    split
    · exact ⟨Nat.le_refl _, Nat.le_refl _⟩
    · rename_i h1
      split
      · exact ⟨Nat.le_refl _, Nat.le_refl _⟩
      · rename_i h2
        have h3 := left_add (T := T) (seen := s) (x := x) (by omega) (by omega) h2
        have h4 : (s ++ [x]).length = s.length + 1 := by simp
        split
        · simp only; omega
        · split
          · simp only; omega
          · have := kidsB_m (T := T) (f := bel T k) (fun x s => bel_m T k x s) (nodeAt T x.n).kids.l x.n (spanAt (nodeAt T x.n).pivots.l x.r) (nodeAt T x.n).kids.l.length 0 (s ++ [x])
            omega
theorem below_is {nl : Bool} (T : Tr) (hT : Small T) : ∀ k x (seen : List Sn) H S w, Row nl H w seen → left T seen < k → seen.length + left T seen ≤ 2000 →
    ∃ v S', Rets F (.func (.func 70) [] []) [.agg (Cel.enc T), .agg (Cel.enc x), w] (H :: S) v S' ∧ ∃ w' H', v = .tuple [w', .bool (bel T k x seen).2] ∧ S' = H' :: S ∧ Row nl H' w' (bel T k x seen).1 ∧ Keep H w H' w'
  | 0, _, _, _, _, _, _, h, _ => by omega
  | k + 1, x, seen, H, S, w, hR, hl, hb => by
    have hw : cellsOf w = some [w] := by rcases hR with ⟨_, rfl⟩ | ⟨id, h1, h2, rfl, h4⟩ <;> rfl
    refine Rets.memX fn_r15_below rfl rfl ?_
    simp only [ir_r15_below, List.nil_append, List.cons_append]
    have hw0 : isAt w H.length = false := hR.bd (Nat.le_refl _)
    have hw1 : isAt w (H.length + 1) = false := hR.bd (Nat.le_succ _)
    have finb : ∀ (b : Bool) (s1 : List Sn) (w1 : AV) (H1 : Heap) (e : Env), (bel T (k + 1) x seen) = (s1, b) → Row nl H1 w1 s1 → Keep H w H1 w1 → Env.get e 6 = w1 → Env.get e 7 = .bool b → FinX [IRes.tmp 6, IRes.tmp 7] (fun v S' => ∃ w' H', v = .tuple [w', .bool (bel T (k + 1) x seen).2] ∧ S' = H' :: S ∧ Row nl H' w' (bel T (k + 1) x seen).1 ∧ Keep H w H' w') .ret e (H1 :: S) := by
      intro b s1 w1 H1 e h1 hR1 hK h2 h3
      refine FinX_g (funs := F) (.inr rfl) (vs := [w1, .bool b]) ?_ (outV_2 _ _) ⟨w1, _, by rw [h1], rfl, by rw [h1]; exact hR1, hK⟩
      simp only [mapO, resultA_tmp, h2, h3, hR1.tmp]; rfl
    simp -failIfUnchanged (disch := first | assumption | omega | (refine room_i _ _ ?_ ?_ <;> omega) | (refine @_root_.id _ ?_; with_unfolding_all exact Eq.refl _) | (simp only [List.length_take, List.length_drop, List.length_append, List.length_cons, List.length_nil, List.length_replicate, List.length_map] <;> omega) | fail) only [rnL, opL, ruL, hpL, rsL, natL, outL, Nat.add_sub_cancel_left, Nat.mul_one, List.length_cons, List.length_nil, Nat.zero_add, Nat.add_zero, Nat.reduceAdd, Nat.reduceMul, Nat.reduceSub, Nat.reduceEqDiff, Nat.reduceLT, Nat.reduceLeDiff, litd_t, litd_f, decide_true, decide_false, Bool.not_true, Bool.not_false, not_true_eq_false, not_false_eq_true, true_and, and_true, false_and, and_false, true_or, or_true, false_or, or_false, Int.toNat_natCast, cond_true, cond_false, List.map_cons, List.map_nil, Option.map_some, Option.map_none, datL, encSn0, hxL]
    (first | refine RunB_i (fun h1 => ?_) (fun h1 => ?_) | refine RunG_i (fun h1 => ?_) (fun h1 => ?_) | refine RunB_ib (fun h1 => ?_) (fun h1 => ?_))
    · simp -failIfUnchanged (disch := first | assumption | omega | (refine room_i _ _ ?_ ?_ <;> omega) | (refine @_root_.id _ ?_; with_unfolding_all exact Eq.refl _) | (simp only [List.length_take, List.length_drop, List.length_append, List.length_cons, List.length_nil, List.length_replicate, List.length_map] <;> omega) | fail) only [rnL, opL, ruL, hpL, rsL, natL, outL, Nat.add_sub_cancel_left, Nat.mul_one, List.length_cons, List.length_nil, Nat.zero_add, Nat.add_zero, Nat.reduceAdd, Nat.reduceMul, Nat.reduceSub, Nat.reduceEqDiff, Nat.reduceLT, Nat.reduceLeDiff, litd_t, litd_f, decide_true, decide_false, Bool.not_true, Bool.not_false, not_true_eq_false, not_false_eq_true, true_and, and_true, false_and, and_false, true_or, or_true, false_or, or_false, Int.toNat_natCast, cond_true, cond_false, List.map_cons, List.map_nil, Option.map_some, Option.map_none, datL, encSn0, hxL, hR.len]
      exact finb false seen w _ _ (by simp [bel, h1]) hR.app Keep.app rfl rfl
    simp -failIfUnchanged (disch := first | assumption | omega | (refine room_i _ _ ?_ ?_ <;> omega) | (refine @_root_.id _ ?_; with_unfolding_all exact Eq.refl _) | (simp only [List.length_take, List.length_drop, List.length_append, List.length_cons, List.length_nil, List.length_replicate, List.length_map] <;> omega) | fail) only [rnL, opL, ruL, hpL, rsL, natL, outL, Nat.add_sub_cancel_left, Nat.mul_one, List.length_cons, List.length_nil, Nat.zero_add, Nat.add_zero, Nat.reduceAdd, Nat.reduceMul, Nat.reduceSub, Nat.reduceEqDiff, Nat.reduceLT, Nat.reduceLeDiff, litd_t, litd_f, decide_true, decide_false, Bool.not_true, Bool.not_false, not_true_eq_false, not_false_eq_true, true_and, and_true, false_and, and_false, true_or, or_true, false_or, or_false, Int.toNat_natCast, cond_true, cond_false, List.map_cons, List.map_nil, Option.map_some, Option.map_none, datL, encSn0, hxL, hR.len]
    (first | refine RunB_i (fun h2 => ?_) (fun h2 => ?_) | refine RunG_i (fun h2 => ?_) (fun h2 => ?_) | refine RunB_ib (fun h2 => ?_) (fun h2 => ?_))
    · simp -failIfUnchanged (disch := first | assumption | omega | (refine room_i _ _ ?_ ?_ <;> omega) | (refine @_root_.id _ ?_; with_unfolding_all exact Eq.refl _) | (simp only [List.length_take, List.length_drop, List.length_append, List.length_cons, List.length_nil, List.length_replicate, List.length_map] <;> omega) | fail) only [rnL, opL, ruL, hpL, rsL, natL, outL, Nat.add_sub_cancel_left, Nat.mul_one, List.length_cons, List.length_nil, Nat.zero_add, Nat.add_zero, Nat.reduceAdd, Nat.reduceMul, Nat.reduceSub, Nat.reduceEqDiff, Nat.reduceLT, Nat.reduceLeDiff, litd_t, litd_f, decide_true, decide_false, Bool.not_true, Bool.not_false, not_true_eq_false, not_false_eq_true, true_and, and_true, false_and, and_false, true_or, or_true, false_or, or_false, Int.toNat_natCast, cond_true, cond_false, List.map_cons, List.map_nil, Option.map_some, Option.map_none, datL, encSn0, hxL, hR.len]
      exact finb false seen w _ _ (by simp [bel, h2]) hR.app Keep.app rfl rfl
    simp -failIfUnchanged (disch := first | assumption | omega | (refine room_i _ _ ?_ ?_ <;> omega) | (refine @_root_.id _ ?_; with_unfolding_all exact Eq.refl _) | (simp only [List.length_take, List.length_drop, List.length_append, List.length_cons, List.length_nil, List.length_replicate, List.length_map] <;> omega) | fail) only [rnL, opL, ruL, hpL, rsL, natL, outL, Nat.add_sub_cancel_left, Nat.mul_one, List.length_cons, List.length_nil, Nat.zero_add, Nat.add_zero, Nat.reduceAdd, Nat.reduceMul, Nat.reduceSub, Nat.reduceEqDiff, Nat.reduceLT, Nat.reduceLeDiff, litd_t, litd_f, decide_true, decide_false, Bool.not_true, Bool.not_false, not_true_eq_false, not_false_eq_true, true_and, and_true, false_and, and_false, true_or, or_true, false_or, or_false, Int.toNat_natCast, cond_true, cond_false, List.map_cons, List.map_nil, Option.map_some, Option.map_none, datL, encSn0, hxL, hR.len]
    refine Run_upto seen.length (fun i => [(0, AV.agg (Cel.enc T)), (1, AV.agg (Cel.enc x)), (2, w), (3, AV.ptr (List.length H) 1 0), (4, AV.ptr (List.length H + 1) 5 0), (6, AV.imm true 0 0 (some 0) []), (7, AV.bool false), (8, .int .i64 i), (24, .bool false)]) (fun _ => (H ++ [AObj.cells (Cel.enc T), AObj.cells (Cel.enc x)]) :: S) (fun i => ∀ j (hj : j < seen.length), j < i → seen[j].n ≠ x.n) ?_ rfl (fun j _ h => by omega) ?_
    · rfl
    intro i hi hP
    simp -failIfUnchanged (disch := first | assumption | omega | (refine room_i _ _ ?_ ?_ <;> omega) | (refine @_root_.id _ ?_; with_unfolding_all exact Eq.refl _) | (simp only [List.length_take, List.length_drop, List.length_append, List.length_cons, List.length_nil, List.length_replicate, List.length_map] <;> omega) | fail) only [rnL, opL, ruL, hpL, rsL, natL, outL, Nat.add_sub_cancel_left, Nat.mul_one, List.length_cons, List.length_nil, Nat.zero_add, Nat.add_zero, Nat.reduceAdd, Nat.reduceMul, Nat.reduceSub, Nat.reduceEqDiff, Nat.reduceLT, Nat.reduceLeDiff, litd_t, litd_f, decide_true, decide_false, Bool.not_true, Bool.not_false, not_true_eq_false, not_false_eq_true, true_and, and_true, false_and, and_false, true_or, or_true, false_or, or_false, Int.toNat_natCast, cond_true, cond_false, List.map_cons, List.map_nil, Option.map_some, Option.map_none, datL, encSn0, hxL, hR.len]
    (first | refine RunB_i (fun h3 => ?_) (fun h3 => ?_) | refine RunG_i (fun h3 => ?_) (fun h3 => ?_) | refine RunB_ib (fun h3 => ?_) (fun h3 => ?_))
    · have hi2 : i < seen.length := by omega
      obtain ⟨id', e1, e2, e3⟩ := hR.ixa (es := 5) (k := .i64) (H2 := H ++ [AObj.cells (Cel.enc T), AObj.cells (Cel.enc x)]) rfl (Int.natCast_nonneg i) h3
      have e4 : id' < H.length := Nat.lt_of_not_le fun h => by have := hR.bd h; rw [e3] at this; cases this
      have e5 := hat_app_lt (L := [AObj.cells (Cel.enc T), AObj.cells (Cel.enc x)]) e4
      rw [e2] at e5
      simp -failIfUnchanged (disch := first | assumption | omega | (refine room_i _ _ ?_ ?_ <;> omega) | (refine @_root_.id _ ?_; with_unfolding_all exact Eq.refl _) | (simp only [List.length_take, List.length_drop, List.length_append, List.length_cons, List.length_nil, List.length_replicate, List.length_map] <;> omega) | fail) only [rnL, opL, ruL, hpL, rsL, natL, outL, Nat.add_sub_cancel_left, Nat.mul_one, List.length_cons, List.length_nil, Nat.zero_add, Nat.add_zero, Nat.reduceAdd, Nat.reduceMul, Nat.reduceSub, Nat.reduceEqDiff, Nat.reduceLT, Nat.reduceLeDiff, litd_t, litd_f, decide_true, decide_false, Bool.not_true, Bool.not_false, not_true_eq_false, not_false_eq_true, true_and, and_true, false_and, and_false, true_or, or_true, false_or, or_false, Int.toNat_natCast, cond_true, cond_false, List.map_cons, List.map_nil, Option.map_some, Option.map_none, datL, encSn0, hxL, hR.len, e1, e5]
      (first | refine RunB_i (fun h4 => ?_) (fun h4 => ?_) | refine RunG_i (fun h4 => ?_) (fun h4 => ?_) | refine RunB_ib (fun h4 => ?_) (fun h4 => ?_))
      · simp -failIfUnchanged (disch := first | assumption | omega | (refine room_i _ _ ?_ ?_ <;> omega) | (refine @_root_.id _ ?_; with_unfolding_all exact Eq.refl _) | (simp only [List.length_take, List.length_drop, List.length_append, List.length_cons, List.length_nil, List.length_replicate, List.length_map] <;> omega) | fail) only [rnL, opL, ruL, hpL, rsL, natL, outL, Nat.add_sub_cancel_left, Nat.mul_one, List.length_cons, List.length_nil, Nat.zero_add, Nat.add_zero, Nat.reduceAdd, Nat.reduceMul, Nat.reduceSub, Nat.reduceEqDiff, Nat.reduceLT, Nat.reduceLeDiff, litd_t, litd_f, decide_true, decide_false, Bool.not_true, Bool.not_false, not_true_eq_false, not_false_eq_true, true_and, and_true, false_and, and_false, true_or, or_true, false_or, or_false, Int.toNat_natCast, cond_true, cond_false, List.map_cons, List.map_nil, Option.map_some, Option.map_none, datL, encSn0, hxL, hR.len]
        exact finb false seen w _ _ (by
          have : x.n ∈ seen.map Sn.n := h4 ▸ List.mem_map_of_mem (List.getElem_mem hi2)
          simp only [bel]
          rw [if_neg (by omega), if_pos this]) hR.app Keep.app rfl rfl
      · simp -failIfUnchanged (disch := first | assumption | omega | (refine room_i _ _ ?_ ?_ <;> omega) | (refine @_root_.id _ ?_; with_unfolding_all exact Eq.refl _) | (simp only [List.length_take, List.length_drop, List.length_append, List.length_cons, List.length_nil, List.length_replicate, List.length_map] <;> omega) | fail) only [rnL, opL, ruL, hpL, rsL, natL, outL, Nat.add_sub_cancel_left, Nat.mul_one, List.length_cons, List.length_nil, Nat.zero_add, Nat.add_zero, Nat.reduceAdd, Nat.reduceMul, Nat.reduceSub, Nat.reduceEqDiff, Nat.reduceLT, Nat.reduceLeDiff, litd_t, litd_f, decide_true, decide_false, Bool.not_true, Bool.not_false, not_true_eq_false, not_false_eq_true, true_and, and_true, false_and, and_false, true_or, or_true, false_or, or_false, Int.toNat_natCast, cond_true, cond_false, List.map_cons, List.map_nil, Option.map_some, Option.map_none, datL, encSn0, hxL, hR.len]
        exact .i hi2 (by first | exact trivial | rfl) (by first | exact trivial | rfl) (fun j hj hji => by
          rcases Nat.lt_succ_iff_lt_or_eq.mp hji with h6 | rfl
          · exact hP j hj h6
          · exact h4)
    have : i = seen.length := by omega
    subst this
    have h5 : x.n ∉ seen.map Sn.n := by
      intro h
      obtain ⟨y, hy, h6⟩ := List.mem_map.mp h
      obtain ⟨j, hj, rfl⟩ := List.getElem_of_mem hy
      exact hP j hj hj h6
    clear h3 hP hi
    have hx1 : 1 ≤ x.n := by omega
    have hx2 : x.n.toNat < T.nodes.l.length := by omega
    have eN : T.nodes.l[x.n.toNat] = nodeAt T x.n := nodeAt_get hx1 hx2
    have hN := hT.nodes x.n
    obtain ⟨w1, H1, e1, hR1, hK1⟩ := (hR.app (L := [AObj.cells (Cel.enc T), AObj.cells (Cel.enc x), AObj.cells (Cel.enc (nodeAt T x.n))])).append (es := 5) (bytes := 56) x rfl rfl (room_i _ _ (by omega) (by omega))
    have hlen : (H ++ [AObj.cells (Cel.enc T), AObj.cells (Cel.enc x), AObj.cells (Cel.enc (nodeAt T x.n))]).length = H.length + 3 := by simp
    have g0 : hat H1 H.length = .cells (Cel.enc T) := by rw [hK1.same _ (by omega) hw0]; simp -failIfUnchanged (disch := first | assumption | omega | (refine room_i _ _ ?_ ?_ <;> omega) | (refine @_root_.id _ ?_; with_unfolding_all exact Eq.refl _) | (simp only [List.length_take, List.length_drop, List.length_append, List.length_cons, List.length_nil, List.length_replicate, List.length_map] <;> omega) | fail) only [rnL, opL, ruL, hpL, rsL, natL, outL, Nat.add_sub_cancel_left, Nat.mul_one, List.length_cons, List.length_nil, Nat.zero_add, Nat.add_zero, Nat.reduceAdd, Nat.reduceMul, Nat.reduceSub, Nat.reduceEqDiff, Nat.reduceLT, Nat.reduceLeDiff, litd_t, litd_f, decide_true, decide_false, Bool.not_true, Bool.not_false, not_true_eq_false, not_false_eq_true, true_and, and_true, false_and, and_false, true_or, or_true, false_or, or_false, Int.toNat_natCast, cond_true, cond_false, List.map_cons, List.map_nil, Option.map_some, Option.map_none, hxL]
    have g1 : hat H1 (H.length + 1) = .cells (Cel.enc x) := by rw [hK1.same _ (by omega) hw1]; simp -failIfUnchanged (disch := first | assumption | omega | (refine room_i _ _ ?_ ?_ <;> omega) | (refine @_root_.id _ ?_; with_unfolding_all exact Eq.refl _) | (simp only [List.length_take, List.length_drop, List.length_append, List.length_cons, List.length_nil, List.length_replicate, List.length_map] <;> omega) | fail) only [rnL, opL, ruL, hpL, rsL, natL, outL, Nat.add_sub_cancel_left, Nat.mul_one, List.length_cons, List.length_nil, Nat.zero_add, Nat.add_zero, Nat.reduceAdd, Nat.reduceMul, Nat.reduceSub, Nat.reduceEqDiff, Nat.reduceLT, Nat.reduceLeDiff, litd_t, litd_f, decide_true, decide_false, Bool.not_true, Bool.not_false, not_true_eq_false, not_false_eq_true, true_and, and_true, false_and, and_false, true_or, or_true, false_or, or_false, Int.toNat_natCast, cond_true, cond_false, List.map_cons, List.map_nil, Option.map_some, Option.map_none, hxL]
    have g2 : hat H1 (H.length + 2) = .cells (Cel.enc (nodeAt T x.n)) := by rw [hK1.same _ (by omega) (hR.bd (by omega))]; simp -failIfUnchanged (disch := first | assumption | omega | (refine room_i _ _ ?_ ?_ <;> omega) | (refine @_root_.id _ ?_; with_unfolding_all exact Eq.refl _) | (simp only [List.length_take, List.length_drop, List.length_append, List.length_cons, List.length_nil, List.length_replicate, List.length_map] <;> omega) | fail) only [rnL, opL, ruL, hpL, rsL, natL, outL, Nat.add_sub_cancel_left, Nat.mul_one, List.length_cons, List.length_nil, Nat.zero_add, Nat.add_zero, Nat.reduceAdd, Nat.reduceMul, Nat.reduceSub, Nat.reduceEqDiff, Nat.reduceLT, Nat.reduceLeDiff, litd_t, litd_f, decide_true, decide_false, Bool.not_true, Bool.not_false, not_true_eq_false, not_false_eq_true, true_and, and_true, false_and, and_false, true_or, or_true, false_or, or_false, Int.toNat_natCast, cond_true, cond_false, List.map_cons, List.map_nil, Option.map_some, Option.map_none, hxL]
    have hKa : Keep H w H1 w1 := Keep.app.trans hK1
    have hw10 := hK1.at_ _ (by omega) hw0
    have hw11 := hK1.at_ _ (by omega) hw1
    have hw12 := hK1.at_ (H.length + 2) (by omega) (hR.bd (by omega))
    have hlen1 : H.length + 3 ≤ H1.length := by rw [← hlen]; exact hK1.len
    simp -failIfUnchanged (disch := first | assumption | omega | (refine room_i _ _ ?_ ?_ <;> omega) | (refine @_root_.id _ ?_; with_unfolding_all exact Eq.refl _) | (simp only [List.length_take, List.length_drop, List.length_append, List.length_cons, List.length_nil, List.length_replicate, List.length_map] <;> omega) | fail) only [rnL, opL, ruL, hpL, rsL, natL, outL, Nat.add_sub_cancel_left, Nat.mul_one, List.length_cons, List.length_nil, Nat.zero_add, Nat.add_zero, Nat.reduceAdd, Nat.reduceMul, Nat.reduceSub, Nat.reduceEqDiff, Nat.reduceLT, Nat.reduceLeDiff, litd_t, litd_f, decide_true, decide_false, Bool.not_true, Bool.not_false, not_true_eq_false, not_false_eq_true, true_and, and_true, false_and, and_false, true_or, or_true, false_or, or_false, Int.toNat_natCast, cond_true, cond_false, List.map_cons, List.map_nil, Option.map_some, Option.map_none, datL, encSn0, encSn1, encSn3, hxL, hR.len, eN, e1, g0, g1, g2, kind1, kind2]
    (first | refine RunB_i (fun h6 => ?_) (fun h6 => ?_) | refine RunG_i (fun h6 => ?_) (fun h6 => ?_) | refine RunB_ib (fun h6 => ?_) (fun h6 => ?_))
    · simp -failIfUnchanged (disch := first | assumption | omega | (refine room_i _ _ ?_ ?_ <;> omega) | (refine @_root_.id _ ?_; with_unfolding_all exact Eq.refl _) | (simp only [List.length_take, List.length_drop, List.length_append, List.length_cons, List.length_nil, List.length_replicate, List.length_map] <;> omega) | fail) only [rnL, opL, ruL, hpL, rsL, natL, outL, Nat.add_sub_cancel_left, Nat.mul_one, List.length_cons, List.length_nil, Nat.zero_add, Nat.add_zero, Nat.reduceAdd, Nat.reduceMul, Nat.reduceSub, Nat.reduceEqDiff, Nat.reduceLT, Nat.reduceLeDiff, litd_t, litd_f, decide_true, decide_false, Bool.not_true, Bool.not_false, not_true_eq_false, not_false_eq_true, true_and, and_true, false_and, and_false, true_or, or_true, false_or, or_false, Int.toNat_natCast, cond_true, cond_false, List.map_cons, List.map_nil, Option.map_some, Option.map_none, datL, encSn0, encSn1, encSn3, hxL, eN, e1, g0, g1, g2, kind1, kind2]
      (first | refine RunB_i (fun h7 => ?_) (fun h7 => ?_) | refine RunG_i (fun h7 => ?_) (fun h7 => ?_) | refine RunB_ib (fun h7 => ?_) (fun h7 => ?_))
      · simp -failIfUnchanged (disch := first | assumption | omega | (refine room_i _ _ ?_ ?_ <;> omega) | (refine @_root_.id _ ?_; with_unfolding_all exact Eq.refl _) | (simp only [List.length_take, List.length_drop, List.length_append, List.length_cons, List.length_nil, List.length_replicate, List.length_map] <;> omega) | fail) only [rnL, opL, ruL, hpL, rsL, natL, outL, Nat.add_sub_cancel_left, Nat.mul_one, List.length_cons, List.length_nil, Nat.zero_add, Nat.add_zero, Nat.reduceAdd, Nat.reduceMul, Nat.reduceSub, Nat.reduceEqDiff, Nat.reduceLT, Nat.reduceLeDiff, litd_t, litd_f, decide_true, decide_false, Bool.not_true, Bool.not_false, not_true_eq_false, not_false_eq_true, true_and, and_true, false_and, and_false, true_or, or_true, false_or, or_false, Int.toNat_natCast, cond_true, cond_false, List.map_cons, List.map_nil, Option.map_some, Option.map_none, datL, encSn0, encSn1, encSn3, hxL, eN, e1, g0, g1, g2, kind1, kind2]
        exact finb true (seen ++ [x]) w1 _ _ (by simp only [bel]; rw [if_neg (by omega), if_neg h5, if_pos ⟨h6, h7⟩]) hR1 hKa rfl rfl
      · simp -failIfUnchanged (disch := first | assumption | omega | (refine room_i _ _ ?_ ?_ <;> omega) | (refine @_root_.id _ ?_; with_unfolding_all exact Eq.refl _) | (simp only [List.length_take, List.length_drop, List.length_append, List.length_cons, List.length_nil, List.length_replicate, List.length_map] <;> omega) | fail) only [rnL, opL, ruL, hpL, rsL, natL, outL, Nat.add_sub_cancel_left, Nat.mul_one, List.length_cons, List.length_nil, Nat.zero_add, Nat.add_zero, Nat.reduceAdd, Nat.reduceMul, Nat.reduceSub, Nat.reduceEqDiff, Nat.reduceLT, Nat.reduceLeDiff, litd_t, litd_f, decide_true, decide_false, Bool.not_true, Bool.not_false, not_true_eq_false, not_false_eq_true, true_and, and_true, false_and, and_false, true_or, or_true, false_or, or_false, Int.toNat_natCast, cond_true, cond_false, List.map_cons, List.map_nil, Option.map_some, Option.map_none, datL, encSn0, encSn1, encSn3, hxL, eN, e1, g0, g1, g2, kind1, kind2, h6, k12]
        exact finb false (seen ++ [x]) w1 _ _ (by simp only [bel]; rw [if_neg (by omega), if_neg h5, if_neg (fun h => h7 h.2), if_pos (.inl (by rw [h6]; decide))]) hR1 hKa rfl rfl
    simp -failIfUnchanged (disch := first | assumption | omega | (refine room_i _ _ ?_ ?_ <;> omega) | (refine @_root_.id _ ?_; with_unfolding_all exact Eq.refl _) | (simp only [List.length_take, List.length_drop, List.length_append, List.length_cons, List.length_nil, List.length_replicate, List.length_map] <;> omega) | fail) only [rnL, opL, ruL, hpL, rsL, natL, outL, Nat.add_sub_cancel_left, Nat.mul_one, List.length_cons, List.length_nil, Nat.zero_add, Nat.add_zero, Nat.reduceAdd, Nat.reduceMul, Nat.reduceSub, Nat.reduceEqDiff, Nat.reduceLT, Nat.reduceLeDiff, litd_t, litd_f, decide_true, decide_false, Bool.not_true, Bool.not_false, not_true_eq_false, not_false_eq_true, true_and, and_true, false_and, and_false, true_or, or_true, false_or, or_false, Int.toNat_natCast, cond_true, cond_false, List.map_cons, List.map_nil, Option.map_some, Option.map_none, datL, encSn0, encSn1, encSn3, hxL, eN, e1, g0, g1, g2, kind1, kind2, h6]
    by_cases h8 : (nodeAt T x.n).kind ≠ 2 ∨ (nodeAt T x.n).kids.l.length ≠ (nodeAt T x.n).pivots.l.length + 1 ∨ ¬ rightP (nodeAt T x.n).pivots.l x.r
    · have eB : bel T (k + 1) x seen = (seen ++ [x], false) := by
        simp only [bel]; rw [if_neg (by omega), if_neg h5, if_neg (fun h => h6 h.1), if_pos h8]
      by_cases h9 : (nodeAt T x.n).kind = 2
      · by_cases h10 : ((nodeAt T x.n).kids.l.length : Int) = ((nodeAt T x.n).pivots.l.length : Int) + 1
        · have h11 : ¬ rightP (nodeAt T x.n).pivots.l x.r := by
            rcases h8 with h | h | h
            · exact absurd h9 h
            · omega
            · exact h
          simp -failIfUnchanged (disch := first | assumption | omega | (refine room_i _ _ ?_ ?_ <;> omega) | (refine @_root_.id _ ?_; with_unfolding_all exact Eq.refl _) | (simp only [List.length_take, List.length_drop, List.length_append, List.length_cons, List.length_nil, List.length_replicate, List.length_map] <;> omega) | fail) only [rnL, opL, ruL, hpL, rsL, natL, outL, Nat.add_sub_cancel_left, Nat.mul_one, List.length_cons, List.length_nil, Nat.zero_add, Nat.add_zero, Nat.reduceAdd, Nat.reduceMul, Nat.reduceSub, Nat.reduceEqDiff, Nat.reduceLT, Nat.reduceLeDiff, litd_t, litd_f, decide_true, decide_false, Bool.not_true, Bool.not_false, not_true_eq_false, not_false_eq_true, true_and, and_true, false_and, and_false, true_or, or_true, false_or, or_false, Int.toNat_natCast, cond_true, cond_false, List.map_cons, List.map_nil, Option.map_some, Option.map_none, datL, encSn0, encSn1, encSn3, hxL, g0, g1, g2, kind1, kind2, h9, h10, rightRef_p, h11]
          exact finb false (seen ++ [x]) w1 _ _ eB hR1 hKa rfl rfl
        · simp -failIfUnchanged (disch := first | assumption | omega | (refine room_i _ _ ?_ ?_ <;> omega) | (refine @_root_.id _ ?_; with_unfolding_all exact Eq.refl _) | (simp only [List.length_take, List.length_drop, List.length_append, List.length_cons, List.length_nil, List.length_replicate, List.length_map] <;> omega) | fail) only [rnL, opL, ruL, hpL, rsL, natL, outL, Nat.add_sub_cancel_left, Nat.mul_one, List.length_cons, List.length_nil, Nat.zero_add, Nat.add_zero, Nat.reduceAdd, Nat.reduceMul, Nat.reduceSub, Nat.reduceEqDiff, Nat.reduceLT, Nat.reduceLeDiff, litd_t, litd_f, decide_true, decide_false, Bool.not_true, Bool.not_false, not_true_eq_false, not_false_eq_true, true_and, and_true, false_and, and_false, true_or, or_true, false_or, or_false, Int.toNat_natCast, cond_true, cond_false, List.map_cons, List.map_nil, Option.map_some, Option.map_none, datL, encSn0, encSn1, encSn3, hxL, g0, g1, g2, kind1, kind2, h9, h10]
          exact finb false (seen ++ [x]) w1 _ _ eB hR1 hKa rfl rfl
      · simp -failIfUnchanged (disch := first | assumption | omega | (refine room_i _ _ ?_ ?_ <;> omega) | (refine @_root_.id _ ?_; with_unfolding_all exact Eq.refl _) | (simp only [List.length_take, List.length_drop, List.length_append, List.length_cons, List.length_nil, List.length_replicate, List.length_map] <;> omega) | fail) only [rnL, opL, ruL, hpL, rsL, natL, outL, Nat.add_sub_cancel_left, Nat.mul_one, List.length_cons, List.length_nil, Nat.zero_add, Nat.add_zero, Nat.reduceAdd, Nat.reduceMul, Nat.reduceSub, Nat.reduceEqDiff, Nat.reduceLT, Nat.reduceLeDiff, litd_t, litd_f, decide_true, decide_false, Bool.not_true, Bool.not_false, not_true_eq_false, not_false_eq_true, true_and, and_true, false_and, and_false, true_or, or_true, false_or, or_false, Int.toNat_natCast, cond_true, cond_false, List.map_cons, List.map_nil, Option.map_some, Option.map_none, datL, encSn0, encSn1, encSn3, hxL, g0, g1, g2, kind1, kind2, h9]
        exact finb false (seen ++ [x]) w1 _ _ eB hR1 hKa rfl rfl
    · have h9 : (nodeAt T x.n).kind = 2 := Decidable.byContradiction fun h => h8 (.inl h)
      have h10' : (nodeAt T x.n).kids.l.length = (nodeAt T x.n).pivots.l.length + 1 := Decidable.byContradiction fun h => h8 (.inr (.inl h))
      have h10 : ((nodeAt T x.n).kids.l.length : Int) = ((nodeAt T x.n).pivots.l.length : Int) + 1 := by omega
      have h11 : rightP (nodeAt T x.n).pivots.l x.r := Decidable.byContradiction fun h => h8 (.inr (.inr h))
      have eB : bel T (k + 1) x seen = kidsB (bel T k) (nodeAt T x.n).kids.l x.n (spanAt (nodeAt T x.n).pivots.l x.r) (nodeAt T x.n).kids.l.length 0 (seen ++ [x]) := by
        simp only [bel]; rw [if_neg (by omega), if_neg h5, if_neg (fun h => h6 h.1), if_neg h8]
      simp -failIfUnchanged (disch := first | assumption | omega | (refine room_i _ _ ?_ ?_ <;> omega) | (refine @_root_.id _ ?_; with_unfolding_all exact Eq.refl _) | (simp only [List.length_take, List.length_drop, List.length_append, List.length_cons, List.length_nil, List.length_replicate, List.length_map] <;> omega) | fail) only [rnL, opL, ruL, hpL, rsL, natL, outL, Nat.add_sub_cancel_left, Nat.mul_one, List.length_cons, List.length_nil, Nat.zero_add, Nat.add_zero, Nat.reduceAdd, Nat.reduceMul, Nat.reduceSub, Nat.reduceEqDiff, Nat.reduceLT, Nat.reduceLeDiff, litd_t, litd_f, decide_true, decide_false, Bool.not_true, Bool.not_false, not_true_eq_false, not_false_eq_true, true_and, and_true, false_and, and_false, true_or, or_true, false_or, or_false, Int.toNat_natCast, cond_true, cond_false, List.map_cons, List.map_nil, Option.map_some, Option.map_none, datL, encSn0, encSn1, encSn3, hxL, g0, g1, g2, kind1, kind2, h9, h10, rightRef_p, h11, spansRef_is, if_pos h11, if_true]
      refine Run_loop (σ := Nat × List Sn × AV × Heap) (fun q => [(0, AV.agg (Cel.enc T)), (1, AV.agg (Cel.enc x)), (2, q.2.2.1), (3, AV.ptr (List.length H) 1 0), (4, AV.ptr (List.length H + 1) 5 0), (6, AV.imm true 0 0 (some 0) []), (7, AV.bool false),
        (8, AV.int IntKind.i64 ↑seen.length), (9, AV.ptr (List.length H + 2) 5 0), (10, sl false (spl (nodeAt T x.n).pivots.l x.r ((nodeAt T x.n).pivots.l.length + 1))), (11, AV.int IntKind.i64 (q.1 : Nat)), (24, AV.bool false), (58, AV.bool false), (80, AV.bool false)]) (fun q => q.2.2.2 :: S)
        (fun q => q.1 ≤ (nodeAt T x.n).kids.l.length ∧ Row nl q.2.2.2 q.2.2.1 q.2.1 ∧ Keep H1 w1 q.2.2.2 q.2.2.1 ∧ left T q.2.1 < k ∧ q.2.1.length + left T q.2.1 ≤ 2000 ∧ bel T (k + 1) x seen = kidsB (bel T k) (nodeAt T x.n).kids.l x.n (spanAt (nodeAt T x.n).pivots.l x.r) ((nodeAt T x.n).kids.l.length - q.1) q.1 q.2.1)
        (fun q => (nodeAt T x.n).kids.l.length - q.1) (0, seen ++ [x], w1, H1) rfl rfl ⟨Nat.zero_le _, hR1, Keep.refl _ _, ?_, ?_, eB⟩ ?_
      · have := left_add hx1 hx2 h5; show left T (seen ++ [x]) < k; omega
      · have := left_add hx1 hx2 h5; show (seen ++ [x]).length + left T (seen ++ [x]) ≤ 2000; rw [List.length_append, List.length_singleton]; omega
      rintro ⟨i, s1, w2, H2⟩ ⟨hi, hR2, hK2, hl2, hb2, eB2⟩
      simp only at hi hR2 hK2 hl2 hb2 eB2 ⊢
      have j0 : hat H2 H.length = .cells (Cel.enc T) := by rw [hK2.same _ (by omega) hw10, g0]
      have j1 : hat H2 (H.length + 1) = .cells (Cel.enc x) := by rw [hK2.same _ (by omega) hw11, g1]
      have j2 : hat H2 (H.length + 2) = .cells (Cel.enc (nodeAt T x.n)) := by rw [hK2.same _ (by omega) hw12, g2]
      simp -failIfUnchanged (disch := first | assumption | omega | (refine room_i _ _ ?_ ?_ <;> omega) | (refine @_root_.id _ ?_; with_unfolding_all exact Eq.refl _) | (simp only [List.length_take, List.length_drop, List.length_append, List.length_cons, List.length_nil, List.length_replicate, List.length_map] <;> omega) | fail) only [rnL, opL, ruL, hpL, rsL, natL, outL, Nat.add_sub_cancel_left, Nat.mul_one, List.length_cons, List.length_nil, Nat.zero_add, Nat.add_zero, Nat.reduceAdd, Nat.reduceMul, Nat.reduceSub, Nat.reduceEqDiff, Nat.reduceLT, Nat.reduceLeDiff, litd_t, litd_f, decide_true, decide_false, Bool.not_true, Bool.not_false, not_true_eq_false, not_false_eq_true, true_and, and_true, false_and, and_false, true_or, or_true, false_or, or_false, Int.toNat_natCast, cond_true, cond_false, List.map_cons, List.map_nil, Option.map_some, Option.map_none, datL, encSn0, encSn1, encSn3, hxL, j0, j1, j2]
      (first | refine RunB_i (fun h12 => ?_) (fun h12 => ?_) | refine RunG_i (fun h12 => ?_) (fun h12 => ?_) | refine RunB_ib (fun h12 => ?_) (fun h12 => ?_))
      · have hi2 : i < (nodeAt T x.n).kids.l.length := by omega
        have hs := spl_len (nodeAt T x.n).pivots.l x.r ((nodeAt T x.n).pivots.l.length + 1)
        have e2 : (spl (nodeAt T x.n).pivots.l x.r ((nodeAt T x.n).pivots.l.length + 1))[i]'(by omega) = spanAt (nodeAt T x.n).pivots.l x.r i := by simp [spl]
        have e3 : (nodeAt T x.n).kids.l[i] = (nodeAt T x.n).kids.l.getD i 0 := by simp [List.getD_eq_getElem?_getD, hi2]
        simp -failIfUnchanged (disch := first | assumption | omega | (refine room_i _ _ ?_ ?_ <;> omega) | (refine @_root_.id _ ?_; with_unfolding_all exact Eq.refl _) | (simp only [List.length_take, List.length_drop, List.length_append, List.length_cons, List.length_nil, List.length_replicate, List.length_map] <;> omega) | fail) only [rnL, opL, ruL, hpL, rsL, natL, outL, Nat.add_sub_cancel_left, Nat.mul_one, List.length_cons, List.length_nil, Nat.zero_add, Nat.add_zero, Nat.reduceAdd, Nat.reduceMul, Nat.reduceSub, Nat.reduceEqDiff, Nat.reduceLT, Nat.reduceLeDiff, litd_t, litd_f, decide_true, decide_false, Bool.not_true, Bool.not_false, not_true_eq_false, not_false_eq_true, true_and, and_true, false_and, and_false, true_or, or_true, false_or, or_false, Int.toNat_natCast, cond_true, cond_false, List.map_cons, List.map_nil, Option.map_some, Option.map_none, datL, encSn0, encSn1, encSn3, hxL, j0, j1, j2, buildSn, e2, e3]
        obtain ⟨v, S2, hr, w3, H3, rfl, rfl, hR3, hK3⟩ := below_is T hT k ⟨(nodeAt T x.n).kids.l.getD i 0, spanAt (nodeAt T x.n).pivots.l x.r i, x.n, i⟩ s1 H2 S w2 hR2 hl2 hb2
        have hm := bel_m T k ⟨(nodeAt T x.n).kids.l.getD i 0, spanAt (nodeAt T x.n).pivots.l x.r i, x.n, i⟩ s1
        have e4 : (nodeAt T x.n).kids.l.length - i = ((nodeAt T x.n).kids.l.length - (i + 1)) + 1 := by omega
        refine RunC_r hr ?_
        simp -failIfUnchanged (disch := first | assumption | omega | (refine room_i _ _ ?_ ?_ <;> omega) | (refine @_root_.id _ ?_; with_unfolding_all exact Eq.refl _) | (simp only [List.length_take, List.length_drop, List.length_append, List.length_cons, List.length_nil, List.length_replicate, List.length_map] <;> omega) | fail) only [rnL, opL, ruL, hpL, rsL, natL, outL, Nat.add_sub_cancel_left, Nat.mul_one, List.length_cons, List.length_nil, Nat.zero_add, Nat.add_zero, Nat.reduceAdd, Nat.reduceMul, Nat.reduceSub, Nat.reduceEqDiff, Nat.reduceLT, Nat.reduceLeDiff, litd_t, litd_f, decide_true, decide_false, Bool.not_true, Bool.not_false, not_true_eq_false, not_false_eq_true, true_and, and_true, false_and, and_false, true_or, or_true, false_or, or_false, Int.toNat_natCast, cond_true, cond_false, List.map_cons, List.map_nil, Option.map_some, Option.map_none]
        (first | refine RunB_i (fun h13 => ?_) (fun h13 => ?_) | refine RunG_i (fun h13 => ?_) (fun h13 => ?_) | refine RunB_ib (fun h13 => ?_) (fun h13 => ?_))
        · simp -failIfUnchanged (disch := first | assumption | omega | (refine room_i _ _ ?_ ?_ <;> omega) | (refine @_root_.id _ ?_; with_unfolding_all exact Eq.refl _) | (simp only [List.length_take, List.length_drop, List.length_append, List.length_cons, List.length_nil, List.length_replicate, List.length_map] <;> omega) | fail) only [rnL, opL, ruL, hpL, rsL, natL, outL, Nat.add_sub_cancel_left, Nat.mul_one, List.length_cons, List.length_nil, Nat.zero_add, Nat.add_zero, Nat.reduceAdd, Nat.reduceMul, Nat.reduceSub, Nat.reduceEqDiff, Nat.reduceLT, Nat.reduceLeDiff, litd_t, litd_f, decide_true, decide_false, Bool.not_true, Bool.not_false, not_true_eq_false, not_false_eq_true, true_and, and_true, false_and, and_false, true_or, or_true, false_or, or_false, Int.toNat_natCast, cond_true, cond_false, List.map_cons, List.map_nil, Option.map_some, Option.map_none]
          have h13 : (bel T k ⟨(nodeAt T x.n).kids.l.getD i 0, spanAt (nodeAt T x.n).pivots.l x.r i, x.n, i⟩ s1).2 = false := by simpa using h13
          refine finb false _ w3 H3 _ ?_ hR3 ((hKa.trans hK2).trans hK3) rfl rfl
          rw [eB2, e4, kidsB, if_neg (by rw [h13]; simp)]
        · simp -failIfUnchanged (disch := first | assumption | omega | (refine room_i _ _ ?_ ?_ <;> omega) | (refine @_root_.id _ ?_; with_unfolding_all exact Eq.refl _) | (simp only [List.length_take, List.length_drop, List.length_append, List.length_cons, List.length_nil, List.length_replicate, List.length_map] <;> omega) | fail) only [rnL, opL, ruL, hpL, rsL, natL, outL, Nat.add_sub_cancel_left, Nat.mul_one, List.length_cons, List.length_nil, Nat.zero_add, Nat.add_zero, Nat.reduceAdd, Nat.reduceMul, Nat.reduceSub, Nat.reduceEqDiff, Nat.reduceLT, Nat.reduceLeDiff, litd_t, litd_f, decide_true, decide_false, Bool.not_true, Bool.not_false, not_true_eq_false, not_false_eq_true, true_and, and_true, false_and, and_false, true_or, or_true, false_or, or_false, Int.toNat_natCast, cond_true, cond_false, List.map_cons, List.map_nil, Option.map_some, Option.map_none]
          have h13 : (bel T k ⟨(nodeAt T x.n).kids.l.getD i 0, spanAt (nodeAt T x.n).pivots.l x.r i, x.n, i⟩ s1).2 = true := by simpa using h13
          refine Next.i (i + 1, _, w3, H3) rfl rfl ⟨hi2, hR3, hK2.trans hK3, Nat.lt_of_le_of_lt hm.1 hl2, Nat.le_trans hm.2 hb2, ?_⟩ (by simp only; omega)
          rw [eB2, e4, kidsB, if_pos h13]
      · have : i = (nodeAt T x.n).kids.l.length := by omega
        subst this
        simp -failIfUnchanged (disch := first | assumption | omega | (refine room_i _ _ ?_ ?_ <;> omega) | (refine @_root_.id _ ?_; with_unfolding_all exact Eq.refl _) | (simp only [List.length_take, List.length_drop, List.length_append, List.length_cons, List.length_nil, List.length_replicate, List.length_map] <;> omega) | fail) only [rnL, opL, ruL, hpL, rsL, natL, outL, Nat.add_sub_cancel_left, Nat.mul_one, List.length_cons, List.length_nil, Nat.zero_add, Nat.add_zero, Nat.reduceAdd, Nat.reduceMul, Nat.reduceSub, Nat.reduceEqDiff, Nat.reduceLT, Nat.reduceLeDiff, litd_t, litd_f, decide_true, decide_false, Bool.not_true, Bool.not_false, not_true_eq_false, not_false_eq_true, true_and, and_true, false_and, and_false, true_or, or_true, false_or, or_false, Int.toNat_natCast, cond_true, cond_false, List.map_cons, List.map_nil, Option.map_some, Option.map_none, datL, encSn0, encSn1, encSn3, hxL, j0, j1, j2]
        rw [Nat.sub_self] at eB2
        exact finb true s1 w2 _ _ eB2 hR2 (hKa.trans hK2) rfl rfl
end Go.AS.Th

namespace Go.AS.Th
open Go Go.AS Go.Proofs
set_option maxHeartbeats 2000000
set_option maxRecDepth 8000
/-- The reference's list of all nodes that are reached. -/
def allS (T : Tr) : List Sn × Bool := bel T (T.nodes.l.length + 1) ⟨1, r0, 0, 0⟩ []
theorem left0 (T : Tr) : left T [] ≤ T.nodes.l.length := by
  unfold left
  have := List.length_filter_le (fun (i : Nat) => decide ((i : Int) ∉ ([] : List Sn).map Sn.n)) (List.range T.nodes.l.length)
  rwa [List.length_range] at this
theorem allRef_gives (T : Tr) (hT : Small T) : Gives F 52 [.agg (Cel.enc T)] (.tuple [sl false (allS T).1, .bool (allS T).2]) := by
  refine Gives.of fn_r15_All rfl rfl (args' := [.agg (Cel.enc T)]) (by simp only [mapO_nil, mapO_c2, consO_some, upf_v]) ?_
  simp only [ir_r15_All]
  have hb : ∀ H, opV H (.build [.int .i64 0, .str [], .str [], .int .i64 0, .int .i64 0] [(0, 1, .c (.int .i64 1))]) = some (.agg (Cel.enc (Sn.mk 1 r0 0 0)), H) := fun _ => rfl
  have h0 := left0 T
  have hT1 := hT.len
  obtain ⟨v, S', h1, w', H', rfl, rfl, h2, -⟩ := below_is (nl := false) T hT (T.nodes.l.length + 1) ⟨1, r0, 0, 0⟩ [] [.cells (Cel.enc T)] [] (.imm false 0 0 (some 0) []) Row.nil (by omega) (by simp only [List.length_nil]; omega)
  simp -failIfUnchanged (disch := first | assumption | omega | (refine room_i _ _ ?_ ?_ <;> omega) | (refine @_root_.id _ ?_; with_unfolding_all exact Eq.refl _) | (simp only [List.length_take, List.length_drop, List.length_append, List.length_cons, List.length_nil, List.length_replicate, List.length_map] <;> omega) | fail) only [rnL, opL, ruL, hpL, rsL, natL, outL, Nat.add_sub_cancel_left, Nat.mul_one, List.length_cons, List.length_nil, Nat.zero_add, Nat.add_zero, Nat.reduceAdd, Nat.reduceMul, Nat.reduceSub, Nat.reduceEqDiff, Nat.reduceLT, Nat.reduceLeDiff, litd_t, litd_f, decide_true, decide_false, Bool.not_true, Bool.not_false, not_true_eq_false, not_false_eq_true, true_and, and_true, false_and, and_false, true_or, or_true, false_or, or_false, Int.toNat_natCast, cond_true, cond_false, List.map_cons, List.map_nil, Option.map_some, Option.map_none, datL, hb]
  refine RunC_r h1 ?_
  simp -failIfUnchanged (disch := first | assumption | omega | (refine room_i _ _ ?_ ?_ <;> omega) | (refine @_root_.id _ ?_; with_unfolding_all exact Eq.refl _) | (simp only [List.length_take, List.length_drop, List.length_append, List.length_cons, List.length_nil, List.length_replicate, List.length_map] <;> omega) | fail) only [rnL, opL, ruL, hpL, rsL, natL, outL, Nat.add_sub_cancel_left, Nat.mul_one, List.length_cons, List.length_nil, Nat.zero_add, Nat.add_zero, Nat.reduceAdd, Nat.reduceMul, Nat.reduceSub, Nat.reduceEqDiff, Nat.reduceLT, Nat.reduceLeDiff, litd_t, litd_f, decide_true, decide_false, Bool.not_true, Bool.not_false, not_true_eq_false, not_false_eq_true, true_and, and_true, false_and, and_false, true_or, or_true, false_or, or_false, Int.toNat_natCast, cond_true, cond_false, List.map_cons, List.map_nil, Option.map_some, Option.map_none]
  refine Fin_g (.inr rfl) (vs := [w', .bool (allS T).2]) ?_ ?_
  · have e5 : ∀ e H, Env.get e 2 = w' → Env.get e 3 = .bool (allS T).2 → mapO (resultA e H) [.tmp 2, .tmp 3] = some [w', .bool (allS T).2] := fun e H h h' => by
      simp only [mapO, resultA_tmp, h, h', h2.tmp]; rfl
    exact e5 _ _ rfl rfl
  · show leave H' (.tuple [w', .bool (allS T).2]) = _
    rw [h2.leave2, Bool.false_and]; rfl
def pr (x : Sn) : Int × Rng := (x.n, x.r)
def pv (v : V) : Int × Rng := (v.n, v.r)
def Eqv (seen : List Sn) (s : Ks) : Prop := ∀ m : Int, m ∈ seen.map Sn.n ↔ m ∈ s.1.map Prod.fst
def Rel (seen : List Sn) (b : List Sn × Bool) (d : List V × Ks × Bool) : Prop :=
  b.2 = d.2.2 ∧ (d.2.2 = true → ∃ news, b.1 = seen ++ news ∧ news.map pr = d.1.map pv ∧ Eqv b.1 d.2.1)
theorem kids_rel {f : Sn → List Sn → List Sn × Bool} {g : Int → Rng → Ks → List V × Ks × Bool} {p : Int} (hf : ∀ n r at_ seen s, Eqv seen s → Rel seen (f ⟨n, r, p, at_⟩ seen) (g n r s)) (kids : List Int) (sp : Nat → Rng) :
    ∀ (m i : Nat) (seen : List Sn) (s : Ks), Eqv seen s → Rel seen (kidsB f kids p sp m i seen) (kidsL g kids ((List.range' i m).map fun i => (i, sp i)) s)
  | 0, i, seen, s, h => ⟨rfl, fun _ => ⟨[], by simp [kidsB], rfl, h⟩⟩
  | m + 1, i, seen, s, h => by
    have h1 := hf (kids.getD i 0) (sp i) i seen s h
    rw [List.range'_succ, List.map_cons, kidsB, kidsL]
    obtain ⟨a1, a2⟩ := h1
    by_cases hb : (g (kids.getD i 0) (sp i) s).2.2 = true
    · obtain ⟨news, b1, b2, b3⟩ := a2 hb
      rw [if_pos (by rw [a1]; exact hb), if_pos hb]
      obtain ⟨c1, c2⟩ := kids_rel hf kids sp m (i + 1) _ _ b3
      refine ⟨c1, fun h => ?_⟩
      obtain ⟨news2, d1, d2, d3⟩ := c2 h
      refine ⟨news ++ news2, ?_, ?_, d3⟩
      · rw [d1, b1, List.append_assoc]
      · rw [List.map_append, b2, d2, List.map_append]
    · rw [if_neg (by rw [a1]; exact hb), if_neg hb]
      exact ⟨by simpa using hb, fun h => absurd h hb⟩
theorem bel_dfs (T : Tr) : ∀ (k : Nat) (n : Int) (r : Rng) (p at_ : Int) (ab : List Int) (seen : List Sn) (s : Ks), (0 < p ↔ ab ≠ []) → Eqv seen s → Rel seen (bel T k ⟨n, r, p, at_⟩ seen) (dfs T k n r ab s)
  | 0, _, _, _, _, _, _, _, _, _ => ⟨rfl, fun h => by cases h⟩
  | k + 1, n, r, p, at_, ab, seen, s, hp, hE => by
    unfold bel dfs
    simp only
    have bad : ∀ b l, b = false → badAt T n r ab s → Rel seen (l, b) (if badAt T n r ab s then ([], s, false) else
        if (nodeAt T n).kind = 1 then ([⟨n, r, ab⟩], add s n, true) else
        (⟨n, r, ab⟩ :: (kidsL (fun n' r' s' => dfs T k n' r' (ab ++ [n]) s') (nodeAt T n).kids.l (spans (nodeAt T n).pivots.l r) (add s n)).1,
        (kidsL (fun n' r' s' => dfs T k n' r' (ab ++ [n]) s') (nodeAt T n).kids.l (spans (nodeAt T n).pivots.l r) (add s n)).2)) := by
      intro b l hb h
      rw [if_pos h]
      exact ⟨hb, fun h => by cases h⟩
    have hEa : Eqv (seen ++ [⟨n, r, p, at_⟩]) (add s n) := by
      intro m
      unfold add addK
      rw [List.map_append, List.mem_append, hE m]
      simp only [List.map_cons, List.map_nil, List.mem_singleton]
      split
      · rename_i h
        constructor
        · rintro (h1 | rfl)
          · exact h1
          · exact h
        · exact .inl
      · rw [List.map_append, List.mem_append]; simp
    split
    · rename_i h1
      refine bad _ _ rfl (.inl fun h => ?_)
      have := nodeAt_range h; omega
    · rename_i h1
      split
      · rename_i h2
        exact bad _ _ rfl (.inr (.inl ((hE n).mp h2)))
      · rename_i h2
        split
        · rename_i h3
          have hg : ¬ badAt T n r ab s := by
            rintro (h | h | h | h | h)
            · exact h (.inl h3.1)
            · exact h2 ((hE n).mpr h)
            · rw [h3.1] at h; exact absurd h.1 (by decide)
            · rw [h3.1] at h; exact absurd h.1 (by decide)
            · exact (hp.mp h3.2) h.1
          rw [if_neg hg, if_pos h3.1]
          exact ⟨rfl, fun _ => ⟨[⟨n, r, p, at_⟩], rfl, rfl, hEa⟩⟩
        · rename_i h3
          split
          · rename_i h4
            refine bad _ _ rfl ?_
            by_cases hk : (nodeAt T n).kind = 2
            · rcases h4 with h | h | h
              · exact absurd hk h
              · exact .inr (.inr (.inl ⟨hk, h⟩))
              · exact .inr (.inr (.inr (.inl ⟨hk, h⟩)))
            · by_cases hk1 : (nodeAt T n).kind = 1
              · refine .inr (.inr (.inr (.inr ⟨Decidable.byContradiction fun h => h3 ⟨hk1, hp.mpr h⟩, hk⟩)))
              · exact .inl fun h => h.elim hk1 hk
          · rename_i h4
            have hk : (nodeAt T n).kind = 2 := Decidable.byContradiction fun h => h4 (.inl h)
            have hl : (nodeAt T n).kids.l.length = (nodeAt T n).pivots.l.length + 1 := Decidable.byContradiction fun h => h4 (.inr (.inl h))
            have hr : rightP (nodeAt T n).pivots.l r := Decidable.byContradiction fun h => h4 (.inr (.inr h))
            have hk1 : ¬ (nodeAt T n).kind = 1 := by rw [hk]; decide
            have hg : ¬ badAt T n r ab s := by
              rintro (h | h | h | h | h)
              · exact h (.inr hk)
              · exact h2 ((hE n).mpr h)
              · exact h.2 hl
              · exact h.2 hr
              · exact h.2 hk
            rw [if_neg hg, if_neg hk1]
            have hn : 1 ≤ n := by omega
            have := kids_rel (f := bel T k) (g := fun n' r' s' => dfs T k n' r' (ab ++ [n]) s') (p := n) (fun n' r' a' seen' s' hE' => bel_dfs T k n' r' n a' (ab ++ [n]) seen' s' ⟨fun _ => by simp, fun _ => by omega⟩ hE') (nodeAt T n).kids.l (spanAt (nodeAt T n).pivots.l r) (nodeAt T n).kids.l.length 0 _ _ hEa
            have e : spans (nodeAt T n).pivots.l r = (List.range' 0 (nodeAt T n).kids.l.length).map fun i => (i, spanAt (nodeAt T n).pivots.l r i) := by
              unfold spans; rw [if_pos hr, hl, List.range_eq_range']
            rw [e]
            obtain ⟨c1, c2⟩ := this
            refine ⟨c1, fun h => ?_⟩
            obtain ⟨news, d1, d2, d3⟩ := c2 h
            refine ⟨⟨n, r, p, at_⟩ :: news, ?_, ?_, d3⟩
            · rw [d1, List.append_assoc]; rfl
            · rw [List.map_cons, d2]; rfl
theorem all_rel (T : Tr) : Rel [] (allS T) (visits T) := bel_dfs T _ 1 r0 0 0 [] [] ([], 0) ⟨fun h => absurd h (by decide), fun h => absurd rfl h⟩ fun m => Iff.rfl
theorem all_ok (T : Tr) : (allS T).2 = (visits T).2.2 := (all_rel T).1
theorem all_list (T : Tr) (h : (visits T).2.2 = true) : (allS T).1.map pr = (visits T).1.map pv := by
  obtain ⟨news, h1, h2, h3⟩ := (all_rel T).2 h
  rw [h1]; exact h2
end Go.AS.Th

namespace Go.AS.Th
open Go Go.AS Go.Proofs
set_option maxHeartbeats 1000000
set_option maxRecDepth 4000
def cnt (l : List (Sl Ent)) : Nat := (l.map fun b => b.l.length).sum
theorem cnt_snoc (l : List (Sl Ent)) (b : Sl Ent) : cnt (l ++ [b]) = cnt l + b.l.length := by simp [cnt]
theorem cnt_le {l : List (Sl Ent)} {m : Nat} (h : ∀ x ∈ l, x.l.length ≤ m) : cnt l ≤ l.length * m := by
  induction l with
  | nil => simp [cnt]
  | cons a l ih =>
    have h1 := h a (List.mem_cons_self)
    have h2 := ih fun x hx => h x (List.mem_cons_of_mem _ hx)
    have e : cnt (a :: l) = a.l.length + cnt l := by simp [cnt]
    have e2 : (a :: l).length * m = l.length * m + m := by rw [List.length_cons, Nat.add_mul, Nat.one_mul]
    omega
theorem count_gives (nl : Bool) (l : List (Sl Ent)) (hl : l.length ≤ 1000) (h : ∀ x ∈ l, x.l.length ≤ 1000) : Gives F 56 [sl nl l] (.int .i64 (cnt l : Nat)) := by
  refine Gives.of fn_leaf_Count rfl rfl (args' := [sl nl l]) (by simp only [mapO_nil, mapO_c2, consO_some, upf_v]) ?_
  simp only [ir_leaf_Count]
  simp -failIfUnchanged (disch := first | assumption | omega | (refine room_i _ _ ?_ ?_ <;> omega) | (refine @_root_.id _ ?_; with_unfolding_all exact Eq.refl _) | (simp only [List.length_take, List.length_drop, List.length_append, List.length_cons, List.length_nil, List.length_replicate, List.length_map] <;> omega) | fail) only [rnL, opL, ruL, hpL, rsL, natL, outL, Nat.add_sub_cancel_left, Nat.mul_one, List.length_cons, List.length_nil, Nat.zero_add, Nat.add_zero, Nat.reduceAdd, Nat.reduceMul, Nat.reduceSub, Nat.reduceEqDiff, Nat.reduceLT, Nat.reduceLeDiff, litd_t, litd_f, decide_true, decide_false, Bool.not_true, Bool.not_false, not_true_eq_false, not_false_eq_true, true_and, and_true, false_and, and_false, true_or, or_true, false_or, or_false, Int.toNat_natCast, cond_true, cond_false, List.map_cons, List.map_nil, Option.map_some, Option.map_none]
  refine Run_upto l.length (fun i => [(0, sl nl l), (2, AV.int IntKind.i64 0), (3, AV.int IntKind.i64 (cnt (l.take i) : Nat)), (6, sl nl l), (7, AV.int IntKind.i64 l.length), (8, AV.int IntKind.i64 i)]) (fun _ => [[]]) (fun _ => True) rfl rfl trivial ?_
  intro i hi _
  have h1 : cnt (l.take i) ≤ i * 1000 := by
    have := cnt_le (l := l.take i) (m := 1000) fun x hx => h x (List.mem_of_mem_take hx)
    rw [List.length_take, Nat.min_eq_left hi] at this
    exact this
  simp -failIfUnchanged (disch := first | assumption | omega | (refine room_i _ _ ?_ ?_ <;> omega) | (refine @_root_.id _ ?_; with_unfolding_all exact Eq.refl _) | (simp only [List.length_take, List.length_drop, List.length_append, List.length_cons, List.length_nil, List.length_replicate, List.length_map] <;> omega) | fail) only [rnL, opL, ruL, hpL, rsL, natL, outL, Nat.add_sub_cancel_left, Nat.mul_one, List.length_cons, List.length_nil, Nat.zero_add, Nat.add_zero, Nat.reduceAdd, Nat.reduceMul, Nat.reduceSub, Nat.reduceEqDiff, Nat.reduceLT, Nat.reduceLeDiff, litd_t, litd_f, decide_true, decide_false, Bool.not_true, Bool.not_false, not_true_eq_false, not_false_eq_true, true_and, and_true, false_and, and_false, true_or, or_true, false_or, or_false, Int.toNat_natCast, cond_true, cond_false, List.map_cons, List.map_nil, Option.map_some, Option.map_none]
  (first | refine RunB_i (fun h2 => ?_) (fun h2 => ?_) | refine RunG_i (fun h2 => ?_) (fun h2 => ?_) | refine RunB_ib (fun h2 => ?_) (fun h2 => ?_))
  · have hlt : i < l.length := by omega
    have h3 := h l[i] (List.getElem_mem hlt)
    simp -failIfUnchanged (disch := first | assumption | omega | (refine room_i _ _ ?_ ?_ <;> omega) | (refine @_root_.id _ ?_; with_unfolding_all exact Eq.refl _) | (simp only [List.length_take, List.length_drop, List.length_append, List.length_cons, List.length_nil, List.length_replicate, List.length_map] <;> omega) | fail) only [rnL, opL, ruL, hpL, rsL, natL, outL, Nat.add_sub_cancel_left, Nat.mul_one, List.length_cons, List.length_nil, Nat.zero_add, Nat.add_zero, Nat.reduceAdd, Nat.reduceMul, Nat.reduceSub, Nat.reduceEqDiff, Nat.reduceLT, Nat.reduceLeDiff, litd_t, litd_f, decide_true, decide_false, Bool.not_true, Bool.not_false, not_true_eq_false, not_false_eq_true, true_and, and_true, false_and, and_false, true_or, or_true, false_or, or_false, Int.toNat_natCast, cond_true, cond_false, List.map_cons, List.map_nil, Option.map_some, Option.map_none]
    rw [take_snoc l i hlt, cnt_snoc]
    exact .i hlt (by first | exact trivial | rfl) (by first | exact trivial | rfl) trivial
  · have : i = l.length := by omega
    subst this
    simp -failIfUnchanged (disch := first | assumption | omega | (refine room_i _ _ ?_ ?_ <;> omega) | (refine @_root_.id _ ?_; with_unfolding_all exact Eq.refl _) | (simp only [List.length_take, List.length_drop, List.length_append, List.length_cons, List.length_nil, List.length_replicate, List.length_map] <;> omega) | fail) only [rnL, opL, ruL, hpL, rsL, natL, outL, Nat.add_sub_cancel_left, Nat.mul_one, List.length_cons, List.length_nil, Nat.zero_add, Nat.add_zero, Nat.reduceAdd, Nat.reduceMul, Nat.reduceSub, Nat.reduceEqDiff, Nat.reduceLT, Nat.reduceLeDiff, litd_t, litd_f, decide_true, decide_false, Bool.not_true, Bool.not_false, not_true_eq_false, not_false_eq_true, true_and, and_true, false_and, and_false, true_or, or_true, false_or, or_false, Int.toNat_natCast, cond_true, cond_false, List.map_cons, List.map_nil, Option.map_some, Option.map_none]
    (refine Fin_g (.inr rfl) (by simp -failIfUnchanged (disch := first | assumption | omega | (refine room_i _ _ ?_ ?_ <;> omega) | (refine @_root_.id _ ?_; with_unfolding_all exact Eq.refl _) | (simp only [List.length_take, List.length_drop, List.length_append, List.length_cons, List.length_nil, List.length_replicate, List.length_map] <;> omega) | fail) only [rnL, opL, ruL, hpL, rsL, natL, outL, Nat.add_sub_cancel_left, Nat.mul_one, List.length_cons, List.length_nil, Nat.zero_add, Nat.add_zero, Nat.reduceAdd, Nat.reduceMul, Nat.reduceSub, Nat.reduceEqDiff, Nat.reduceLT, Nat.reduceLeDiff, litd_t, litd_f, decide_true, decide_false, Bool.not_true, Bool.not_false, not_true_eq_false, not_false_eq_true, true_and, and_true, false_and, and_false, true_or, or_true, false_or, or_false, Int.toNat_natCast, cond_true, cond_false, List.map_cons, List.map_nil, Option.map_some, Option.map_none]; rfl) ?_; simp -failIfUnchanged (disch := first | assumption | omega | (refine room_i _ _ ?_ ?_ <;> omega) | (refine @_root_.id _ ?_; with_unfolding_all exact Eq.refl _) | (simp only [List.length_take, List.length_drop, List.length_append, List.length_cons, List.length_nil, List.length_replicate, List.length_map] <;> omega) | fail) only [rnL, opL, ruL, hpL, rsL, natL, outL, Nat.add_sub_cancel_left, Nat.mul_one, List.length_cons, List.length_nil, Nat.zero_add, Nat.add_zero, Nat.reduceAdd, Nat.reduceMul, Nat.reduceSub, Nat.reduceEqDiff, Nat.reduceLT, Nat.reduceLeDiff, litd_t, litd_f, decide_true, decide_false, Bool.not_true, Bool.not_false, not_true_eq_false, not_false_eq_true, true_and, and_true, false_and, and_false, true_or, or_true, false_or, or_false, Int.toNat_natCast, cond_true, cond_false, List.map_cons, List.map_nil, Option.map_some, Option.map_none])
    rw [List.take_length]
/-- All entries of blocks. -/
def ents (l : List (Sl Ent)) : List Ent := (l.map fun b => b.l).flatten
theorem ents_snoc (l : List (Sl Ent)) (b : Sl Ent) : ents (l ++ [b]) = ents l ++ b.l := by simp [ents]
theorem ents_len (l : List (Sl Ent)) : (ents l).length = cnt l := by simp [ents, cnt, List.length_flatten, Function.comp_def]
theorem Fin_bv {α : Type} [Cel α] {t n : Nat} {l : List α} {x : IX} {e : Env} {H : Heap} (hx : x = .normal ∨ x = .ret) (he : Env.get e t = bv n false l) (hn : n = H.length) : Fin [.tmp t] (sl false l) x e [bh H l] := by
  refine Fin_g hx (vs := [bv n false l]) ?_ ?_
  · simp only [mapO, resultA_tmp, he, tmpV_bv]
  · show leave _ (bv n false l) = _
    rw [leave_bv' hn, Bool.false_and]
theorem entries_gives (nl : Bool) (l : List (Sl Ent)) (hl : l.length ≤ 1000) (h : ∀ x ∈ l, x.l.length ≤ 1000) : Gives F 53 [sl nl l] (sl false (ents l)) := by
  refine Gives.of fn_r11_Entries rfl rfl (args' := [sl nl l]) (by simp only [mapO_nil, mapO_c2, consO_some, upf_v]) ?_
  simp only [ir_r11_Entries]
  simp -failIfUnchanged (disch := first | assumption | omega | (refine room_i _ _ ?_ ?_ <;> omega) | (refine @_root_.id _ ?_; with_unfolding_all exact Eq.refl _) | (simp only [List.length_take, List.length_drop, List.length_append, List.length_cons, List.length_nil, List.length_replicate, List.length_map] <;> omega) | fail) only [rnL, opL, ruL, hpL, rsL, natL, outL, Nat.add_sub_cancel_left, Nat.mul_one, List.length_cons, List.length_nil, Nat.zero_add, Nat.add_zero, Nat.reduceAdd, Nat.reduceMul, Nat.reduceSub, Nat.reduceEqDiff, Nat.reduceLT, Nat.reduceLeDiff, litd_t, litd_f, decide_true, decide_false, Bool.not_true, Bool.not_false, not_true_eq_false, not_false_eq_true, true_and, and_true, false_and, and_false, true_or, or_true, false_or, or_false, Int.toNat_natCast, cond_true, cond_false, List.map_cons, List.map_nil, Option.map_some, Option.map_none]
  refine Run_upto l.length (fun i => [(0, sl nl l), (2, .imm true 0 0 (some 0) []), (3, bv 0 false (ents (l.take i))), (4, AV.int IntKind.i64 i)]) (fun i => [bh [] (ents (l.take i))]) (fun _ => True) rfl rfl trivial ?_
  intro i hi _
  have h1 : cnt (l.take i) ≤ i * 1000 := by
    have := cnt_le (l := l.take i) (m := 1000) fun x hx => h x (List.mem_of_mem_take hx)
    rw [List.length_take, Nat.min_eq_left hi] at this
    exact this
  have h0 := ents_len (l.take i)
  simp -failIfUnchanged (disch := first | assumption | omega | (refine room_i _ _ ?_ ?_ <;> omega) | (refine @_root_.id _ ?_; with_unfolding_all exact Eq.refl _) | (simp only [List.length_take, List.length_drop, List.length_append, List.length_cons, List.length_nil, List.length_replicate, List.length_map] <;> omega) | fail) only [rnL, opL, ruL, hpL, rsL, natL, outL, Nat.add_sub_cancel_left, Nat.mul_one, List.length_cons, List.length_nil, Nat.zero_add, Nat.add_zero, Nat.reduceAdd, Nat.reduceMul, Nat.reduceSub, Nat.reduceEqDiff, Nat.reduceLT, Nat.reduceLeDiff, litd_t, litd_f, decide_true, decide_false, Bool.not_true, Bool.not_false, not_true_eq_false, not_false_eq_true, true_and, and_true, false_and, and_false, true_or, or_true, false_or, or_false, Int.toNat_natCast, cond_true, cond_false, List.map_cons, List.map_nil, Option.map_some, Option.map_none]
  (first | refine RunB_i (fun h2 => ?_) (fun h2 => ?_) | refine RunG_i (fun h2 => ?_) (fun h2 => ?_) | refine RunB_ib (fun h2 => ?_) (fun h2 => ?_))
  · have hlt : i < l.length := by omega
    have h3 := h l[i] (List.getElem_mem hlt)
    simp -failIfUnchanged (disch := first | assumption | omega | (refine room_i _ _ ?_ ?_ <;> omega) | (refine @_root_.id _ ?_; with_unfolding_all exact Eq.refl _) | (simp only [List.length_take, List.length_drop, List.length_append, List.length_cons, List.length_nil, List.length_replicate, List.length_map] <;> omega) | fail) only [rnL, opL, ruL, hpL, rsL, natL, outL, Nat.add_sub_cancel_left, Nat.mul_one, List.length_cons, List.length_nil, Nat.zero_add, Nat.add_zero, Nat.reduceAdd, Nat.reduceMul, Nat.reduceSub, Nat.reduceEqDiff, Nat.reduceLT, Nat.reduceLeDiff, litd_t, litd_f, decide_true, decide_false, Bool.not_true, Bool.not_false, not_true_eq_false, not_false_eq_true, true_and, and_true, false_and, and_false, true_or, or_true, false_or, or_false, Int.toNat_natCast, cond_true, cond_false, List.map_cons, List.map_nil, Option.map_some, Option.map_none]
    rw [take_snoc l i hlt, ents_snoc]
    exact .i hlt (by first | exact trivial | rfl) (by first | exact trivial | rfl) trivial
  · have : i = l.length := by omega
    subst this
    simp -failIfUnchanged (disch := first | assumption | omega | (refine room_i _ _ ?_ ?_ <;> omega) | (refine @_root_.id _ ?_; with_unfolding_all exact Eq.refl _) | (simp only [List.length_take, List.length_drop, List.length_append, List.length_cons, List.length_nil, List.length_replicate, List.length_map] <;> omega) | fail) only [rnL, opL, ruL, hpL, rsL, natL, outL, Nat.add_sub_cancel_left, Nat.mul_one, List.length_cons, List.length_nil, Nat.zero_add, Nat.add_zero, Nat.reduceAdd, Nat.reduceMul, Nat.reduceSub, Nat.reduceEqDiff, Nat.reduceLT, Nat.reduceLeDiff, litd_t, litd_f, decide_true, decide_false, Bool.not_true, Bool.not_false, not_true_eq_false, not_false_eq_true, true_and, and_true, false_and, and_false, true_or, or_true, false_or, or_false, Int.toNat_natCast, cond_true, cond_false, List.map_cons, List.map_nil, Option.map_some, Option.map_none]
    rw [List.take_length]
    exact Fin_bv (.inr rfl) rfl rfl
end Go.AS.Th

namespace Go.AS.Th
open Go Go.AS Go.Proofs
set_option maxHeartbeats 1000000
set_option maxRecDepth 4000
def nok (d : Nd) : Prop := d.kids.l.length ≤ 20 ∧ d.pivots.l.length ≤ 20 ∧ d.msgs.l.length ≤ 40 ∧ d.blocks.l.length ≤ 20 ∧ ∀ b ∈ d.blocks.l, b.l.length ≤ 20
instance (d : Nd) : Decidable (nok d) := by unfold nok; infer_instance
def tot (l : List Nd) : Nat := (l.map fun d => d.msgs.l.length + cnt d.blocks.l).sum
theorem tot_snoc (l : List Nd) (d : Nd) : tot (l ++ [d]) = tot l + (d.msgs.l.length + cnt d.blocks.l) := by simp [tot]
def small (T : Tr) : Prop := T.nodes.l.length ≤ 40 ∧ (∀ d ∈ T.nodes.l, nok d) ∧ tot T.nodes.l ≤ 200
instance (T : Tr) : Decidable (small T) := by unfold small; infer_instance
def gn (T : Tr) (i : Nat) : Heap := (T.nodes.l.take i).map fun d => .cells (Cel.enc d)
theorem hsetG1 (a : AObj) (G L : Heap) (k : Nat) (x : AObj) : hset (a :: (G ++ L)) (G.length + (k + 1)) x = a :: (G ++ hset L k x) := by
  have e : G.length + (k + 1) = (G.length + k) + 1 := by omega
  rw [e]
  show a :: hset (G ++ L) (G.length + k) x = _
  clear e
  have : hset (G ++ L) (G.length + k) x = G ++ hset L k x := by
    induction G with
    | nil => simp
    | cons y G ih =>
      have e : (y :: G).length + k = (G.length + k) + 1 := by simp; omega
      rw [e]
      show y :: hset (G ++ L) (G.length + k) x = _
      rw [ih]; rfl
  rw [this]
theorem small_is (T : Tr) : CallIs F 31 [.agg (Cel.enc T)] (.bool (decide (small T))) := by
  refine Gives.is ?_
  refine Gives.of fn_r15_Small rfl rfl (args' := [.agg (Cel.enc T)]) (by simp only [mapO_nil, mapO_c2, consO_some, upf_v]) ?_
  simp only [ir_r15_Small]
  simp -failIfUnchanged (disch := first | assumption | omega | (refine room_i _ _ ?_ ?_ <;> omega) | (refine @_root_.id _ ?_; with_unfolding_all exact Eq.refl _) | (simp only [List.length_take, List.length_drop, List.length_append, List.length_cons, List.length_nil, List.length_replicate, List.length_map] <;> omega) | fail) only [rnL, opL, ruL, hpL, rsL, natL, outL, Nat.add_sub_cancel_left, Nat.mul_one, List.length_cons, List.length_nil, Nat.zero_add, Nat.add_zero, Nat.reduceAdd, Nat.reduceMul, Nat.reduceSub, Nat.reduceEqDiff, Nat.reduceLT, Nat.reduceLeDiff, litd_t, litd_f, decide_true, decide_false, Bool.not_true, Bool.not_false, not_true_eq_false, not_false_eq_true, true_and, and_true, false_and, and_false, true_or, or_true, false_or, or_false, Int.toNat_natCast, cond_true, cond_false, List.map_cons, List.map_nil, Option.map_some, Option.map_none, datL]
  (first | refine RunB_i (fun h1 => ?_) (fun h1 => ?_) | refine RunG_i (fun h1 => ?_) (fun h1 => ?_) | refine RunB_ib (fun h1 => ?_) (fun h1 => ?_))
  · simp -failIfUnchanged (disch := first | assumption | omega | (refine room_i _ _ ?_ ?_ <;> omega) | (refine @_root_.id _ ?_; with_unfolding_all exact Eq.refl _) | (simp only [List.length_take, List.length_drop, List.length_append, List.length_cons, List.length_nil, List.length_replicate, List.length_map] <;> omega) | fail) only [rnL, opL, ruL, hpL, rsL, natL, outL, Nat.add_sub_cancel_left, Nat.mul_one, List.length_cons, List.length_nil, Nat.zero_add, Nat.add_zero, Nat.reduceAdd, Nat.reduceMul, Nat.reduceSub, Nat.reduceEqDiff, Nat.reduceLT, Nat.reduceLeDiff, litd_t, litd_f, decide_true, decide_false, Bool.not_true, Bool.not_false, not_true_eq_false, not_false_eq_true, true_and, and_true, false_and, and_false, true_or, or_true, false_or, or_false, Int.toNat_natCast, cond_true, cond_false, List.map_cons, List.map_nil, Option.map_some, Option.map_none]
    (refine Fin_g (.inr rfl) (by simp -failIfUnchanged (disch := first | assumption | omega | (refine room_i _ _ ?_ ?_ <;> omega) | (refine @_root_.id _ ?_; with_unfolding_all exact Eq.refl _) | (simp only [List.length_take, List.length_drop, List.length_append, List.length_cons, List.length_nil, List.length_replicate, List.length_map] <;> omega) | fail) only [rnL, opL, ruL, hpL, rsL, natL, outL, Nat.add_sub_cancel_left, Nat.mul_one, List.length_cons, List.length_nil, Nat.zero_add, Nat.add_zero, Nat.reduceAdd, Nat.reduceMul, Nat.reduceSub, Nat.reduceEqDiff, Nat.reduceLT, Nat.reduceLeDiff, litd_t, litd_f, decide_true, decide_false, Bool.not_true, Bool.not_false, not_true_eq_false, not_false_eq_true, true_and, and_true, false_and, and_false, true_or, or_true, false_or, or_false, Int.toNat_natCast, cond_true, cond_false, List.map_cons, List.map_nil, Option.map_some, Option.map_none]; rfl) ?_; simp -failIfUnchanged (disch := first | assumption | omega | (refine room_i _ _ ?_ ?_ <;> omega) | (refine @_root_.id _ ?_; with_unfolding_all exact Eq.refl _) | (simp only [List.length_take, List.length_drop, List.length_append, List.length_cons, List.length_nil, List.length_replicate, List.length_map] <;> omega) | fail) only [rnL, opL, ruL, hpL, rsL, natL, outL, Nat.add_sub_cancel_left, Nat.mul_one, List.length_cons, List.length_nil, Nat.zero_add, Nat.add_zero, Nat.reduceAdd, Nat.reduceMul, Nat.reduceSub, Nat.reduceEqDiff, Nat.reduceLT, Nat.reduceLeDiff, litd_t, litd_f, decide_true, decide_false, Bool.not_true, Bool.not_false, not_true_eq_false, not_false_eq_true, true_and, and_true, false_and, and_false, true_or, or_true, false_or, or_false, Int.toNat_natCast, cond_true, cond_false, List.map_cons, List.map_nil, Option.map_some, Option.map_none])
    rw [decide_eq_false]
    exact fun hf => by have := hf.1; omega
  · simp -failIfUnchanged (disch := first | assumption | omega | (refine room_i _ _ ?_ ?_ <;> omega) | (refine @_root_.id _ ?_; with_unfolding_all exact Eq.refl _) | (simp only [List.length_take, List.length_drop, List.length_append, List.length_cons, List.length_nil, List.length_replicate, List.length_map] <;> omega) | fail) only [rnL, opL, ruL, hpL, rsL, natL, outL, Nat.add_sub_cancel_left, Nat.mul_one, List.length_cons, List.length_nil, Nat.zero_add, Nat.add_zero, Nat.reduceAdd, Nat.reduceMul, Nat.reduceSub, Nat.reduceEqDiff, Nat.reduceLT, Nat.reduceLeDiff, litd_t, litd_f, decide_true, decide_false, Bool.not_true, Bool.not_false, not_true_eq_false, not_false_eq_true, true_and, and_true, false_and, and_false, true_or, or_true, false_or, or_false, Int.toNat_natCast, cond_true, cond_false, List.map_cons, List.map_nil, Option.map_some, Option.map_none]
    refine Run_upto T.nodes.l.length (fun i => [(0, .agg (Cel.enc T)), (1, .ptr 0 1 0), (2, .bool false), (3, AV.int IntKind.i64 (tot (T.nodes.l.take i) : Nat)), (4, AV.int IntKind.i64 (i : Nat)), (10, .bool false)]) (fun i => [.cells (Cel.enc T) :: gn T i]) (fun i => (∀ j (hj : j < T.nodes.l.length), j < i → nok T.nodes.l[j]) ∧ tot (T.nodes.l.take i) ≤ i * 1000) rfl rfl ⟨fun j _ hj => by omega, by simp [tot]⟩ ?_
    intro i hi hP
    obtain ⟨hP, hQ⟩ := hP
    simp -failIfUnchanged (disch := first | assumption | omega | (refine room_i _ _ ?_ ?_ <;> omega) | (refine @_root_.id _ ?_; with_unfolding_all exact Eq.refl _) | (simp only [List.length_take, List.length_drop, List.length_append, List.length_cons, List.length_nil, List.length_replicate, List.length_map] <;> omega) | fail) only [rnL, opL, ruL, hpL, rsL, natL, outL, Nat.add_sub_cancel_left, Nat.mul_one, List.length_cons, List.length_nil, Nat.zero_add, Nat.add_zero, Nat.reduceAdd, Nat.reduceMul, Nat.reduceSub, Nat.reduceEqDiff, Nat.reduceLT, Nat.reduceLeDiff, litd_t, litd_f, decide_true, decide_false, Bool.not_true, Bool.not_false, not_true_eq_false, not_false_eq_true, true_and, and_true, false_and, and_false, true_or, or_true, false_or, or_false, Int.toNat_natCast, cond_true, cond_false, List.map_cons, List.map_nil, Option.map_some, Option.map_none, datL]
    (first | refine RunB_i (fun h2 => ?_) (fun h2 => ?_) | refine RunG_i (fun h2 => ?_) (fun h2 => ?_) | refine RunB_ib (fun h2 => ?_) (fun h2 => ?_))
    · have hlt : i < T.nodes.l.length := by omega
      simp -failIfUnchanged (disch := first | assumption | omega | (refine room_i _ _ ?_ ?_ <;> omega) | (refine @_root_.id _ ?_; with_unfolding_all exact Eq.refl _) | (simp only [List.length_take, List.length_drop, List.length_append, List.length_cons, List.length_nil, List.length_replicate, List.length_map] <;> omega) | fail) only [rnL, opL, ruL, hpL, rsL, natL, outL, Nat.add_sub_cancel_left, Nat.mul_one, List.length_cons, List.length_nil, Nat.zero_add, Nat.add_zero, Nat.reduceAdd, Nat.reduceMul, Nat.reduceSub, Nat.reduceEqDiff, Nat.reduceLT, Nat.reduceLeDiff, litd_t, litd_f, decide_true, decide_false, Bool.not_true, Bool.not_false, not_true_eq_false, not_false_eq_true, true_and, and_true, false_and, and_false, true_or, or_true, false_or, or_false, Int.toNat_natCast, cond_true, cond_false, List.map_cons, List.map_nil, Option.map_some, Option.map_none, datL, lo1, lo3, lo5, lo6, hatG1, hsetG1, Nat.add_assoc, splice5]
      (first | refine RunB_i (fun h3 => ?_) (fun h3 => ?_) | refine RunG_i (fun h3 => ?_) (fun h3 => ?_) | refine RunB_ib (fun h3 => ?_) (fun h3 => ?_))
      · simp -failIfUnchanged (disch := first | assumption | omega | (refine room_i _ _ ?_ ?_ <;> omega) | (refine @_root_.id _ ?_; with_unfolding_all exact Eq.refl _) | (simp only [List.length_take, List.length_drop, List.length_append, List.length_cons, List.length_nil, List.length_replicate, List.length_map] <;> omega) | fail) only [rnL, opL, ruL, hpL, rsL, natL, outL, Nat.add_sub_cancel_left, Nat.mul_one, List.length_cons, List.length_nil, Nat.zero_add, Nat.add_zero, Nat.reduceAdd, Nat.reduceMul, Nat.reduceSub, Nat.reduceEqDiff, Nat.reduceLT, Nat.reduceLeDiff, litd_t, litd_f, decide_true, decide_false, Bool.not_true, Bool.not_false, not_true_eq_false, not_false_eq_true, true_and, and_true, false_and, and_false, true_or, or_true, false_or, or_false, Int.toNat_natCast, cond_true, cond_false, List.map_cons, List.map_nil, Option.map_some, Option.map_none, datL, hatG1]
        (refine Fin_g (.inr rfl) (by simp -failIfUnchanged (disch := first | assumption | omega | (refine room_i _ _ ?_ ?_ <;> omega) | (refine @_root_.id _ ?_; with_unfolding_all exact Eq.refl _) | (simp only [List.length_take, List.length_drop, List.length_append, List.length_cons, List.length_nil, List.length_replicate, List.length_map] <;> omega) | fail) only [rnL, opL, ruL, hpL, rsL, natL, outL, Nat.add_sub_cancel_left, Nat.mul_one, List.length_cons, List.length_nil, Nat.zero_add, Nat.add_zero, Nat.reduceAdd, Nat.reduceMul, Nat.reduceSub, Nat.reduceEqDiff, Nat.reduceLT, Nat.reduceLeDiff, litd_t, litd_f, decide_true, decide_false, Bool.not_true, Bool.not_false, not_true_eq_false, not_false_eq_true, true_and, and_true, false_and, and_false, true_or, or_true, false_or, or_false, Int.toNat_natCast, cond_true, cond_false, List.map_cons, List.map_nil, Option.map_some, Option.map_none]; rfl) ?_; simp -failIfUnchanged (disch := first | assumption | omega | (refine room_i _ _ ?_ ?_ <;> omega) | (refine @_root_.id _ ?_; with_unfolding_all exact Eq.refl _) | (simp only [List.length_take, List.length_drop, List.length_append, List.length_cons, List.length_nil, List.length_replicate, List.length_map] <;> omega) | fail) only [rnL, opL, ruL, hpL, rsL, natL, outL, Nat.add_sub_cancel_left, Nat.mul_one, List.length_cons, List.length_nil, Nat.zero_add, Nat.add_zero, Nat.reduceAdd, Nat.reduceMul, Nat.reduceSub, Nat.reduceEqDiff, Nat.reduceLT, Nat.reduceLeDiff, litd_t, litd_f, decide_true, decide_false, Bool.not_true, Bool.not_false, not_true_eq_false, not_false_eq_true, true_and, and_true, false_and, and_false, true_or, or_true, false_or, or_false, Int.toNat_natCast, cond_true, cond_false, List.map_cons, List.map_nil, Option.map_some, Option.map_none])
        rw [decide_eq_false]
        exact fun hf => by have := (hf.2.1 _ (List.getElem_mem hlt)).1; omega
      · simp -failIfUnchanged (disch := first | assumption | omega | (refine room_i _ _ ?_ ?_ <;> omega) | (refine @_root_.id _ ?_; with_unfolding_all exact Eq.refl _) | (simp only [List.length_take, List.length_drop, List.length_append, List.length_cons, List.length_nil, List.length_replicate, List.length_map] <;> omega) | fail) only [rnL, opL, ruL, hpL, rsL, natL, outL, Nat.add_sub_cancel_left, Nat.mul_one, List.length_cons, List.length_nil, Nat.zero_add, Nat.add_zero, Nat.reduceAdd, Nat.reduceMul, Nat.reduceSub, Nat.reduceEqDiff, Nat.reduceLT, Nat.reduceLeDiff, litd_t, litd_f, decide_true, decide_false, Bool.not_true, Bool.not_false, not_true_eq_false, not_false_eq_true, true_and, and_true, false_and, and_false, true_or, or_true, false_or, or_false, Int.toNat_natCast, cond_true, cond_false, List.map_cons, List.map_nil, Option.map_some, Option.map_none, datL, hatG1]
        (first | refine RunB_i (fun h4 => ?_) (fun h4 => ?_) | refine RunG_i (fun h4 => ?_) (fun h4 => ?_) | refine RunB_ib (fun h4 => ?_) (fun h4 => ?_))
        · simp -failIfUnchanged (disch := first | assumption | omega | (refine room_i _ _ ?_ ?_ <;> omega) | (refine @_root_.id _ ?_; with_unfolding_all exact Eq.refl _) | (simp only [List.length_take, List.length_drop, List.length_append, List.length_cons, List.length_nil, List.length_replicate, List.length_map] <;> omega) | fail) only [rnL, opL, ruL, hpL, rsL, natL, outL, Nat.add_sub_cancel_left, Nat.mul_one, List.length_cons, List.length_nil, Nat.zero_add, Nat.add_zero, Nat.reduceAdd, Nat.reduceMul, Nat.reduceSub, Nat.reduceEqDiff, Nat.reduceLT, Nat.reduceLeDiff, litd_t, litd_f, decide_true, decide_false, Bool.not_true, Bool.not_false, not_true_eq_false, not_false_eq_true, true_and, and_true, false_and, and_false, true_or, or_true, false_or, or_false, Int.toNat_natCast, cond_true, cond_false, List.map_cons, List.map_nil, Option.map_some, Option.map_none, datL, hatG1]
          (refine Fin_g (.inr rfl) (by simp -failIfUnchanged (disch := first | assumption | omega | (refine room_i _ _ ?_ ?_ <;> omega) | (refine @_root_.id _ ?_; with_unfolding_all exact Eq.refl _) | (simp only [List.length_take, List.length_drop, List.length_append, List.length_cons, List.length_nil, List.length_replicate, List.length_map] <;> omega) | fail) only [rnL, opL, ruL, hpL, rsL, natL, outL, Nat.add_sub_cancel_left, Nat.mul_one, List.length_cons, List.length_nil, Nat.zero_add, Nat.add_zero, Nat.reduceAdd, Nat.reduceMul, Nat.reduceSub, Nat.reduceEqDiff, Nat.reduceLT, Nat.reduceLeDiff, litd_t, litd_f, decide_true, decide_false, Bool.not_true, Bool.not_false, not_true_eq_false, not_false_eq_true, true_and, and_true, false_and, and_false, true_or, or_true, false_or, or_false, Int.toNat_natCast, cond_true, cond_false, List.map_cons, List.map_nil, Option.map_some, Option.map_none]; rfl) ?_; simp -failIfUnchanged (disch := first | assumption | omega | (refine room_i _ _ ?_ ?_ <;> omega) | (refine @_root_.id _ ?_; with_unfolding_all exact Eq.refl _) | (simp only [List.length_take, List.length_drop, List.length_append, List.length_cons, List.length_nil, List.length_replicate, List.length_map] <;> omega) | fail) only [rnL, opL, ruL, hpL, rsL, natL, outL, Nat.add_sub_cancel_left, Nat.mul_one, List.length_cons, List.length_nil, Nat.zero_add, Nat.add_zero, Nat.reduceAdd, Nat.reduceMul, Nat.reduceSub, Nat.reduceEqDiff, Nat.reduceLT, Nat.reduceLeDiff, litd_t, litd_f, decide_true, decide_false, Bool.not_true, Bool.not_false, not_true_eq_false, not_false_eq_true, true_and, and_true, false_and, and_false, true_or, or_true, false_or, or_false, Int.toNat_natCast, cond_true, cond_false, List.map_cons, List.map_nil, Option.map_some, Option.map_none])
          rw [decide_eq_false]
          exact fun hf => by have := (hf.2.1 _ (List.getElem_mem hlt)).2.1; omega
        · simp -failIfUnchanged (disch := first | assumption | omega | (refine room_i _ _ ?_ ?_ <;> omega) | (refine @_root_.id _ ?_; with_unfolding_all exact Eq.refl _) | (simp only [List.length_take, List.length_drop, List.length_append, List.length_cons, List.length_nil, List.length_replicate, List.length_map] <;> omega) | fail) only [rnL, opL, ruL, hpL, rsL, natL, outL, Nat.add_sub_cancel_left, Nat.mul_one, List.length_cons, List.length_nil, Nat.zero_add, Nat.add_zero, Nat.reduceAdd, Nat.reduceMul, Nat.reduceSub, Nat.reduceEqDiff, Nat.reduceLT, Nat.reduceLeDiff, litd_t, litd_f, decide_true, decide_false, Bool.not_true, Bool.not_false, not_true_eq_false, not_false_eq_true, true_and, and_true, false_and, and_false, true_or, or_true, false_or, or_false, Int.toNat_natCast, cond_true, cond_false, List.map_cons, List.map_nil, Option.map_some, Option.map_none, datL, hatG1]
          (first | refine RunB_i (fun h5 => ?_) (fun h5 => ?_) | refine RunG_i (fun h5 => ?_) (fun h5 => ?_) | refine RunB_ib (fun h5 => ?_) (fun h5 => ?_))
          · simp -failIfUnchanged (disch := first | assumption | omega | (refine room_i _ _ ?_ ?_ <;> omega) | (refine @_root_.id _ ?_; with_unfolding_all exact Eq.refl _) | (simp only [List.length_take, List.length_drop, List.length_append, List.length_cons, List.length_nil, List.length_replicate, List.length_map] <;> omega) | fail) only [rnL, opL, ruL, hpL, rsL, natL, outL, Nat.add_sub_cancel_left, Nat.mul_one, List.length_cons, List.length_nil, Nat.zero_add, Nat.add_zero, Nat.reduceAdd, Nat.reduceMul, Nat.reduceSub, Nat.reduceEqDiff, Nat.reduceLT, Nat.reduceLeDiff, litd_t, litd_f, decide_true, decide_false, Bool.not_true, Bool.not_false, not_true_eq_false, not_false_eq_true, true_and, and_true, false_and, and_false, true_or, or_true, false_or, or_false, Int.toNat_natCast, cond_true, cond_false, List.map_cons, List.map_nil, Option.map_some, Option.map_none, datL, hatG1]
            (refine Fin_g (.inr rfl) (by simp -failIfUnchanged (disch := first | assumption | omega | (refine room_i _ _ ?_ ?_ <;> omega) | (refine @_root_.id _ ?_; with_unfolding_all exact Eq.refl _) | (simp only [List.length_take, List.length_drop, List.length_append, List.length_cons, List.length_nil, List.length_replicate, List.length_map] <;> omega) | fail) only [rnL, opL, ruL, hpL, rsL, natL, outL, Nat.add_sub_cancel_left, Nat.mul_one, List.length_cons, List.length_nil, Nat.zero_add, Nat.add_zero, Nat.reduceAdd, Nat.reduceMul, Nat.reduceSub, Nat.reduceEqDiff, Nat.reduceLT, Nat.reduceLeDiff, litd_t, litd_f, decide_true, decide_false, Bool.not_true, Bool.not_false, not_true_eq_false, not_false_eq_true, true_and, and_true, false_and, and_false, true_or, or_true, false_or, or_false, Int.toNat_natCast, cond_true, cond_false, List.map_cons, List.map_nil, Option.map_some, Option.map_none]; rfl) ?_; simp -failIfUnchanged (disch := first | assumption | omega | (refine room_i _ _ ?_ ?_ <;> omega) | (refine @_root_.id _ ?_; with_unfolding_all exact Eq.refl _) | (simp only [List.length_take, List.length_drop, List.length_append, List.length_cons, List.length_nil, List.length_replicate, List.length_map] <;> omega) | fail) only [rnL, opL, ruL, hpL, rsL, natL, outL, Nat.add_sub_cancel_left, Nat.mul_one, List.length_cons, List.length_nil, Nat.zero_add, Nat.add_zero, Nat.reduceAdd, Nat.reduceMul, Nat.reduceSub, Nat.reduceEqDiff, Nat.reduceLT, Nat.reduceLeDiff, litd_t, litd_f, decide_true, decide_false, Bool.not_true, Bool.not_false, not_true_eq_false, not_false_eq_true, true_and, and_true, false_and, and_false, true_or, or_true, false_or, or_false, Int.toNat_natCast, cond_true, cond_false, List.map_cons, List.map_nil, Option.map_some, Option.map_none])
            rw [decide_eq_false]
            exact fun hf => by have := (hf.2.1 _ (List.getElem_mem hlt)).2.2.1; omega
          · simp -failIfUnchanged (disch := first | assumption | omega | (refine room_i _ _ ?_ ?_ <;> omega) | (refine @_root_.id _ ?_; with_unfolding_all exact Eq.refl _) | (simp only [List.length_take, List.length_drop, List.length_append, List.length_cons, List.length_nil, List.length_replicate, List.length_map] <;> omega) | fail) only [rnL, opL, ruL, hpL, rsL, natL, outL, Nat.add_sub_cancel_left, Nat.mul_one, List.length_cons, List.length_nil, Nat.zero_add, Nat.add_zero, Nat.reduceAdd, Nat.reduceMul, Nat.reduceSub, Nat.reduceEqDiff, Nat.reduceLT, Nat.reduceLeDiff, litd_t, litd_f, decide_true, decide_false, Bool.not_true, Bool.not_false, not_true_eq_false, not_false_eq_true, true_and, and_true, false_and, and_false, true_or, or_true, false_or, or_false, Int.toNat_natCast, cond_true, cond_false, List.map_cons, List.map_nil, Option.map_some, Option.map_none, datL, hatG1]
            (first | refine RunB_i (fun h6 => ?_) (fun h6 => ?_) | refine RunG_i (fun h6 => ?_) (fun h6 => ?_) | refine RunB_ib (fun h6 => ?_) (fun h6 => ?_))
            · simp -failIfUnchanged (disch := first | assumption | omega | (refine room_i _ _ ?_ ?_ <;> omega) | (refine @_root_.id _ ?_; with_unfolding_all exact Eq.refl _) | (simp only [List.length_take, List.length_drop, List.length_append, List.length_cons, List.length_nil, List.length_replicate, List.length_map] <;> omega) | fail) only [rnL, opL, ruL, hpL, rsL, natL, outL, Nat.add_sub_cancel_left, Nat.mul_one, List.length_cons, List.length_nil, Nat.zero_add, Nat.add_zero, Nat.reduceAdd, Nat.reduceMul, Nat.reduceSub, Nat.reduceEqDiff, Nat.reduceLT, Nat.reduceLeDiff, litd_t, litd_f, decide_true, decide_false, Bool.not_true, Bool.not_false, not_true_eq_false, not_false_eq_true, true_and, and_true, false_and, and_false, true_or, or_true, false_or, or_false, Int.toNat_natCast, cond_true, cond_false, List.map_cons, List.map_nil, Option.map_some, Option.map_none, datL, hatG1]
              (refine Fin_g (.inr rfl) (by simp -failIfUnchanged (disch := first | assumption | omega | (refine room_i _ _ ?_ ?_ <;> omega) | (refine @_root_.id _ ?_; with_unfolding_all exact Eq.refl _) | (simp only [List.length_take, List.length_drop, List.length_append, List.length_cons, List.length_nil, List.length_replicate, List.length_map] <;> omega) | fail) only [rnL, opL, ruL, hpL, rsL, natL, outL, Nat.add_sub_cancel_left, Nat.mul_one, List.length_cons, List.length_nil, Nat.zero_add, Nat.add_zero, Nat.reduceAdd, Nat.reduceMul, Nat.reduceSub, Nat.reduceEqDiff, Nat.reduceLT, Nat.reduceLeDiff, litd_t, litd_f, decide_true, decide_false, Bool.not_true, Bool.not_false, not_true_eq_false, not_false_eq_true, true_and, and_true, false_and, and_false, true_or, or_true, false_or, or_false, Int.toNat_natCast, cond_true, cond_false, List.map_cons, List.map_nil, Option.map_some, Option.map_none]; rfl) ?_; simp -failIfUnchanged (disch := first | assumption | omega | (refine room_i _ _ ?_ ?_ <;> omega) | (refine @_root_.id _ ?_; with_unfolding_all exact Eq.refl _) | (simp only [List.length_take, List.length_drop, List.length_append, List.length_cons, List.length_nil, List.length_replicate, List.length_map] <;> omega) | fail) only [rnL, opL, ruL, hpL, rsL, natL, outL, Nat.add_sub_cancel_left, Nat.mul_one, List.length_cons, List.length_nil, Nat.zero_add, Nat.add_zero, Nat.reduceAdd, Nat.reduceMul, Nat.reduceSub, Nat.reduceEqDiff, Nat.reduceLT, Nat.reduceLeDiff, litd_t, litd_f, decide_true, decide_false, Bool.not_true, Bool.not_false, not_true_eq_false, not_false_eq_true, true_and, and_true, false_and, and_false, true_or, or_true, false_or, or_false, Int.toNat_natCast, cond_true, cond_false, List.map_cons, List.map_nil, Option.map_some, Option.map_none])
              rw [decide_eq_false]
              exact fun hf => by have := (hf.2.1 _ (List.getElem_mem hlt)).2.2.2.1; omega
            · simp -failIfUnchanged (disch := first | assumption | omega | (refine room_i _ _ ?_ ?_ <;> omega) | (refine @_root_.id _ ?_; with_unfolding_all exact Eq.refl _) | (simp only [List.length_take, List.length_drop, List.length_append, List.length_cons, List.length_nil, List.length_replicate, List.length_map] <;> omega) | fail) only [rnL, opL, ruL, hpL, rsL, natL, outL, Nat.add_sub_cancel_left, Nat.mul_one, List.length_cons, List.length_nil, Nat.zero_add, Nat.add_zero, Nat.reduceAdd, Nat.reduceMul, Nat.reduceSub, Nat.reduceEqDiff, Nat.reduceLT, Nat.reduceLeDiff, litd_t, litd_f, decide_true, decide_false, Bool.not_true, Bool.not_false, not_true_eq_false, not_false_eq_true, true_and, and_true, false_and, and_false, true_or, or_true, false_or, or_false, Int.toNat_natCast, cond_true, cond_false, List.map_cons, List.map_nil, Option.map_some, Option.map_none, datL, hatG1]
              have hd : ∀ k, T.nodes.l[i].blocks.l.length = k → cnt T.nodes.l[i].blocks.l = cnt (T.nodes.l[i].blocks.l.take k) := fun k h => by rw [← h, List.take_length]
              refine Run_upto T.nodes.l[i].blocks.l.length (fun k => [(0, AV.agg (Cel.enc T)), (1, AV.ptr 0 1 0), (2, AV.bool false),
                (3, AV.int IntKind.i64 (tot (T.nodes.l.take i) + T.nodes.l[i].msgs.l.length + cnt (T.nodes.l[i].blocks.l.take k) : Nat)), (4, AV.int IntKind.i64 ↑i),
                (5, AV.ptr ((gn T i).length + 1) 5 0), (6, AV.int IntKind.i64 k), (10, AV.bool false), (15, AV.bool true), (44, AV.bool false)]) (fun _ => [AObj.cells (Cel.enc T) :: (gn T i ++ [AObj.cells (Cel.enc T.nodes.l[i])])])
                (fun k => (∀ j (hj : j < T.nodes.l[i].blocks.l.length), j < k → T.nodes.l[i].blocks.l[j].l.length ≤ 20) ∧ cnt (T.nodes.l[i].blocks.l.take k) ≤ k * 20) rfl rfl ⟨fun j _ hj => by omega, by simp [cnt]⟩ ?_
              intro k hk hPk
              obtain ⟨hPk, hQk⟩ := hPk
              simp -failIfUnchanged (disch := first | assumption | omega | (refine room_i _ _ ?_ ?_ <;> omega) | (refine @_root_.id _ ?_; with_unfolding_all exact Eq.refl _) | (simp only [List.length_take, List.length_drop, List.length_append, List.length_cons, List.length_nil, List.length_replicate, List.length_map] <;> omega) | fail) only [rnL, opL, ruL, hpL, rsL, natL, outL, Nat.add_sub_cancel_left, Nat.mul_one, List.length_cons, List.length_nil, Nat.zero_add, Nat.add_zero, Nat.reduceAdd, Nat.reduceMul, Nat.reduceSub, Nat.reduceEqDiff, Nat.reduceLT, Nat.reduceLeDiff, litd_t, litd_f, decide_true, decide_false, Bool.not_true, Bool.not_false, not_true_eq_false, not_false_eq_true, true_and, and_true, false_and, and_false, true_or, or_true, false_or, or_false, Int.toNat_natCast, cond_true, cond_false, List.map_cons, List.map_nil, Option.map_some, Option.map_none, datL, hatG1]
              (first | refine RunB_i (fun h7 => ?_) (fun h7 => ?_) | refine RunG_i (fun h7 => ?_) (fun h7 => ?_) | refine RunB_ib (fun h7 => ?_) (fun h7 => ?_))
              · have hlt2 : k < T.nodes.l[i].blocks.l.length := by omega
                simp -failIfUnchanged (disch := first | assumption | omega | (refine room_i _ _ ?_ ?_ <;> omega) | (refine @_root_.id _ ?_; with_unfolding_all exact Eq.refl _) | (simp only [List.length_take, List.length_drop, List.length_append, List.length_cons, List.length_nil, List.length_replicate, List.length_map] <;> omega) | fail) only [rnL, opL, ruL, hpL, rsL, natL, outL, Nat.add_sub_cancel_left, Nat.mul_one, List.length_cons, List.length_nil, Nat.zero_add, Nat.add_zero, Nat.reduceAdd, Nat.reduceMul, Nat.reduceSub, Nat.reduceEqDiff, Nat.reduceLT, Nat.reduceLeDiff, litd_t, litd_f, decide_true, decide_false, Bool.not_true, Bool.not_false, not_true_eq_false, not_false_eq_true, true_and, and_true, false_and, and_false, true_or, or_true, false_or, or_false, Int.toNat_natCast, cond_true, cond_false, List.map_cons, List.map_nil, Option.map_some, Option.map_none, datL, hatG1]
                (first | refine RunB_i (fun h8 => ?_) (fun h8 => ?_) | refine RunG_i (fun h8 => ?_) (fun h8 => ?_) | refine RunB_ib (fun h8 => ?_) (fun h8 => ?_))
                · simp -failIfUnchanged (disch := first | assumption | omega | (refine room_i _ _ ?_ ?_ <;> omega) | (refine @_root_.id _ ?_; with_unfolding_all exact Eq.refl _) | (simp only [List.length_take, List.length_drop, List.length_append, List.length_cons, List.length_nil, List.length_replicate, List.length_map] <;> omega) | fail) only [rnL, opL, ruL, hpL, rsL, natL, outL, Nat.add_sub_cancel_left, Nat.mul_one, List.length_cons, List.length_nil, Nat.zero_add, Nat.add_zero, Nat.reduceAdd, Nat.reduceMul, Nat.reduceSub, Nat.reduceEqDiff, Nat.reduceLT, Nat.reduceLeDiff, litd_t, litd_f, decide_true, decide_false, Bool.not_true, Bool.not_false, not_true_eq_false, not_false_eq_true, true_and, and_true, false_and, and_false, true_or, or_true, false_or, or_false, Int.toNat_natCast, cond_true, cond_false, List.map_cons, List.map_nil, Option.map_some, Option.map_none, datL, hatG1]
                  (refine Fin_g (.inr rfl) (by simp -failIfUnchanged (disch := first | assumption | omega | (refine room_i _ _ ?_ ?_ <;> omega) | (refine @_root_.id _ ?_; with_unfolding_all exact Eq.refl _) | (simp only [List.length_take, List.length_drop, List.length_append, List.length_cons, List.length_nil, List.length_replicate, List.length_map] <;> omega) | fail) only [rnL, opL, ruL, hpL, rsL, natL, outL, Nat.add_sub_cancel_left, Nat.mul_one, List.length_cons, List.length_nil, Nat.zero_add, Nat.add_zero, Nat.reduceAdd, Nat.reduceMul, Nat.reduceSub, Nat.reduceEqDiff, Nat.reduceLT, Nat.reduceLeDiff, litd_t, litd_f, decide_true, decide_false, Bool.not_true, Bool.not_false, not_true_eq_false, not_false_eq_true, true_and, and_true, false_and, and_false, true_or, or_true, false_or, or_false, Int.toNat_natCast, cond_true, cond_false, List.map_cons, List.map_nil, Option.map_some, Option.map_none]; rfl) ?_; simp -failIfUnchanged (disch := first | assumption | omega | (refine room_i _ _ ?_ ?_ <;> omega) | (refine @_root_.id _ ?_; with_unfolding_all exact Eq.refl _) | (simp only [List.length_take, List.length_drop, List.length_append, List.length_cons, List.length_nil, List.length_replicate, List.length_map] <;> omega) | fail) only [rnL, opL, ruL, hpL, rsL, natL, outL, Nat.add_sub_cancel_left, Nat.mul_one, List.length_cons, List.length_nil, Nat.zero_add, Nat.add_zero, Nat.reduceAdd, Nat.reduceMul, Nat.reduceSub, Nat.reduceEqDiff, Nat.reduceLT, Nat.reduceLeDiff, litd_t, litd_f, decide_true, decide_false, Bool.not_true, Bool.not_false, not_true_eq_false, not_false_eq_true, true_and, and_true, false_and, and_false, true_or, or_true, false_or, or_false, Int.toNat_natCast, cond_true, cond_false, List.map_cons, List.map_nil, Option.map_some, Option.map_none])
                  rw [decide_eq_false]
                  exact fun hf => by have := (hf.2.1 _ (List.getElem_mem hlt)).2.2.2.2 _ (List.getElem_mem hlt2); omega
                · simp -failIfUnchanged (disch := first | assumption | omega | (refine room_i _ _ ?_ ?_ <;> omega) | (refine @_root_.id _ ?_; with_unfolding_all exact Eq.refl _) | (simp only [List.length_take, List.length_drop, List.length_append, List.length_cons, List.length_nil, List.length_replicate, List.length_map] <;> omega) | fail) only [rnL, opL, ruL, hpL, rsL, natL, outL, Nat.add_sub_cancel_left, Nat.mul_one, List.length_cons, List.length_nil, Nat.zero_add, Nat.add_zero, Nat.reduceAdd, Nat.reduceMul, Nat.reduceSub, Nat.reduceEqDiff, Nat.reduceLT, Nat.reduceLeDiff, litd_t, litd_f, decide_true, decide_false, Bool.not_true, Bool.not_false, not_true_eq_false, not_false_eq_true, true_and, and_true, false_and, and_false, true_or, or_true, false_or, or_false, Int.toNat_natCast, cond_true, cond_false, List.map_cons, List.map_nil, Option.map_some, Option.map_none, datL, hatG1]
                  rw [take_snoc _ k hlt2, cnt_snoc, ← Nat.add_assoc (tot (List.take i T.nodes.l) + T.nodes.l[i].msgs.l.length)]
                  have h9 : T.nodes.l[i].blocks.l[k].l.length ≤ 20 := by omega
                  exact .i hlt2 (by first | exact trivial | rfl) (by first | exact trivial | rfl) ⟨fun j hj hjk => by
                    rcases Nat.lt_succ_iff_lt_or_eq.mp hjk with h10 | rfl
                    · exact hPk j hj h10
                    · exact h9, by omega⟩
              · have hk2 : k = T.nodes.l[i].blocks.l.length := by omega
                rw [← hd k hk2.symm] at hQk ⊢
                simp -failIfUnchanged (disch := first | assumption | omega | (refine room_i _ _ ?_ ?_ <;> omega) | (refine @_root_.id _ ?_; with_unfolding_all exact Eq.refl _) | (simp only [List.length_take, List.length_drop, List.length_append, List.length_cons, List.length_nil, List.length_replicate, List.length_map] <;> omega) | fail) only [rnL, opL, ruL, hpL, rsL, natL, outL, Nat.add_sub_cancel_left, Nat.mul_one, List.length_cons, List.length_nil, Nat.zero_add, Nat.add_zero, Nat.reduceAdd, Nat.reduceMul, Nat.reduceSub, Nat.reduceEqDiff, Nat.reduceLT, Nat.reduceLeDiff, litd_t, litd_f, decide_true, decide_false, Bool.not_true, Bool.not_false, not_true_eq_false, not_false_eq_true, true_and, and_true, false_and, and_false, true_or, or_true, false_or, or_false, Int.toNat_natCast, cond_true, cond_false, List.map_cons, List.map_nil, Option.map_some, Option.map_none, datL, hatG1]
                have hg : gn T (i + 1) = gn T i ++ [.cells (Cel.enc T.nodes.l[i])] := by
                  unfold gn
                  rw [take_snoc _ i hlt, List.map_append]; rfl
                rw [hg, take_snoc _ i hlt, tot_snoc, ← Nat.add_assoc (tot (List.take i T.nodes.l))]
                refine .i hlt (by first | exact trivial | rfl) (by first | exact trivial | rfl) ⟨fun j hj hji => ?_, by omega⟩
                rcases Nat.lt_succ_iff_lt_or_eq.mp hji with h10 | rfl
                · exact hP j hj h10
                · refine ⟨by omega, by omega, by omega, by omega, fun b hb => ?_⟩
                  obtain ⟨y, hy, rfl⟩ := List.getElem_of_mem hb
                  exact hPk y hy (by omega)
    · have : i = T.nodes.l.length := by omega
      subst this
      simp -failIfUnchanged (disch := first | assumption | omega | (refine room_i _ _ ?_ ?_ <;> omega) | (refine @_root_.id _ ?_; with_unfolding_all exact Eq.refl _) | (simp only [List.length_take, List.length_drop, List.length_append, List.length_cons, List.length_nil, List.length_replicate, List.length_map] <;> omega) | fail) only [rnL, opL, ruL, hpL, rsL, natL, outL, Nat.add_sub_cancel_left, Nat.mul_one, List.length_cons, List.length_nil, Nat.zero_add, Nat.add_zero, Nat.reduceAdd, Nat.reduceMul, Nat.reduceSub, Nat.reduceEqDiff, Nat.reduceLT, Nat.reduceLeDiff, litd_t, litd_f, decide_true, decide_false, Bool.not_true, Bool.not_false, not_true_eq_false, not_false_eq_true, true_and, and_true, false_and, and_false, true_or, or_true, false_or, or_false, Int.toNat_natCast, cond_true, cond_false, List.map_cons, List.map_nil, Option.map_some, Option.map_none]
      (refine Fin_g (.inr rfl) (by simp -failIfUnchanged (disch := first | assumption | omega | (refine room_i _ _ ?_ ?_ <;> omega) | (refine @_root_.id _ ?_; with_unfolding_all exact Eq.refl _) | (simp only [List.length_take, List.length_drop, List.length_append, List.length_cons, List.length_nil, List.length_replicate, List.length_map] <;> omega) | fail) only [rnL, opL, ruL, hpL, rsL, natL, outL, Nat.add_sub_cancel_left, Nat.mul_one, List.length_cons, List.length_nil, Nat.zero_add, Nat.add_zero, Nat.reduceAdd, Nat.reduceMul, Nat.reduceSub, Nat.reduceEqDiff, Nat.reduceLT, Nat.reduceLeDiff, litd_t, litd_f, decide_true, decide_false, Bool.not_true, Bool.not_false, not_true_eq_false, not_false_eq_true, true_and, and_true, false_and, and_false, true_or, or_true, false_or, or_false, Int.toNat_natCast, cond_true, cond_false, List.map_cons, List.map_nil, Option.map_some, Option.map_none]; rfl) ?_; simp -failIfUnchanged (disch := first | assumption | omega | (refine room_i _ _ ?_ ?_ <;> omega) | (refine @_root_.id _ ?_; with_unfolding_all exact Eq.refl _) | (simp only [List.length_take, List.length_drop, List.length_append, List.length_cons, List.length_nil, List.length_replicate, List.length_map] <;> omega) | fail) only [rnL, opL, ruL, hpL, rsL, natL, outL, Nat.add_sub_cancel_left, Nat.mul_one, List.length_cons, List.length_nil, Nat.zero_add, Nat.add_zero, Nat.reduceAdd, Nat.reduceMul, Nat.reduceSub, Nat.reduceEqDiff, Nat.reduceLT, Nat.reduceLeDiff, litd_t, litd_f, decide_true, decide_false, Bool.not_true, Bool.not_false, not_true_eq_false, not_false_eq_true, true_and, and_true, false_and, and_false, true_or, or_true, false_or, or_false, Int.toNat_natCast, cond_true, cond_false, List.map_cons, List.map_nil, Option.map_some, Option.map_none])
      rw [List.take_length]
      have e : decide (small T) = decide ((tot T.nodes.l : Int) ≤ 200) := decide_eq_decide.mpr ⟨fun h => by have := h.2.2; omega, fun h => ⟨by omega, fun d hd => by
        obtain ⟨j, hj, rfl⟩ := List.getElem_of_mem hd
        exact hP j hj hj, by omega⟩⟩
      rw [e]
end Go.AS.Th

namespace Go.AS.Th
open Go Go.AS Go.Proofs
set_option maxHeartbeats 1000000
set_option maxRecDepth 4000
theorem opV_faddr2 {α : Type} [Cel α] {H : Heap} {l : List α} {i k o : Nat} : opV H (.faddr o (.c (flp l i k))) = some (flp l i (k + o), H) := by
  unfold flp
  simp only [opV, evOp, Opd.ev, Nat.add_assoc]
  rfl
/-- A history that is not too long. -/
def few1 (d : Don) : Prop := d.op.batch.l.length ≤ 20 ∧ d.reply.entries.l.length ≤ 40
def few (h : List Don) : Prop := h.length ≤ 40 ∧ ∀ d ∈ h, few1 d
instance (d : Don) : Decidable (few1 d) := by unfold few1; infer_instance
instance (h : List Don) : Decidable (few h) := by unfold few; infer_instance
theorem few_is (nl : Bool) (h : List Don) : CallIs F 32 [sl nl h] (.bool (decide (few h))) := by
  refine Gives.is ?_
  refine Gives.of fn_r30_Few rfl rfl (args' := [sl nl h]) (by simp only [mapO_nil, mapO_c2, consO_some, upf_v]) ?_
  simp only [ir_r30_Few]
  simp -failIfUnchanged (disch := first | assumption | omega | (refine room_i _ _ ?_ ?_ <;> omega) | (refine @_root_.id _ ?_; with_unfolding_all exact Eq.refl _) | (simp only [List.length_take, List.length_drop, List.length_append, List.length_cons, List.length_nil, List.length_replicate, List.length_map] <;> omega) | fail) only [rnL, opL, ruL, hpL, rsL, natL, outL, Nat.add_sub_cancel_left, Nat.mul_one, List.length_cons, List.length_nil, Nat.zero_add, Nat.add_zero, Nat.reduceAdd, Nat.reduceMul, Nat.reduceSub, Nat.reduceEqDiff, Nat.reduceLT, Nat.reduceLeDiff, litd_t, litd_f, decide_true, decide_false, Bool.not_true, Bool.not_false, not_true_eq_false, not_false_eq_true, true_and, and_true, false_and, and_false, true_or, or_true, false_or, or_false, Int.toNat_natCast, cond_true, cond_false, List.map_cons, List.map_nil, Option.map_some, Option.map_none]
  (first | refine RunB_i (fun h1 => ?_) (fun h1 => ?_) | refine RunG_i (fun h1 => ?_) (fun h1 => ?_) | refine RunB_ib (fun h1 => ?_) (fun h1 => ?_))
  · simp -failIfUnchanged (disch := first | assumption | omega | (refine room_i _ _ ?_ ?_ <;> omega) | (refine @_root_.id _ ?_; with_unfolding_all exact Eq.refl _) | (simp only [List.length_take, List.length_drop, List.length_append, List.length_cons, List.length_nil, List.length_replicate, List.length_map] <;> omega) | fail) only [rnL, opL, ruL, hpL, rsL, natL, outL, Nat.add_sub_cancel_left, Nat.mul_one, List.length_cons, List.length_nil, Nat.zero_add, Nat.add_zero, Nat.reduceAdd, Nat.reduceMul, Nat.reduceSub, Nat.reduceEqDiff, Nat.reduceLT, Nat.reduceLeDiff, litd_t, litd_f, decide_true, decide_false, Bool.not_true, Bool.not_false, not_true_eq_false, not_false_eq_true, true_and, and_true, false_and, and_false, true_or, or_true, false_or, or_false, Int.toNat_natCast, cond_true, cond_false, List.map_cons, List.map_nil, Option.map_some, Option.map_none]
    (refine Fin_g (.inr rfl) (by simp -failIfUnchanged (disch := first | assumption | omega | (refine room_i _ _ ?_ ?_ <;> omega) | (refine @_root_.id _ ?_; with_unfolding_all exact Eq.refl _) | (simp only [List.length_take, List.length_drop, List.length_append, List.length_cons, List.length_nil, List.length_replicate, List.length_map] <;> omega) | fail) only [rnL, opL, ruL, hpL, rsL, natL, outL, Nat.add_sub_cancel_left, Nat.mul_one, List.length_cons, List.length_nil, Nat.zero_add, Nat.add_zero, Nat.reduceAdd, Nat.reduceMul, Nat.reduceSub, Nat.reduceEqDiff, Nat.reduceLT, Nat.reduceLeDiff, litd_t, litd_f, decide_true, decide_false, Bool.not_true, Bool.not_false, not_true_eq_false, not_false_eq_true, true_and, and_true, false_and, and_false, true_or, or_true, false_or, or_false, Int.toNat_natCast, cond_true, cond_false, List.map_cons, List.map_nil, Option.map_some, Option.map_none]; rfl) ?_; simp -failIfUnchanged (disch := first | assumption | omega | (refine room_i _ _ ?_ ?_ <;> omega) | (refine @_root_.id _ ?_; with_unfolding_all exact Eq.refl _) | (simp only [List.length_take, List.length_drop, List.length_append, List.length_cons, List.length_nil, List.length_replicate, List.length_map] <;> omega) | fail) only [rnL, opL, ruL, hpL, rsL, natL, outL, Nat.add_sub_cancel_left, Nat.mul_one, List.length_cons, List.length_nil, Nat.zero_add, Nat.add_zero, Nat.reduceAdd, Nat.reduceMul, Nat.reduceSub, Nat.reduceEqDiff, Nat.reduceLT, Nat.reduceLeDiff, litd_t, litd_f, decide_true, decide_false, Bool.not_true, Bool.not_false, not_true_eq_false, not_false_eq_true, true_and, and_true, false_and, and_false, true_or, or_true, false_or, or_false, Int.toNat_natCast, cond_true, cond_false, List.map_cons, List.map_nil, Option.map_some, Option.map_none])
    rw [decide_eq_false]
    exact fun hf => by have := hf.1; omega
  · simp -failIfUnchanged (disch := first | assumption | omega | (refine room_i _ _ ?_ ?_ <;> omega) | (refine @_root_.id _ ?_; with_unfolding_all exact Eq.refl _) | (simp only [List.length_take, List.length_drop, List.length_append, List.length_cons, List.length_nil, List.length_replicate, List.length_map] <;> omega) | fail) only [rnL, opL, ruL, hpL, rsL, natL, outL, Nat.add_sub_cancel_left, Nat.mul_one, List.length_cons, List.length_nil, Nat.zero_add, Nat.add_zero, Nat.reduceAdd, Nat.reduceMul, Nat.reduceSub, Nat.reduceEqDiff, Nat.reduceLT, Nat.reduceLeDiff, litd_t, litd_f, decide_true, decide_false, Bool.not_true, Bool.not_false, not_true_eq_false, not_false_eq_true, true_and, and_true, false_and, and_false, true_or, or_true, false_or, or_false, Int.toNat_natCast, cond_true, cond_false, List.map_cons, List.map_nil, Option.map_some, Option.map_none]
    refine Run_upto h.length (fun i => [(0, sl nl h), (2, .bool false), (3, AV.int IntKind.i64 (i : Nat)), (6, .bool false)]) (fun _ => [[]]) (fun i => ∀ j (hj : j < h.length), j < i → few1 h[j]) rfl rfl (fun j _ hj => by omega) ?_
    intro i hi hP
    simp -failIfUnchanged (disch := first | assumption | omega | (refine room_i _ _ ?_ ?_ <;> omega) | (refine @_root_.id _ ?_; with_unfolding_all exact Eq.refl _) | (simp only [List.length_take, List.length_drop, List.length_append, List.length_cons, List.length_nil, List.length_replicate, List.length_map] <;> omega) | fail) only [rnL, opL, ruL, hpL, rsL, natL, outL, Nat.add_sub_cancel_left, Nat.mul_one, List.length_cons, List.length_nil, Nat.zero_add, Nat.add_zero, Nat.reduceAdd, Nat.reduceMul, Nat.reduceSub, Nat.reduceEqDiff, Nat.reduceLT, Nat.reduceLeDiff, litd_t, litd_f, decide_true, decide_false, Bool.not_true, Bool.not_false, not_true_eq_false, not_false_eq_true, true_and, and_true, false_and, and_false, true_or, or_true, false_or, or_false, Int.toNat_natCast, cond_true, cond_false, List.map_cons, List.map_nil, Option.map_some, Option.map_none]
    (first | refine RunB_i (fun h2 => ?_) (fun h2 => ?_) | refine RunG_i (fun h2 => ?_) (fun h2 => ?_) | refine RunB_ib (fun h2 => ?_) (fun h2 => ?_))
    · have hlt : i < h.length := by omega
      simp -failIfUnchanged (disch := first | assumption | omega | (refine room_i _ _ ?_ ?_ <;> omega) | (refine @_root_.id _ ?_; with_unfolding_all exact Eq.refl _) | (simp only [List.length_take, List.length_drop, List.length_append, List.length_cons, List.length_nil, List.length_replicate, List.length_map] <;> omega) | fail) only [rnL, opL, ruL, hpL, rsL, natL, outL, Nat.add_sub_cancel_left, Nat.mul_one, List.length_cons, List.length_nil, Nat.zero_add, Nat.add_zero, Nat.reduceAdd, Nat.reduceMul, Nat.reduceSub, Nat.reduceEqDiff, Nat.reduceLT, Nat.reduceLeDiff, litd_t, litd_f, decide_true, decide_false, Bool.not_true, Bool.not_false, not_true_eq_false, not_false_eq_true, true_and, and_true, false_and, and_false, true_or, or_true, false_or, or_false, Int.toNat_natCast, cond_true, cond_false, List.map_cons, List.map_nil, Option.map_some, Option.map_none, datL, opV_faddr2]
      (first | refine RunB_i (fun h3 => ?_) (fun h3 => ?_) | refine RunG_i (fun h3 => ?_) (fun h3 => ?_) | refine RunB_ib (fun h3 => ?_) (fun h3 => ?_))
      · simp -failIfUnchanged (disch := first | assumption | omega | (refine room_i _ _ ?_ ?_ <;> omega) | (refine @_root_.id _ ?_; with_unfolding_all exact Eq.refl _) | (simp only [List.length_take, List.length_drop, List.length_append, List.length_cons, List.length_nil, List.length_replicate, List.length_map] <;> omega) | fail) only [rnL, opL, ruL, hpL, rsL, natL, outL, Nat.add_sub_cancel_left, Nat.mul_one, List.length_cons, List.length_nil, Nat.zero_add, Nat.add_zero, Nat.reduceAdd, Nat.reduceMul, Nat.reduceSub, Nat.reduceEqDiff, Nat.reduceLT, Nat.reduceLeDiff, litd_t, litd_f, decide_true, decide_false, Bool.not_true, Bool.not_false, not_true_eq_false, not_false_eq_true, true_and, and_true, false_and, and_false, true_or, or_true, false_or, or_false, Int.toNat_natCast, cond_true, cond_false, List.map_cons, List.map_nil, Option.map_some, Option.map_none, datL, opV_faddr2]
        (refine Fin_g (.inr rfl) (by simp -failIfUnchanged (disch := first | assumption | omega | (refine room_i _ _ ?_ ?_ <;> omega) | (refine @_root_.id _ ?_; with_unfolding_all exact Eq.refl _) | (simp only [List.length_take, List.length_drop, List.length_append, List.length_cons, List.length_nil, List.length_replicate, List.length_map] <;> omega) | fail) only [rnL, opL, ruL, hpL, rsL, natL, outL, Nat.add_sub_cancel_left, Nat.mul_one, List.length_cons, List.length_nil, Nat.zero_add, Nat.add_zero, Nat.reduceAdd, Nat.reduceMul, Nat.reduceSub, Nat.reduceEqDiff, Nat.reduceLT, Nat.reduceLeDiff, litd_t, litd_f, decide_true, decide_false, Bool.not_true, Bool.not_false, not_true_eq_false, not_false_eq_true, true_and, and_true, false_and, and_false, true_or, or_true, false_or, or_false, Int.toNat_natCast, cond_true, cond_false, List.map_cons, List.map_nil, Option.map_some, Option.map_none]; rfl) ?_; simp -failIfUnchanged (disch := first | assumption | omega | (refine room_i _ _ ?_ ?_ <;> omega) | (refine @_root_.id _ ?_; with_unfolding_all exact Eq.refl _) | (simp only [List.length_take, List.length_drop, List.length_append, List.length_cons, List.length_nil, List.length_replicate, List.length_map] <;> omega) | fail) only [rnL, opL, ruL, hpL, rsL, natL, outL, Nat.add_sub_cancel_left, Nat.mul_one, List.length_cons, List.length_nil, Nat.zero_add, Nat.add_zero, Nat.reduceAdd, Nat.reduceMul, Nat.reduceSub, Nat.reduceEqDiff, Nat.reduceLT, Nat.reduceLeDiff, litd_t, litd_f, decide_true, decide_false, Bool.not_true, Bool.not_false, not_true_eq_false, not_false_eq_true, true_and, and_true, false_and, and_false, true_or, or_true, false_or, or_false, Int.toNat_natCast, cond_true, cond_false, List.map_cons, List.map_nil, Option.map_some, Option.map_none])
        rw [decide_eq_false]
        exact fun hf => by have := (hf.2 h[i] (List.getElem_mem hlt)).1; omega
      · simp -failIfUnchanged (disch := first | assumption | omega | (refine room_i _ _ ?_ ?_ <;> omega) | (refine @_root_.id _ ?_; with_unfolding_all exact Eq.refl _) | (simp only [List.length_take, List.length_drop, List.length_append, List.length_cons, List.length_nil, List.length_replicate, List.length_map] <;> omega) | fail) only [rnL, opL, ruL, hpL, rsL, natL, outL, Nat.add_sub_cancel_left, Nat.mul_one, List.length_cons, List.length_nil, Nat.zero_add, Nat.add_zero, Nat.reduceAdd, Nat.reduceMul, Nat.reduceSub, Nat.reduceEqDiff, Nat.reduceLT, Nat.reduceLeDiff, litd_t, litd_f, decide_true, decide_false, Bool.not_true, Bool.not_false, not_true_eq_false, not_false_eq_true, true_and, and_true, false_and, and_false, true_or, or_true, false_or, or_false, Int.toNat_natCast, cond_true, cond_false, List.map_cons, List.map_nil, Option.map_some, Option.map_none, datL, opV_faddr2]
        (first | refine RunB_i (fun h4 => ?_) (fun h4 => ?_) | refine RunG_i (fun h4 => ?_) (fun h4 => ?_) | refine RunB_ib (fun h4 => ?_) (fun h4 => ?_))
        · simp -failIfUnchanged (disch := first | assumption | omega | (refine room_i _ _ ?_ ?_ <;> omega) | (refine @_root_.id _ ?_; with_unfolding_all exact Eq.refl _) | (simp only [List.length_take, List.length_drop, List.length_append, List.length_cons, List.length_nil, List.length_replicate, List.length_map] <;> omega) | fail) only [rnL, opL, ruL, hpL, rsL, natL, outL, Nat.add_sub_cancel_left, Nat.mul_one, List.length_cons, List.length_nil, Nat.zero_add, Nat.add_zero, Nat.reduceAdd, Nat.reduceMul, Nat.reduceSub, Nat.reduceEqDiff, Nat.reduceLT, Nat.reduceLeDiff, litd_t, litd_f, decide_true, decide_false, Bool.not_true, Bool.not_false, not_true_eq_false, not_false_eq_true, true_and, and_true, false_and, and_false, true_or, or_true, false_or, or_false, Int.toNat_natCast, cond_true, cond_false, List.map_cons, List.map_nil, Option.map_some, Option.map_none, datL, opV_faddr2]
          (refine Fin_g (.inr rfl) (by simp -failIfUnchanged (disch := first | assumption | omega | (refine room_i _ _ ?_ ?_ <;> omega) | (refine @_root_.id _ ?_; with_unfolding_all exact Eq.refl _) | (simp only [List.length_take, List.length_drop, List.length_append, List.length_cons, List.length_nil, List.length_replicate, List.length_map] <;> omega) | fail) only [rnL, opL, ruL, hpL, rsL, natL, outL, Nat.add_sub_cancel_left, Nat.mul_one, List.length_cons, List.length_nil, Nat.zero_add, Nat.add_zero, Nat.reduceAdd, Nat.reduceMul, Nat.reduceSub, Nat.reduceEqDiff, Nat.reduceLT, Nat.reduceLeDiff, litd_t, litd_f, decide_true, decide_false, Bool.not_true, Bool.not_false, not_true_eq_false, not_false_eq_true, true_and, and_true, false_and, and_false, true_or, or_true, false_or, or_false, Int.toNat_natCast, cond_true, cond_false, List.map_cons, List.map_nil, Option.map_some, Option.map_none]; rfl) ?_; simp -failIfUnchanged (disch := first | assumption | omega | (refine room_i _ _ ?_ ?_ <;> omega) | (refine @_root_.id _ ?_; with_unfolding_all exact Eq.refl _) | (simp only [List.length_take, List.length_drop, List.length_append, List.length_cons, List.length_nil, List.length_replicate, List.length_map] <;> omega) | fail) only [rnL, opL, ruL, hpL, rsL, natL, outL, Nat.add_sub_cancel_left, Nat.mul_one, List.length_cons, List.length_nil, Nat.zero_add, Nat.add_zero, Nat.reduceAdd, Nat.reduceMul, Nat.reduceSub, Nat.reduceEqDiff, Nat.reduceLT, Nat.reduceLeDiff, litd_t, litd_f, decide_true, decide_false, Bool.not_true, Bool.not_false, not_true_eq_false, not_false_eq_true, true_and, and_true, false_and, and_false, true_or, or_true, false_or, or_false, Int.toNat_natCast, cond_true, cond_false, List.map_cons, List.map_nil, Option.map_some, Option.map_none])
          rw [decide_eq_false]
          exact fun hf => by have := (hf.2 h[i] (List.getElem_mem hlt)).2; omega
        · simp -failIfUnchanged (disch := first | assumption | omega | (refine room_i _ _ ?_ ?_ <;> omega) | (refine @_root_.id _ ?_; with_unfolding_all exact Eq.refl _) | (simp only [List.length_take, List.length_drop, List.length_append, List.length_cons, List.length_nil, List.length_replicate, List.length_map] <;> omega) | fail) only [rnL, opL, ruL, hpL, rsL, natL, outL, Nat.add_sub_cancel_left, Nat.mul_one, List.length_cons, List.length_nil, Nat.zero_add, Nat.add_zero, Nat.reduceAdd, Nat.reduceMul, Nat.reduceSub, Nat.reduceEqDiff, Nat.reduceLT, Nat.reduceLeDiff, litd_t, litd_f, decide_true, decide_false, Bool.not_true, Bool.not_false, not_true_eq_false, not_false_eq_true, true_and, and_true, false_and, and_false, true_or, or_true, false_or, or_false, Int.toNat_natCast, cond_true, cond_false, List.map_cons, List.map_nil, Option.map_some, Option.map_none, datL, opV_faddr2]
          exact .i hlt (by first | exact trivial | rfl) (by first | exact trivial | rfl) (fun j hj hji => by
            rcases Nat.lt_succ_iff_lt_or_eq.mp hji with h6 | rfl
            · exact hP j hj h6
            · exact ⟨by omega, by omega⟩)
    · have : i = h.length := by omega
      subst this
      simp -failIfUnchanged (disch := first | assumption | omega | (refine room_i _ _ ?_ ?_ <;> omega) | (refine @_root_.id _ ?_; with_unfolding_all exact Eq.refl _) | (simp only [List.length_take, List.length_drop, List.length_append, List.length_cons, List.length_nil, List.length_replicate, List.length_map] <;> omega) | fail) only [rnL, opL, ruL, hpL, rsL, natL, outL, Nat.add_sub_cancel_left, Nat.mul_one, List.length_cons, List.length_nil, Nat.zero_add, Nat.add_zero, Nat.reduceAdd, Nat.reduceMul, Nat.reduceSub, Nat.reduceEqDiff, Nat.reduceLT, Nat.reduceLeDiff, litd_t, litd_f, decide_true, decide_false, Bool.not_true, Bool.not_false, not_true_eq_false, not_false_eq_true, true_and, and_true, false_and, and_false, true_or, or_true, false_or, or_false, Int.toNat_natCast, cond_true, cond_false, List.map_cons, List.map_nil, Option.map_some, Option.map_none]
      (refine Fin_g (.inr rfl) (by simp -failIfUnchanged (disch := first | assumption | omega | (refine room_i _ _ ?_ ?_ <;> omega) | (refine @_root_.id _ ?_; with_unfolding_all exact Eq.refl _) | (simp only [List.length_take, List.length_drop, List.length_append, List.length_cons, List.length_nil, List.length_replicate, List.length_map] <;> omega) | fail) only [rnL, opL, ruL, hpL, rsL, natL, outL, Nat.add_sub_cancel_left, Nat.mul_one, List.length_cons, List.length_nil, Nat.zero_add, Nat.add_zero, Nat.reduceAdd, Nat.reduceMul, Nat.reduceSub, Nat.reduceEqDiff, Nat.reduceLT, Nat.reduceLeDiff, litd_t, litd_f, decide_true, decide_false, Bool.not_true, Bool.not_false, not_true_eq_false, not_false_eq_true, true_and, and_true, false_and, and_false, true_or, or_true, false_or, or_false, Int.toNat_natCast, cond_true, cond_false, List.map_cons, List.map_nil, Option.map_some, Option.map_none]; rfl) ?_; simp -failIfUnchanged (disch := first | assumption | omega | (refine room_i _ _ ?_ ?_ <;> omega) | (refine @_root_.id _ ?_; with_unfolding_all exact Eq.refl _) | (simp only [List.length_take, List.length_drop, List.length_append, List.length_cons, List.length_nil, List.length_replicate, List.length_map] <;> omega) | fail) only [rnL, opL, ruL, hpL, rsL, natL, outL, Nat.add_sub_cancel_left, Nat.mul_one, List.length_cons, List.length_nil, Nat.zero_add, Nat.add_zero, Nat.reduceAdd, Nat.reduceMul, Nat.reduceSub, Nat.reduceEqDiff, Nat.reduceLT, Nat.reduceLeDiff, litd_t, litd_f, decide_true, decide_false, Bool.not_true, Bool.not_false, not_true_eq_false, not_false_eq_true, true_and, and_true, false_and, and_false, true_or, or_true, false_or, or_false, Int.toNat_natCast, cond_true, cond_false, List.map_cons, List.map_nil, Option.map_some, Option.map_none])
      rw [decide_eq_true]
      refine ⟨by omega, fun d hd => ?_⟩
      obtain ⟨j, hj, rfl⟩ := List.getElem_of_mem hd
      exact hP j hj hj
end Go.AS.Th

namespace Go.AS.Th
open Go Go.AS Go.Proofs
set_option maxHeartbeats 1000000
set_option maxRecDepth 4000
theorem small_nok {T : Tr} (h : small T) (n : Int) : nok (nodeAt T n) := by
  have h0 : nok nd0 := by decide
  unfold nodeAt
  split
  · cases e : T.nodes.l[n.toNat]? with
    | none => exact h0
    | some d => exact h.2.1 d (List.mem_of_getElem? e)
  · exact h0
theorem small_Small {T : Tr} (h : small T) : Small T := by
  have key : ∀ n, nok (nodeAt T n) := by
    intro n
    have h0 : nok nd0 := by decide
    unfold nodeAt
    split
    · cases e : T.nodes.l[n.toNat]? with
      | none => exact h0
      | some d => exact h.2.1 d (List.mem_of_getElem? e)
    · exact h0
  exact ⟨by have := h.1; omega, fun n => by have := (key n).1; have := (key n).2.1; omega⟩
theorem hatG2 (a b : AObj) (G L : Heap) (k : Nat) : hat (a :: b :: (G ++ L)) (G.length + (k + 2)) = hat L k := hatG1 b G L k
theorem hsetG2 (a b : AObj) (G L : Heap) (k : Nat) (x : AObj) : hset (a :: b :: (G ++ L)) (G.length + (k + 2)) x = a :: b :: (G ++ hset L k x) := by
  show a :: hset (b :: (G ++ L)) (G.length + (k + 1)) x = _
  rw [hsetG1]
theorem splice16 (a0 a1 a2 a3 a4 a5 a6 a7 a8 a9 b0 b1 b2 b3 b4 b5 : AV) (x : List AV) (h : x.length = 16) : splice [a0, a1, a2, a3, a4, a5, a6, a7, a8, a9, b0, b1, b2, b3, b4, b5] 0 x = x := by simp [splice, h]
/-- What is still to come of a history. -/
def come (l : List Don) : Nat := (l.map fun d => if d.back = 0 ∧ d.op.kind = 2 then d.op.batch.l.length else 0).sum
theorem come_snoc (l : List Don) (d : Don) : come (l ++ [d]) = come l + (if d.back = 0 ∧ d.op.kind = 2 then d.op.batch.l.length else 0) := by simp [come]
theorem come_le {l : List Don} {m : Nat} (h : ∀ x ∈ l, x.op.batch.l.length ≤ m) : come l ≤ l.length * m := by
  induction l with
  | nil => simp [come]
  | cons a l ih =>
    have h1 := h a List.mem_cons_self
    have h2 := ih fun x hx => h x (List.mem_cons_of_mem _ hx)
    have e : come (a :: l) = (if a.back = 0 ∧ a.op.kind = 2 then a.op.batch.l.length else 0) + come l := by simp [come]
    have e2 : (a :: l).length * m = l.length * m + m := by rw [List.length_cons, Nat.add_mul, Nat.one_mul]
    have e3 : (if a.back = 0 ∧ a.op.kind = 2 then a.op.batch.l.length else 0) ≤ a.op.batch.l.length := by split <;> omega
    omega
def wv (T : Tr) (v : V) : Nat := 1 + (nodeAt T v.n).msgs.l.length + cnt (nodeAt T v.n).blocks.l
def part (T : Tr) (i : Nat) : Nat := (((visits T).1.take i).map (wv T)).sum
theorem part_succ (T : Tr) (i : Nat) (h : i < (visits T).1.length) : part T (i + 1) = part T i + wv T (visits T).1[i] := by
  unfold part; rw [take_snoc _ i h, List.map_append, List.sum_append]; rfl
def things (T : Tr) (h : List Don) : Nat := come h + (if (visits T).2.2 then part T (visits T).1.length else 0)
theorem wv_le {T : Tr} (h : small T) (v : V) : wv T v ≤ 441 := by
  obtain ⟨_, _, h1, h2, h3⟩ := small_nok h v.n
  have h4 := cnt_le (m := 20) h3
  have h5 : (nodeAt T v.n).blocks.l.length * 20 ≤ 20 * 20 := Nat.mul_le_mul_right _ h2
  unfold wv; omega
theorem part_le {T : Tr} (h : small T) : ∀ i, i ≤ (visits T).1.length → part T i ≤ i * 441
  | 0, _ => by simp [part]
  | i + 1, hi => by
    rw [part_succ T i hi]
    have h1 := part_le h i (by omega)
    have h2 := wv_le h (visits T).1[i]
    omega
theorem thingsP_gives (T : Tr) (nl : Bool) (h : List Don) (hT : small T) (hh : few h) : Gives F 34 [.agg (Cel.enc T), sl nl h] (.int .i64 (things T h : Nat)) := by
  refine Gives.of fn_fair_Things rfl rfl (args' := [.agg (Cel.enc T), sl nl h]) (by simp only [mapO_nil, mapO_c2, consO_some, upf_v]) ?_
  simp only [ir_fair_Things]
  have hl := hh.1
  simp -failIfUnchanged (disch := first | assumption | omega | (refine room_i _ _ ?_ ?_ <;> omega) | (refine @_root_.id _ ?_; with_unfolding_all exact Eq.refl _) | (simp only [List.length_take, List.length_drop, List.length_append, List.length_cons, List.length_nil, List.length_replicate, List.length_map] <;> omega) | fail) only [rnL, opL, ruL, hpL, rsL, natL, outL, Nat.add_sub_cancel_left, Nat.mul_one, List.length_cons, List.length_nil, Nat.zero_add, Nat.add_zero, Nat.reduceAdd, Nat.reduceMul, Nat.reduceSub, Nat.reduceEqDiff, Nat.reduceLT, Nat.reduceLeDiff, litd_t, litd_f, decide_true, decide_false, Bool.not_true, Bool.not_false, not_true_eq_false, not_false_eq_true, true_and, and_true, false_and, and_false, true_or, or_true, false_or, or_false, Int.toNat_natCast, cond_true, cond_false, List.map_cons, List.map_nil, Option.map_some, Option.map_none, datL]
  refine Run_upto h.length (fun i => [(0, .agg (Cel.enc T)), (1, sl nl h), (2, .ptr 0 1 0), (4, .int .i64 0), (5, .ptr 1 1 0), (9, sl nl h), (10, .int .i64 h.length), (11, AV.int IntKind.i64 (i : Nat))]) (fun i => [.cells (Cel.enc T) :: .cells [.int .i64 (come (h.take i) : Nat)] :: (h.take i).map fun d => .cells (Cel.enc d)]) (fun i => True) rfl rfl trivial ?_
  intro i hi _
  have hc : come (h.take i) ≤ i * 20 := by
    have := come_le (l := h.take i) (m := 20) fun x hx => (hh.2 x (List.mem_of_mem_take hx)).1
    rw [List.length_take, Nat.min_eq_left hi] at this
    exact this
  simp -failIfUnchanged (disch := first | assumption | omega | (refine room_i _ _ ?_ ?_ <;> omega) | (refine @_root_.id _ ?_; with_unfolding_all exact Eq.refl _) | (simp only [List.length_take, List.length_drop, List.length_append, List.length_cons, List.length_nil, List.length_replicate, List.length_map] <;> omega) | fail) only [rnL, opL, ruL, hpL, rsL, natL, outL, Nat.add_sub_cancel_left, Nat.mul_one, List.length_cons, List.length_nil, Nat.zero_add, Nat.add_zero, Nat.reduceAdd, Nat.reduceMul, Nat.reduceSub, Nat.reduceEqDiff, Nat.reduceLT, Nat.reduceLeDiff, litd_t, litd_f, decide_true, decide_false, Bool.not_true, Bool.not_false, not_true_eq_false, not_false_eq_true, true_and, and_true, false_and, and_false, true_or, or_true, false_or, or_false, Int.toNat_natCast, cond_true, cond_false, List.map_cons, List.map_nil, Option.map_some, Option.map_none]
  (first | refine RunB_i (fun h2 => ?_) (fun h2 => ?_) | refine RunG_i (fun h2 => ?_) (fun h2 => ?_) | refine RunB_ib (fun h2 => ?_) (fun h2 => ?_))
  · have hlt : i < h.length := by omega
    simp -failIfUnchanged (disch := first | assumption | omega | (refine room_i _ _ ?_ ?_ <;> omega) | (refine @_root_.id _ ?_; with_unfolding_all exact Eq.refl _) | (simp only [List.length_take, List.length_drop, List.length_append, List.length_cons, List.length_nil, List.length_replicate, List.length_map] <;> omega) | fail) only [rnL, opL, ruL, hpL, rsL, natL, outL, Nat.add_sub_cancel_left, Nat.mul_one, List.length_cons, List.length_nil, Nat.zero_add, Nat.add_zero, Nat.reduceAdd, Nat.reduceMul, Nat.reduceSub, Nat.reduceEqDiff, Nat.reduceLT, Nat.reduceLeDiff, litd_t, litd_f, decide_true, decide_false, Bool.not_true, Bool.not_false, not_true_eq_false, not_false_eq_true, true_and, and_true, false_and, and_false, true_or, or_true, false_or, or_false, Int.toNat_natCast, cond_true, cond_false, List.map_cons, List.map_nil, Option.map_some, Option.map_none, datL, lo1, lo3, lo5, lo6, hatG2, hsetG2, splice16, kind2, Nat.add_assoc]
    have hg : ((h.take i).map fun d => AObj.cells (Cel.enc d)) ++ [.cells (Cel.enc h[i])] = (h.take (i + 1)).map fun d => AObj.cells (Cel.enc d) := by
      rw [take_snoc _ i hlt, List.map_append]; rfl
    (first | refine RunB_i (fun h3 => ?_) (fun h3 => ?_) | refine RunG_i (fun h3 => ?_) (fun h3 => ?_) | refine RunB_ib (fun h3 => ?_) (fun h3 => ?_))
    · simp -failIfUnchanged (disch := first | assumption | omega | (refine room_i _ _ ?_ ?_ <;> omega) | (refine @_root_.id _ ?_; with_unfolding_all exact Eq.refl _) | (simp only [List.length_take, List.length_drop, List.length_append, List.length_cons, List.length_nil, List.length_replicate, List.length_map] <;> omega) | fail) only [rnL, opL, ruL, hpL, rsL, natL, outL, Nat.add_sub_cancel_left, Nat.mul_one, List.length_cons, List.length_nil, Nat.zero_add, Nat.add_zero, Nat.reduceAdd, Nat.reduceMul, Nat.reduceSub, Nat.reduceEqDiff, Nat.reduceLT, Nat.reduceLeDiff, litd_t, litd_f, decide_true, decide_false, Bool.not_true, Bool.not_false, not_true_eq_false, not_false_eq_true, true_and, and_true, false_and, and_false, true_or, or_true, false_or, or_false, Int.toNat_natCast, cond_true, cond_false, List.map_cons, List.map_nil, Option.map_some, Option.map_none, datL, lo1, lo3, lo5, lo6, hatG2, hsetG2, splice16, kind2, Nat.add_assoc]
      have hb := (hh.2 h[i] (List.getElem_mem hlt)).1
      (first | refine RunB_i (fun h4 => ?_) (fun h4 => ?_) | refine RunG_i (fun h4 => ?_) (fun h4 => ?_) | refine RunB_ib (fun h4 => ?_) (fun h4 => ?_))
      · have e : come (h.take (i + 1)) = come (h.take i) + h[i].op.batch.l.length := by rw [take_snoc _ i hlt, come_snoc, if_pos ⟨h3, h4⟩]
        simp -failIfUnchanged (disch := first | assumption | omega | (refine room_i _ _ ?_ ?_ <;> omega) | (refine @_root_.id _ ?_; with_unfolding_all exact Eq.refl _) | (simp only [List.length_take, List.length_drop, List.length_append, List.length_cons, List.length_nil, List.length_replicate, List.length_map] <;> omega) | fail) only [rnL, opL, ruL, hpL, rsL, natL, outL, Nat.add_sub_cancel_left, Nat.mul_one, List.length_cons, List.length_nil, Nat.zero_add, Nat.add_zero, Nat.reduceAdd, Nat.reduceMul, Nat.reduceSub, Nat.reduceEqDiff, Nat.reduceLT, Nat.reduceLeDiff, litd_t, litd_f, decide_true, decide_false, Bool.not_true, Bool.not_false, not_true_eq_false, not_false_eq_true, true_and, and_true, false_and, and_false, true_or, or_true, false_or, or_false, Int.toNat_natCast, cond_true, cond_false, List.map_cons, List.map_nil, Option.map_some, Option.map_none, datL, lo1, lo3, lo5, lo6, hatG2, hsetG2, splice16, kind2, Nat.add_assoc]
        rw [← hg, e]
        exact .i hlt (by first | exact trivial | rfl) (by first | exact trivial | rfl) trivial
      · have e : come (h.take (i + 1)) = come (h.take i) := by rw [take_snoc _ i hlt, come_snoc, if_neg (fun hq => h4 hq.2), Nat.add_zero]
        simp -failIfUnchanged (disch := first | assumption | omega | (refine room_i _ _ ?_ ?_ <;> omega) | (refine @_root_.id _ ?_; with_unfolding_all exact Eq.refl _) | (simp only [List.length_take, List.length_drop, List.length_append, List.length_cons, List.length_nil, List.length_replicate, List.length_map] <;> omega) | fail) only [rnL, opL, ruL, hpL, rsL, natL, outL, Nat.add_sub_cancel_left, Nat.mul_one, List.length_cons, List.length_nil, Nat.zero_add, Nat.add_zero, Nat.reduceAdd, Nat.reduceMul, Nat.reduceSub, Nat.reduceEqDiff, Nat.reduceLT, Nat.reduceLeDiff, litd_t, litd_f, decide_true, decide_false, Bool.not_true, Bool.not_false, not_true_eq_false, not_false_eq_true, true_and, and_true, false_and, and_false, true_or, or_true, false_or, or_false, Int.toNat_natCast, cond_true, cond_false, List.map_cons, List.map_nil, Option.map_some, Option.map_none, datL, lo1, lo3, lo5, lo6, hatG2, hsetG2, splice16, kind2, Nat.add_assoc]
        rw [← hg, e]
        exact .i hlt (by first | exact trivial | rfl) (by first | exact trivial | rfl) trivial
    · have e : come (h.take (i + 1)) = come (h.take i) := by rw [take_snoc _ i hlt, come_snoc, if_neg (fun hq => h3 hq.1), Nat.add_zero]
      simp -failIfUnchanged (disch := first | assumption | omega | (refine room_i _ _ ?_ ?_ <;> omega) | (refine @_root_.id _ ?_; with_unfolding_all exact Eq.refl _) | (simp only [List.length_take, List.length_drop, List.length_append, List.length_cons, List.length_nil, List.length_replicate, List.length_map] <;> omega) | fail) only [rnL, opL, ruL, hpL, rsL, natL, outL, Nat.add_sub_cancel_left, Nat.mul_one, List.length_cons, List.length_nil, Nat.zero_add, Nat.add_zero, Nat.reduceAdd, Nat.reduceMul, Nat.reduceSub, Nat.reduceEqDiff, Nat.reduceLT, Nat.reduceLeDiff, litd_t, litd_f, decide_true, decide_false, Bool.not_true, Bool.not_false, not_true_eq_false, not_false_eq_true, true_and, and_true, false_and, and_false, true_or, or_true, false_or, or_false, Int.toNat_natCast, cond_true, cond_false, List.map_cons, List.map_nil, Option.map_some, Option.map_none, datL, lo1, lo3, lo5, lo6, hatG2, hsetG2, splice16, kind2, Nat.add_assoc]
      rw [← hg, e]
      exact .i hlt (by first | exact trivial | rfl) (by first | exact trivial | rfl) trivial
  · have : i = h.length := by omega
    subst this
    simp -failIfUnchanged (disch := first | assumption | omega | (refine room_i _ _ ?_ ?_ <;> omega) | (refine @_root_.id _ ?_; with_unfolding_all exact Eq.refl _) | (simp only [List.length_take, List.length_drop, List.length_append, List.length_cons, List.length_nil, List.length_replicate, List.length_map] <;> omega) | fail) only [rnL, opL, ruL, hpL, rsL, natL, outL, Nat.add_sub_cancel_left, Nat.mul_one, List.length_cons, List.length_nil, Nat.zero_add, Nat.add_zero, Nat.reduceAdd, Nat.reduceMul, Nat.reduceSub, Nat.reduceEqDiff, Nat.reduceLT, Nat.reduceLeDiff, litd_t, litd_f, decide_true, decide_false, Bool.not_true, Bool.not_false, not_true_eq_false, not_false_eq_true, true_and, and_true, false_and, and_false, true_or, or_true, false_or, or_false, Int.toNat_natCast, cond_true, cond_false, List.map_cons, List.map_nil, Option.map_some, Option.map_none, datL, (sound_gives T (small_Small hT)).is]
    (first | refine RunB_i (fun h5 => ?_) (fun h5 => ?_) | refine RunG_i (fun h5 => ?_) (fun h5 => ?_) | refine RunB_ib (fun h5 => ?_) (fun h5 => ?_))
    · have hv : (visits T).2.2 = false := by simpa using h5
      simp -failIfUnchanged (disch := first | assumption | omega | (refine room_i _ _ ?_ ?_ <;> omega) | (refine @_root_.id _ ?_; with_unfolding_all exact Eq.refl _) | (simp only [List.length_take, List.length_drop, List.length_append, List.length_cons, List.length_nil, List.length_replicate, List.length_map] <;> omega) | fail) only [rnL, opL, ruL, hpL, rsL, natL, outL, Nat.add_sub_cancel_left, Nat.mul_one, List.length_cons, List.length_nil, Nat.zero_add, Nat.add_zero, Nat.reduceAdd, Nat.reduceMul, Nat.reduceSub, Nat.reduceEqDiff, Nat.reduceLT, Nat.reduceLeDiff, litd_t, litd_f, decide_true, decide_false, Bool.not_true, Bool.not_false, not_true_eq_false, not_false_eq_true, true_and, and_true, false_and, and_false, true_or, or_true, false_or, or_false, Int.toNat_natCast, cond_true, cond_false, List.map_cons, List.map_nil, Option.map_some, Option.map_none, datL]
      (refine Fin_g (.inr rfl) (by simp -failIfUnchanged (disch := first | assumption | omega | (refine room_i _ _ ?_ ?_ <;> omega) | (refine @_root_.id _ ?_; with_unfolding_all exact Eq.refl _) | (simp only [List.length_take, List.length_drop, List.length_append, List.length_cons, List.length_nil, List.length_replicate, List.length_map] <;> omega) | fail) only [rnL, opL, ruL, hpL, rsL, natL, outL, Nat.add_sub_cancel_left, Nat.mul_one, List.length_cons, List.length_nil, Nat.zero_add, Nat.add_zero, Nat.reduceAdd, Nat.reduceMul, Nat.reduceSub, Nat.reduceEqDiff, Nat.reduceLT, Nat.reduceLeDiff, litd_t, litd_f, decide_true, decide_false, Bool.not_true, Bool.not_false, not_true_eq_false, not_false_eq_true, true_and, and_true, false_and, and_false, true_or, or_true, false_or, or_false, Int.toNat_natCast, cond_true, cond_false, List.map_cons, List.map_nil, Option.map_some, Option.map_none]; rfl) ?_; simp -failIfUnchanged (disch := first | assumption | omega | (refine room_i _ _ ?_ ?_ <;> omega) | (refine @_root_.id _ ?_; with_unfolding_all exact Eq.refl _) | (simp only [List.length_take, List.length_drop, List.length_append, List.length_cons, List.length_nil, List.length_replicate, List.length_map] <;> omega) | fail) only [rnL, opL, ruL, hpL, rsL, natL, outL, Nat.add_sub_cancel_left, Nat.mul_one, List.length_cons, List.length_nil, Nat.zero_add, Nat.add_zero, Nat.reduceAdd, Nat.reduceMul, Nat.reduceSub, Nat.reduceEqDiff, Nat.reduceLT, Nat.reduceLeDiff, litd_t, litd_f, decide_true, decide_false, Bool.not_true, Bool.not_false, not_true_eq_false, not_false_eq_true, true_and, and_true, false_and, and_false, true_or, or_true, false_or, or_false, Int.toNat_natCast, cond_true, cond_false, List.map_cons, List.map_nil, Option.map_some, Option.map_none])
      rw [List.take_length]
      simp only [things, hv, Bool.false_eq_true, if_false, Nat.add_zero]
    · have hv : (visits T).2.2 = true := by simpa using h5
      simp -failIfUnchanged (disch := first | assumption | omega | (refine room_i _ _ ?_ ?_ <;> omega) | (refine @_root_.id _ ?_; with_unfolding_all exact Eq.refl _) | (simp only [List.length_take, List.length_drop, List.length_append, List.length_cons, List.length_nil, List.length_replicate, List.length_map] <;> omega) | fail) only [rnL, opL, ruL, hpL, rsL, natL, outL, Nat.add_sub_cancel_left, Nat.mul_one, List.length_cons, List.length_nil, Nat.zero_add, Nat.add_zero, Nat.reduceAdd, Nat.reduceMul, Nat.reduceSub, Nat.reduceEqDiff, Nat.reduceLT, Nat.reduceLeDiff, litd_t, litd_f, decide_true, decide_false, Bool.not_true, Bool.not_false, not_true_eq_false, not_false_eq_true, true_and, and_true, false_and, and_false, true_or, or_true, false_or, or_false, Int.toNat_natCast, cond_true, cond_false, List.map_cons, List.map_nil, Option.map_some, Option.map_none, datL, (all_gives T).is]
      rw [List.take_length]
      refine Run_rangeK (items := (visits T).1.map item2) rfl (all_iter T (small_Small hT)) ?_ (fun L i st => st = [.cells (Cel.enc T) :: .cells [.int .i64 (come h + part T i : Nat)] :: ((h.map fun d => AObj.cells (Cel.enc d)) ++ [.loop L])]) ?_ ?_ ?_
      · intro it hit
        obtain ⟨v, hv, rfl⟩ := List.mem_map.mp hit
        have h1 : down (.agg (Cel.enc v.r)) = some (.agg (Cel.enc v.r)) := by unfold down; rw [hfree_enc]; rfl
        have h3 : ∀ k m, down (.int k m) = some (.int k m) := fun _ _ => rfl
        simp only [item2, mapO, h1, h3]
      · intro L; rfl
      · rintro L hLs hLn hLe hLp hLa hLb i hi st rfl
        have hi2 : i < (visits T).1.length := by simpa using hi
        have hr := visits_range T _ (List.getElem_mem hi2)
        have hb1 : (nodeAt T (visits T).1[i].n).msgs.l.length ≤ 1000 := by have := (small_nok hT (visits T).1[i].n).2.2.1; omega
        have hb2 : cnt (nodeAt T (visits T).1[i].n).blocks.l ≤ 100000 := by have := wv_le hT (visits T).1[i]; unfold wv at this; omega
        have hb3 : part T i ≤ 100000000 := by
          have h1 := part_le hT i (by omega)
          have h2 := visits_len T
          have h3 := hT.1
          omega
        have hb4 : come h ≤ 100000 := by rw [List.take_length] at hc; omega
        have hcnt : CallpIs F 56 [sl (nodeAt T (visits T).1[i].n).blocks.nil (nodeAt T (visits T).1[i].n).blocks.l] (.int .i64 (cnt (nodeAt T (visits T).1[i].n).blocks.l : Nat)) := by
          obtain ⟨_, _, _, h2, h3⟩ := small_nok hT (visits T).1[i].n
          exact (count_gives _ _ (by omega) (fun x hx => by have := h3 x hx; omega)).isp (by rw [hfrees_cons, sl_free]; rfl) rfl
        rw [List.getElem_map]
        refine .inl ⟨_, Rets.yieldI (L := L) ?_ (by rw [hLp]; rfl) ?_, rfl⟩
        · simp -failIfUnchanged (disch := first | assumption | omega | (refine room_i _ _ ?_ ?_ <;> omega) | (refine @_root_.id _ ?_; with_unfolding_all exact Eq.refl _) | (simp only [List.length_take, List.length_drop, List.length_append, List.length_cons, List.length_nil, List.length_replicate, List.length_map] <;> omega) | fail) only [rnL, opL, ruL, hpL, rsL, natL, outL, Nat.add_sub_cancel_left, Nat.mul_one, List.length_cons, List.length_nil, Nat.zero_add, Nat.add_zero, Nat.reduceAdd, Nat.reduceMul, Nat.reduceSub, Nat.reduceEqDiff, Nat.reduceLT, Nat.reduceLeDiff, litd_t, litd_f, decide_true, decide_false, Bool.not_true, Bool.not_false, not_true_eq_false, not_false_eq_true, true_and, and_true, false_and, and_false, true_or, or_true, false_or, or_false, Int.toNat_natCast, cond_true, cond_false, List.map_cons, List.map_nil, Option.map_some, Option.map_none, lo1, lo3, lo5, lo6, Nat.add_assoc, hatG2]
        · rw [hLa, hLe, hLp, hLb]
          simp only [item2, Env.sets]
          simp -failIfUnchanged (disch := first | assumption | omega | (refine room_i _ _ ?_ ?_ <;> omega) | (refine @_root_.id _ ?_; with_unfolding_all exact Eq.refl _) | (simp only [List.length_take, List.length_drop, List.length_append, List.length_cons, List.length_nil, List.length_replicate, List.length_map] <;> omega) | fail) only [rnL, opL, ruL, hpL, rsL, natL, outL, Nat.add_sub_cancel_left, Nat.mul_one, List.length_cons, List.length_nil, Nat.zero_add, Nat.add_zero, Nat.reduceAdd, Nat.reduceMul, Nat.reduceSub, Nat.reduceEqDiff, Nat.reduceLT, Nat.reduceLeDiff, litd_t, litd_f, decide_true, decide_false, Bool.not_true, Bool.not_false, not_true_eq_false, not_false_eq_true, true_and, and_true, false_and, and_false, true_or, or_true, false_or, or_false, Int.toNat_natCast, cond_true, cond_false, List.map_cons, List.map_nil, Option.map_some, Option.map_none, lo1, lo3, lo5, lo6, Nat.add_assoc, hatG2, hsetG2]
          refine RndA_i (L1 := L) ?_ hLs ?_
          · simp -failIfUnchanged (disch := first | assumption | omega | (refine room_i _ _ ?_ ?_ <;> omega) | (refine @_root_.id _ ?_; with_unfolding_all exact Eq.refl _) | (simp only [List.length_take, List.length_drop, List.length_append, List.length_cons, List.length_nil, List.length_replicate, List.length_map] <;> omega) | fail) only [rnL, opL, ruL, hpL, rsL, natL, outL, Nat.add_sub_cancel_left, Nat.mul_one, List.length_cons, List.length_nil, Nat.zero_add, Nat.add_zero, Nat.reduceAdd, Nat.reduceMul, Nat.reduceSub, Nat.reduceEqDiff, Nat.reduceLT, Nat.reduceLeDiff, litd_t, litd_f, decide_true, decide_false, Bool.not_true, Bool.not_false, not_true_eq_false, not_false_eq_true, true_and, and_true, false_and, and_false, true_or, or_true, false_or, or_false, Int.toNat_natCast, cond_true, cond_false, List.map_cons, List.map_nil, Option.map_some, Option.map_none, lo1, lo3, lo5, lo6, Nat.add_assoc, hatG2, hsetG2]
          have e1 : T.nodes.l[(visits T).1[i].n.toNat] = nodeAt T (visits T).1[i].n := nodeAt_get hr.1 hr.2
          simp -failIfUnchanged (disch := first | assumption | omega | (refine room_i _ _ ?_ ?_ <;> omega) | (refine @_root_.id _ ?_; with_unfolding_all exact Eq.refl _) | (simp only [List.length_take, List.length_drop, List.length_append, List.length_cons, List.length_nil, List.length_replicate, List.length_map] <;> omega) | fail) only [rnL, opL, ruL, hpL, rsL, natL, outL, Nat.add_sub_cancel_left, Nat.mul_one, List.length_cons, List.length_nil, Nat.zero_add, Nat.add_zero, Nat.reduceAdd, Nat.reduceMul, Nat.reduceSub, Nat.reduceEqDiff, Nat.reduceLT, Nat.reduceLeDiff, litd_t, litd_f, decide_true, decide_false, Bool.not_true, Bool.not_false, not_true_eq_false, not_false_eq_true, true_and, and_true, false_and, and_false, true_or, or_true, false_or, or_false, Int.toNat_natCast, cond_true, cond_false, List.map_cons, List.map_nil, Option.map_some, Option.map_none, datL, lo1, lo3, lo5, lo6, Nat.add_assoc, hatG2, hsetG2, e1, hcnt]
          have hLL : (⟨.ready, none, L.env, L.params, L.assign, L.body⟩ : ILoop) = L := by cases L; simp only at hLs hLn; subst hLs hLn; rfl
          have e2 : ((come h + part T (i + 1) : Nat) : Int) = ((come h + part T i : Nat) : Int) + (1 + ((nodeAt T (visits T).1[i].n).msgs.l.length : Int) + (cnt (nodeAt T (visits T).1[i].n).blocks.l : Int)) := by
            rw [part_succ T i hi2]; unfold wv; omega
          refine RndE_t (L2 := { L with state := .busy }) ?_ ?_
          · simp -failIfUnchanged (disch := first | assumption | omega | (refine room_i _ _ ?_ ?_ <;> omega) | (refine @_root_.id _ ?_; with_unfolding_all exact Eq.refl _) | (simp only [List.length_take, List.length_drop, List.length_append, List.length_cons, List.length_nil, List.length_replicate, List.length_map] <;> omega) | fail) only [rnL, opL, ruL, hpL, rsL, natL, outL, Nat.add_sub_cancel_left, Nat.mul_one, List.length_cons, List.length_nil, Nat.zero_add, Nat.add_zero, Nat.reduceAdd, Nat.reduceMul, Nat.reduceSub, Nat.reduceEqDiff, Nat.reduceLT, Nat.reduceLeDiff, litd_t, litd_f, decide_true, decide_false, Bool.not_true, Bool.not_false, not_true_eq_false, not_false_eq_true, true_and, and_true, false_and, and_false, true_or, or_true, false_or, or_false, Int.toNat_natCast, cond_true, cond_false, List.map_cons, List.map_nil, Option.map_some, Option.map_none, lo1, lo3, lo5, lo6, Nat.add_assoc, hatG2, hsetG2]
          · simp -failIfUnchanged (disch := first | assumption | omega | (refine room_i _ _ ?_ ?_ <;> omega) | (refine @_root_.id _ ?_; with_unfolding_all exact Eq.refl _) | (simp only [List.length_take, List.length_drop, List.length_append, List.length_cons, List.length_nil, List.length_replicate, List.length_map] <;> omega) | fail) only [rnL, opL, ruL, hpL, rsL, natL, outL, Nat.add_sub_cancel_left, Nat.mul_one, List.length_cons, List.length_nil, Nat.zero_add, Nat.add_zero, Nat.reduceAdd, Nat.reduceMul, Nat.reduceSub, Nat.reduceEqDiff, Nat.reduceLT, Nat.reduceLeDiff, litd_t, litd_f, decide_true, decide_false, Bool.not_true, Bool.not_false, not_true_eq_false, not_false_eq_true, true_and, and_true, false_and, and_false, true_or, or_true, false_or, or_false, Int.toNat_natCast, cond_true, cond_false, List.map_cons, List.map_nil, Option.map_some, Option.map_none, lo1, lo3, lo5, lo6, Nat.add_assoc, hatG2, hsetG2]
            rw [hLL, e2]
      · rintro L hLs hLn st rfl
        refine AfterR_i (L := L) ?_ (by rw [hLs]; intro h; cases h) ?_
        · simp -failIfUnchanged (disch := first | assumption | omega | (refine room_i _ _ ?_ ?_ <;> omega) | (refine @_root_.id _ ?_; with_unfolding_all exact Eq.refl _) | (simp only [List.length_take, List.length_drop, List.length_append, List.length_cons, List.length_nil, List.length_replicate, List.length_map] <;> omega) | fail) only [rnL, opL, ruL, hpL, rsL, natL, outL, Nat.add_sub_cancel_left, Nat.mul_one, List.length_cons, List.length_nil, Nat.zero_add, Nat.add_zero, Nat.reduceAdd, Nat.reduceMul, Nat.reduceSub, Nat.reduceEqDiff, Nat.reduceLT, Nat.reduceLeDiff, litd_t, litd_f, decide_true, decide_false, Bool.not_true, Bool.not_false, not_true_eq_false, not_false_eq_true, true_and, and_true, false_and, and_false, true_or, or_true, false_or, or_false, Int.toNat_natCast, cond_true, cond_false, List.map_cons, List.map_nil, Option.map_some, Option.map_none, lo1, lo3, lo5, lo6, Nat.add_assoc, hatG2]
        · rw [hLn, List.length_map]
          simp only [Option.getD]
          simp -failIfUnchanged (disch := first | assumption | omega | (refine room_i _ _ ?_ ?_ <;> omega) | (refine @_root_.id _ ?_; with_unfolding_all exact Eq.refl _) | (simp only [List.length_take, List.length_drop, List.length_append, List.length_cons, List.length_nil, List.length_replicate, List.length_map] <;> omega) | fail) only [rnL, opL, ruL, hpL, rsL, natL, outL, Nat.add_sub_cancel_left, Nat.mul_one, List.length_cons, List.length_nil, Nat.zero_add, Nat.add_zero, Nat.reduceAdd, Nat.reduceMul, Nat.reduceSub, Nat.reduceEqDiff, Nat.reduceLT, Nat.reduceLeDiff, litd_t, litd_f, decide_true, decide_false, Bool.not_true, Bool.not_false, not_true_eq_false, not_false_eq_true, true_and, and_true, false_and, and_false, true_or, or_true, false_or, or_false, Int.toNat_natCast, cond_true, cond_false, List.map_cons, List.map_nil, Option.map_some, Option.map_none, lo1, lo3, lo5, lo6, Nat.add_assoc, hatG2, hsetG2]
          (refine Fin_g (.inr rfl) (by simp -failIfUnchanged (disch := first | assumption | omega | (refine room_i _ _ ?_ ?_ <;> omega) | (refine @_root_.id _ ?_; with_unfolding_all exact Eq.refl _) | (simp only [List.length_take, List.length_drop, List.length_append, List.length_cons, List.length_nil, List.length_replicate, List.length_map] <;> omega) | fail) only [rnL, opL, ruL, hpL, rsL, natL, outL, Nat.add_sub_cancel_left, Nat.mul_one, List.length_cons, List.length_nil, Nat.zero_add, Nat.add_zero, Nat.reduceAdd, Nat.reduceMul, Nat.reduceSub, Nat.reduceEqDiff, Nat.reduceLT, Nat.reduceLeDiff, litd_t, litd_f, decide_true, decide_false, Bool.not_true, Bool.not_false, not_true_eq_false, not_false_eq_true, true_and, and_true, false_and, and_false, true_or, or_true, false_or, or_false, Int.toNat_natCast, cond_true, cond_false, List.map_cons, List.map_nil, Option.map_some, Option.map_none]; rfl) ?_; simp -failIfUnchanged (disch := first | assumption | omega | (refine room_i _ _ ?_ ?_ <;> omega) | (refine @_root_.id _ ?_; with_unfolding_all exact Eq.refl _) | (simp only [List.length_take, List.length_drop, List.length_append, List.length_cons, List.length_nil, List.length_replicate, List.length_map] <;> omega) | fail) only [rnL, opL, ruL, hpL, rsL, natL, outL, Nat.add_sub_cancel_left, Nat.mul_one, List.length_cons, List.length_nil, Nat.zero_add, Nat.add_zero, Nat.reduceAdd, Nat.reduceMul, Nat.reduceSub, Nat.reduceEqDiff, Nat.reduceLT, Nat.reduceLeDiff, litd_t, litd_f, decide_true, decide_false, Bool.not_true, Bool.not_false, not_true_eq_false, not_false_eq_true, true_and, and_true, false_and, and_false, true_or, or_true, false_or, or_false, Int.toNat_natCast, cond_true, cond_false, List.map_cons, List.map_nil, Option.map_some, Option.map_none])
          simp only [things, hv, if_true]
end Go.AS.Th

namespace Go.AS.Th
open Go Go.AS Go.Proofs
set_option maxHeartbeats 2000000
set_option maxRecDepth 8000
def wn (T : Tr) (n : Int) : Nat := 1 + (nodeAt T n).msgs.l.length + cnt (nodeAt T n).blocks.l
def partS (T : Tr) (i : Nat) : Nat := (((allS T).1.take i).map fun x => wn T x.n).sum
theorem partS_succ (T : Tr) (i : Nat) (h : i < (allS T).1.length) : partS T (i + 1) = partS T i + wn T (allS T).1[i].n := by
  unfold partS; rw [take_snoc _ i h, List.map_append, List.sum_append]; rfl
theorem partS_eq (T : Tr) (h : (visits T).2.2 = true) (i : Nat) : partS T i = part T i := by
  have h1 := all_list T h
  have e1 : partS T i = ((((allS T).1.map pr).take i).map fun q => wn T q.1).sum := by rw [← List.map_take, List.map_map]; rfl
  have e2 : part T i = ((((visits T).1.map pv).take i).map fun q => wn T q.1).sum := by rw [← List.map_take, List.map_map]; rfl
  rw [e1, e2, h1]
theorem allS_len (T : Tr) (h : (visits T).2.2 = true) : (allS T).1.length = (visits T).1.length := by
  have := congrArg List.length (all_list T h); simpa using this
theorem allS_range (T : Tr) (h : (visits T).2.2 = true) : ∀ x ∈ (allS T).1, 1 ≤ x.n ∧ x.n.toNat < T.nodes.l.length := by
  intro x hx
  have h1 : pr x ∈ (visits T).1.map pv := by rw [← all_list T h]; exact List.mem_map_of_mem hx
  obtain ⟨v, hv, e⟩ := List.mem_map.mp h1
  have := visits_range T v hv
  have e2 : v.n = x.n := congrArg Prod.fst e
  rwa [e2] at this
def gS (T : Tr) (i : Nat) : Heap := ((allS T).1.take i).map fun x => .cells (Cel.enc (nodeAt T x.n))
theorem thingsR_gives (T : Tr) (nl : Bool) (h : List Don) (hT : small T) (hh : few h) : Gives F 33 [.agg (Cel.enc T), sl nl h] (.int .i64 (things T h : Nat)) := by
  refine Gives.of fn_r32_Things rfl rfl (args' := [.agg (Cel.enc T), sl nl h]) (by simp only [mapO_nil, mapO_c2, consO_some, upf_v]) ?_
  simp only [ir_r32_Things]
  have hl := hh.1
  have hS := small_Small hT
  simp -failIfUnchanged (disch := first | assumption | omega | (refine room_i _ _ ?_ ?_ <;> omega) | (refine @_root_.id _ ?_; with_unfolding_all exact Eq.refl _) | (simp only [List.length_take, List.length_drop, List.length_append, List.length_cons, List.length_nil, List.length_replicate, List.length_map] <;> omega) | fail) only [rnL, opL, ruL, hpL, rsL, natL, outL, Nat.add_sub_cancel_left, Nat.mul_one, List.length_cons, List.length_nil, Nat.zero_add, Nat.add_zero, Nat.reduceAdd, Nat.reduceMul, Nat.reduceSub, Nat.reduceEqDiff, Nat.reduceLT, Nat.reduceLeDiff, litd_t, litd_f, decide_true, decide_false, Bool.not_true, Bool.not_false, not_true_eq_false, not_false_eq_true, true_and, and_true, false_and, and_false, true_or, or_true, false_or, or_false, Int.toNat_natCast, cond_true, cond_false, List.map_cons, List.map_nil, Option.map_some, Option.map_none, datL]
  refine Run_upto h.length (fun i => [(0, .agg (Cel.enc T)), (1, sl nl h), (2, .ptr 0 1 0), (4, .int .i64 0), (5, .int .i64 (come (h.take i) : Nat)), (6, AV.int IntKind.i64 (i : Nat))]) (fun i => [[.cells (Cel.enc T)]]) (fun i => True) rfl rfl trivial ?_
  intro i hi _
  have hc : come (h.take i) ≤ i * 20 := by
    have := come_le (l := h.take i) (m := 20) fun x hx => (hh.2 x (List.mem_of_mem_take hx)).1
    rw [List.length_take, Nat.min_eq_left hi] at this
    exact this
  simp -failIfUnchanged (disch := first | assumption | omega | (refine room_i _ _ ?_ ?_ <;> omega) | (refine @_root_.id _ ?_; with_unfolding_all exact Eq.refl _) | (simp only [List.length_take, List.length_drop, List.length_append, List.length_cons, List.length_nil, List.length_replicate, List.length_map] <;> omega) | fail) only [rnL, opL, ruL, hpL, rsL, natL, outL, Nat.add_sub_cancel_left, Nat.mul_one, List.length_cons, List.length_nil, Nat.zero_add, Nat.add_zero, Nat.reduceAdd, Nat.reduceMul, Nat.reduceSub, Nat.reduceEqDiff, Nat.reduceLT, Nat.reduceLeDiff, litd_t, litd_f, decide_true, decide_false, Bool.not_true, Bool.not_false, not_true_eq_false, not_false_eq_true, true_and, and_true, false_and, and_false, true_or, or_true, false_or, or_false, Int.toNat_natCast, cond_true, cond_false, List.map_cons, List.map_nil, Option.map_some, Option.map_none]
  (first | refine RunB_i (fun h2 => ?_) (fun h2 => ?_) | refine RunG_i (fun h2 => ?_) (fun h2 => ?_) | refine RunB_ib (fun h2 => ?_) (fun h2 => ?_))
  · have hlt : i < h.length := by omega
    simp -failIfUnchanged (disch := first | assumption | omega | (refine room_i _ _ ?_ ?_ <;> omega) | (refine @_root_.id _ ?_; with_unfolding_all exact Eq.refl _) | (simp only [List.length_take, List.length_drop, List.length_append, List.length_cons, List.length_nil, List.length_replicate, List.length_map] <;> omega) | fail) only [rnL, opL, ruL, hpL, rsL, natL, outL, Nat.add_sub_cancel_left, Nat.mul_one, List.length_cons, List.length_nil, Nat.zero_add, Nat.add_zero, Nat.reduceAdd, Nat.reduceMul, Nat.reduceSub, Nat.reduceEqDiff, Nat.reduceLT, Nat.reduceLeDiff, litd_t, litd_f, decide_true, decide_false, Bool.not_true, Bool.not_false, not_true_eq_false, not_false_eq_true, true_and, and_true, false_and, and_false, true_or, or_true, false_or, or_false, Int.toNat_natCast, cond_true, cond_false, List.map_cons, List.map_nil, Option.map_some, Option.map_none, datL, kind2, opV_faddr2]
    have hb := (hh.2 h[i] (List.getElem_mem hlt)).1
    by_cases h3 : h[i].back = 0
    · by_cases h4 : h[i].op.kind = 2
      · have e : come (h.take (i + 1)) = come (h.take i) + h[i].op.batch.l.length := by rw [take_snoc _ i hlt, come_snoc, if_pos ⟨h3, h4⟩]
        simp -failIfUnchanged (disch := first | assumption | omega | (refine room_i _ _ ?_ ?_ <;> omega) | (refine @_root_.id _ ?_; with_unfolding_all exact Eq.refl _) | (simp only [List.length_take, List.length_drop, List.length_append, List.length_cons, List.length_nil, List.length_replicate, List.length_map] <;> omega) | fail) only [rnL, opL, ruL, hpL, rsL, natL, outL, Nat.add_sub_cancel_left, Nat.mul_one, List.length_cons, List.length_nil, Nat.zero_add, Nat.add_zero, Nat.reduceAdd, Nat.reduceMul, Nat.reduceSub, Nat.reduceEqDiff, Nat.reduceLT, Nat.reduceLeDiff, litd_t, litd_f, decide_true, decide_false, Bool.not_true, Bool.not_false, not_true_eq_false, not_false_eq_true, true_and, and_true, false_and, and_false, true_or, or_true, false_or, or_false, Int.toNat_natCast, cond_true, cond_false, List.map_cons, List.map_nil, Option.map_some, Option.map_none, datL, kind2, opV_faddr2, h3, h4]
        rw [e]
        exact .i hlt (by first | exact trivial | rfl) (by first | exact trivial | rfl) trivial
      · have e : come (h.take (i + 1)) = come (h.take i) := by rw [take_snoc _ i hlt, come_snoc, if_neg (fun hq => h4 hq.2), Nat.add_zero]
        simp -failIfUnchanged (disch := first | assumption | omega | (refine room_i _ _ ?_ ?_ <;> omega) | (refine @_root_.id _ ?_; with_unfolding_all exact Eq.refl _) | (simp only [List.length_take, List.length_drop, List.length_append, List.length_cons, List.length_nil, List.length_replicate, List.length_map] <;> omega) | fail) only [rnL, opL, ruL, hpL, rsL, natL, outL, Nat.add_sub_cancel_left, Nat.mul_one, List.length_cons, List.length_nil, Nat.zero_add, Nat.add_zero, Nat.reduceAdd, Nat.reduceMul, Nat.reduceSub, Nat.reduceEqDiff, Nat.reduceLT, Nat.reduceLeDiff, litd_t, litd_f, decide_true, decide_false, Bool.not_true, Bool.not_false, not_true_eq_false, not_false_eq_true, true_and, and_true, false_and, and_false, true_or, or_true, false_or, or_false, Int.toNat_natCast, cond_true, cond_false, List.map_cons, List.map_nil, Option.map_some, Option.map_none, datL, kind2, opV_faddr2, h3, h4]
        rw [e]
        exact .i hlt (by first | exact trivial | rfl) (by first | exact trivial | rfl) trivial
    · have e : come (h.take (i + 1)) = come (h.take i) := by rw [take_snoc _ i hlt, come_snoc, if_neg (fun hq => h3 hq.1), Nat.add_zero]
      simp -failIfUnchanged (disch := first | assumption | omega | (refine room_i _ _ ?_ ?_ <;> omega) | (refine @_root_.id _ ?_; with_unfolding_all exact Eq.refl _) | (simp only [List.length_take, List.length_drop, List.length_append, List.length_cons, List.length_nil, List.length_replicate, List.length_map] <;> omega) | fail) only [rnL, opL, ruL, hpL, rsL, natL, outL, Nat.add_sub_cancel_left, Nat.mul_one, List.length_cons, List.length_nil, Nat.zero_add, Nat.add_zero, Nat.reduceAdd, Nat.reduceMul, Nat.reduceSub, Nat.reduceEqDiff, Nat.reduceLT, Nat.reduceLeDiff, litd_t, litd_f, decide_true, decide_false, Bool.not_true, Bool.not_false, not_true_eq_false, not_false_eq_true, true_and, and_true, false_and, and_false, true_or, or_true, false_or, or_false, Int.toNat_natCast, cond_true, cond_false, List.map_cons, List.map_nil, Option.map_some, Option.map_none, datL, kind2, opV_faddr2, h3]
      rw [e]
      exact .i hlt (by first | exact trivial | rfl) (by first | exact trivial | rfl) trivial
  · have : i = h.length := by omega
    subst this
    rw [List.take_length] at hc ⊢
    have hlen0 : (allS T).2 = true → (allS T).1.length ≤ 40 := fun h => by
      have h1 := all_ok T; rw [h] at h1
      have := allS_len T h1.symm; have := visits_len T; have := hT.1; omega
    simp -failIfUnchanged (disch := first | assumption | omega | (refine room_i _ _ ?_ ?_ <;> omega) | (refine @_root_.id _ ?_; with_unfolding_all exact Eq.refl _) | (simp only [List.length_take, List.length_drop, List.length_append, List.length_cons, List.length_nil, List.length_replicate, List.length_map] <;> omega) | fail) only [rnL, opL, ruL, hpL, rsL, natL, outL, Nat.add_sub_cancel_left, Nat.mul_one, List.length_cons, List.length_nil, Nat.zero_add, Nat.add_zero, Nat.reduceAdd, Nat.reduceMul, Nat.reduceSub, Nat.reduceEqDiff, Nat.reduceLT, Nat.reduceLeDiff, litd_t, litd_f, decide_true, decide_false, Bool.not_true, Bool.not_false, not_true_eq_false, not_false_eq_true, true_and, and_true, false_and, and_false, true_or, or_true, false_or, or_false, Int.toNat_natCast, cond_true, cond_false, List.map_cons, List.map_nil, Option.map_some, Option.map_none, datL, (allRef_gives T hS).is]
    cases hok : (allS T).2 with
    | false =>
      have hv : (visits T).2.2 = false := by rw [← all_ok]; exact hok
      refine Run_upto 0 (fun i => [(0, .agg (Cel.enc T)), (1, sl nl h), (2, .ptr 0 1 0), (4, .int .i64 0), (5, .int .i64 (come h : Nat)), (6, AV.int IntKind.i64 h.length), (7, sl false (allS T).1), (8, .bool false), (9, .int .i64 0)]) (fun _ => [[.cells (Cel.enc T)]]) (fun _ => True) rfl rfl trivial ?_
      intro i hi _
      simp -failIfUnchanged (disch := first | assumption | omega | (refine room_i _ _ ?_ ?_ <;> omega) | (refine @_root_.id _ ?_; with_unfolding_all exact Eq.refl _) | (simp only [List.length_take, List.length_drop, List.length_append, List.length_cons, List.length_nil, List.length_replicate, List.length_map] <;> omega) | fail) only [rnL, opL, ruL, hpL, rsL, natL, outL, Nat.add_sub_cancel_left, Nat.mul_one, List.length_cons, List.length_nil, Nat.zero_add, Nat.add_zero, Nat.reduceAdd, Nat.reduceMul, Nat.reduceSub, Nat.reduceEqDiff, Nat.reduceLT, Nat.reduceLeDiff, litd_t, litd_f, decide_true, decide_false, Bool.not_true, Bool.not_false, not_true_eq_false, not_false_eq_true, true_and, and_true, false_and, and_false, true_or, or_true, false_or, or_false, Int.toNat_natCast, cond_true, cond_false, List.map_cons, List.map_nil, Option.map_some, Option.map_none, datL]
      (refine Fin_g (.inr rfl) (by simp -failIfUnchanged (disch := first | assumption | omega | (refine room_i _ _ ?_ ?_ <;> omega) | (refine @_root_.id _ ?_; with_unfolding_all exact Eq.refl _) | (simp only [List.length_take, List.length_drop, List.length_append, List.length_cons, List.length_nil, List.length_replicate, List.length_map] <;> omega) | fail) only [rnL, opL, ruL, hpL, rsL, natL, outL, Nat.add_sub_cancel_left, Nat.mul_one, List.length_cons, List.length_nil, Nat.zero_add, Nat.add_zero, Nat.reduceAdd, Nat.reduceMul, Nat.reduceSub, Nat.reduceEqDiff, Nat.reduceLT, Nat.reduceLeDiff, litd_t, litd_f, decide_true, decide_false, Bool.not_true, Bool.not_false, not_true_eq_false, not_false_eq_true, true_and, and_true, false_and, and_false, true_or, or_true, false_or, or_false, Int.toNat_natCast, cond_true, cond_false, List.map_cons, List.map_nil, Option.map_some, Option.map_none]; rfl) ?_; simp -failIfUnchanged (disch := first | assumption | omega | (refine room_i _ _ ?_ ?_ <;> omega) | (refine @_root_.id _ ?_; with_unfolding_all exact Eq.refl _) | (simp only [List.length_take, List.length_drop, List.length_append, List.length_cons, List.length_nil, List.length_replicate, List.length_map] <;> omega) | fail) only [rnL, opL, ruL, hpL, rsL, natL, outL, Nat.add_sub_cancel_left, Nat.mul_one, List.length_cons, List.length_nil, Nat.zero_add, Nat.add_zero, Nat.reduceAdd, Nat.reduceMul, Nat.reduceSub, Nat.reduceEqDiff, Nat.reduceLT, Nat.reduceLeDiff, litd_t, litd_f, decide_true, decide_false, Bool.not_true, Bool.not_false, not_true_eq_false, not_false_eq_true, true_and, and_true, false_and, and_false, true_or, or_true, false_or, or_false, Int.toNat_natCast, cond_true, cond_false, List.map_cons, List.map_nil, Option.map_some, Option.map_none])
      simp only [things, hv, Bool.false_eq_true, if_false, Nat.add_zero]
    | true =>
      have hv : (visits T).2.2 = true := by rw [← all_ok]; exact hok
      have hlen := hlen0 hok
      refine Run_upto (allS T).1.length (fun i => [(0, .agg (Cel.enc T)), (1, sl nl h), (2, .ptr 0 1 0), (4, .int .i64 0), (5, .int .i64 (come h + partS T i : Nat)), (6, AV.int IntKind.i64 h.length), (7, sl false (allS T).1), (8, .bool true), (9, .int .i64 (i : Nat))]) (fun i => [.cells (Cel.enc T) :: gS T i]) (fun _ => True) rfl rfl trivial ?_
      intro i hi _
      simp -failIfUnchanged (disch := first | assumption | omega | (refine room_i _ _ ?_ ?_ <;> omega) | (refine @_root_.id _ ?_; with_unfolding_all exact Eq.refl _) | (simp only [List.length_take, List.length_drop, List.length_append, List.length_cons, List.length_nil, List.length_replicate, List.length_map] <;> omega) | fail) only [rnL, opL, ruL, hpL, rsL, natL, outL, Nat.add_sub_cancel_left, Nat.mul_one, List.length_cons, List.length_nil, Nat.zero_add, Nat.add_zero, Nat.reduceAdd, Nat.reduceMul, Nat.reduceSub, Nat.reduceEqDiff, Nat.reduceLT, Nat.reduceLeDiff, litd_t, litd_f, decide_true, decide_false, Bool.not_true, Bool.not_false, not_true_eq_false, not_false_eq_true, true_and, and_true, false_and, and_false, true_or, or_true, false_or, or_false, Int.toNat_natCast, cond_true, cond_false, List.map_cons, List.map_nil, Option.map_some, Option.map_none, datL]
      (first | refine RunB_i (fun h4 => ?_) (fun h4 => ?_) | refine RunG_i (fun h4 => ?_) (fun h4 => ?_) | refine RunB_ib (fun h4 => ?_) (fun h4 => ?_))
      · have hi2 : i < (allS T).1.length := by omega
        have hr := allS_range T hv _ (List.getElem_mem hi2)
        have e1 : T.nodes.l[(allS T).1[i].n.toNat] = nodeAt T (allS T).1[i].n := nodeAt_get hr.1 hr.2
        have hn := small_nok hT (allS T).1[i].n
        have hb1 : (nodeAt T (allS T).1[i].n).msgs.l.length ≤ 40 := hn.2.2.1
        have hb2 : cnt (nodeAt T (allS T).1[i].n).blocks.l ≤ 400 := by
          have := cnt_le (m := 20) hn.2.2.2.2
          have := hn.2.2.2.1
          omega
        have hb3 : partS T i ≤ 40 * 441 := by
          have h5 := allS_len T hv
          rw [partS_eq T hv]
          have := part_le hT i (by omega)
          omega
        have hent : CallpIs F 53 [sl (nodeAt T (allS T).1[i].n).blocks.nil (nodeAt T (allS T).1[i].n).blocks.l] (sl false (ents (nodeAt T (allS T).1[i].n).blocks.l)) := by
          have h6 := hn.2.2.2
          exact (entries_gives _ _ (by omega) (fun x hx => by have := h6.2 x hx; omega)).isp (by rw [hfrees_cons, sl_free]; rfl) (sl_free _ _)
        have hsn : ∀ (l : List Sn) (i : Nat) (h : i < l.length), one none (Cel.enc l[i]) 0 = some (.int .i64 l[i].n) := fun _ _ _ => rfl
        have e3 := ents_len (nodeAt T (allS T).1[i].n).blocks.l
        simp -failIfUnchanged (disch := first | assumption | omega | (refine room_i _ _ ?_ ?_ <;> omega) | (refine @_root_.id _ ?_; with_unfolding_all exact Eq.refl _) | (simp only [List.length_take, List.length_drop, List.length_append, List.length_cons, List.length_nil, List.length_replicate, List.length_map] <;> omega) | fail) only [rnL, opL, ruL, hpL, rsL, natL, outL, Nat.add_sub_cancel_left, Nat.mul_one, List.length_cons, List.length_nil, Nat.zero_add, Nat.add_zero, Nat.reduceAdd, Nat.reduceMul, Nat.reduceSub, Nat.reduceEqDiff, Nat.reduceLT, Nat.reduceLeDiff, litd_t, litd_f, decide_true, decide_false, Bool.not_true, Bool.not_false, not_true_eq_false, not_false_eq_true, true_and, and_true, false_and, and_false, true_or, or_true, false_or, or_false, Int.toNat_natCast, cond_true, cond_false, List.map_cons, List.map_nil, Option.map_some, Option.map_none, datL, lo1, lo3, lo5, lo6, Nat.add_assoc, hatG1, hsetG1, e1, encSn0, splice5, hent]
        have hg : gS T (i + 1) = gS T i ++ [.cells (Cel.enc (nodeAt T (allS T).1[i].n))] := by
          unfold gS
          rw [take_snoc _ i hi2, List.map_append]; rfl
        rw [hg, partS_succ T i hi2]
        refine .i hi2 ?_ rfl trivial
        simp only [wn, e3, Nat.add_assoc]
      · have : i = (allS T).1.length := by omega
        subst this
        simp -failIfUnchanged (disch := first | assumption | omega | (refine room_i _ _ ?_ ?_ <;> omega) | (refine @_root_.id _ ?_; with_unfolding_all exact Eq.refl _) | (simp only [List.length_take, List.length_drop, List.length_append, List.length_cons, List.length_nil, List.length_replicate, List.length_map] <;> omega) | fail) only [rnL, opL, ruL, hpL, rsL, natL, outL, Nat.add_sub_cancel_left, Nat.mul_one, List.length_cons, List.length_nil, Nat.zero_add, Nat.add_zero, Nat.reduceAdd, Nat.reduceMul, Nat.reduceSub, Nat.reduceEqDiff, Nat.reduceLT, Nat.reduceLeDiff, litd_t, litd_f, decide_true, decide_false, Bool.not_true, Bool.not_false, not_true_eq_false, not_false_eq_true, true_and, and_true, false_and, and_false, true_or, or_true, false_or, or_false, Int.toNat_natCast, cond_true, cond_false, List.map_cons, List.map_nil, Option.map_some, Option.map_none, datL]
        (refine Fin_g (.inr rfl) (by simp -failIfUnchanged (disch := first | assumption | omega | (refine room_i _ _ ?_ ?_ <;> omega) | (refine @_root_.id _ ?_; with_unfolding_all exact Eq.refl _) | (simp only [List.length_take, List.length_drop, List.length_append, List.length_cons, List.length_nil, List.length_replicate, List.length_map] <;> omega) | fail) only [rnL, opL, ruL, hpL, rsL, natL, outL, Nat.add_sub_cancel_left, Nat.mul_one, List.length_cons, List.length_nil, Nat.zero_add, Nat.add_zero, Nat.reduceAdd, Nat.reduceMul, Nat.reduceSub, Nat.reduceEqDiff, Nat.reduceLT, Nat.reduceLeDiff, litd_t, litd_f, decide_true, decide_false, Bool.not_true, Bool.not_false, not_true_eq_false, not_false_eq_true, true_and, and_true, false_and, and_false, true_or, or_true, false_or, or_false, Int.toNat_natCast, cond_true, cond_false, List.map_cons, List.map_nil, Option.map_some, Option.map_none]; rfl) ?_; simp -failIfUnchanged (disch := first | assumption | omega | (refine room_i _ _ ?_ ?_ <;> omega) | (refine @_root_.id _ ?_; with_unfolding_all exact Eq.refl _) | (simp only [List.length_take, List.length_drop, List.length_append, List.length_cons, List.length_nil, List.length_replicate, List.length_map] <;> omega) | fail) only [rnL, opL, ruL, hpL, rsL, natL, outL, Nat.add_sub_cancel_left, Nat.mul_one, List.length_cons, List.length_nil, Nat.zero_add, Nat.add_zero, Nat.reduceAdd, Nat.reduceMul, Nat.reduceSub, Nat.reduceEqDiff, Nat.reduceLT, Nat.reduceLeDiff, litd_t, litd_f, decide_true, decide_false, Bool.not_true, Bool.not_false, not_true_eq_false, not_false_eq_true, true_and, and_true, false_and, and_false, true_or, or_true, false_or, or_false, Int.toNat_natCast, cond_true, cond_false, List.map_cons, List.map_nil, Option.map_some, Option.map_none])
        simp only [things, hv, if_true]
        rw [partS_eq T hv, allS_len T hv]
end Go.AS.Th
