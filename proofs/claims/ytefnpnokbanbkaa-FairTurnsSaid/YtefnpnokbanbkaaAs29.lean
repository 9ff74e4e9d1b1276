/-
  Calls, whole. By an AI agent.
-/
import Derived.Test.YtefnpnokbanbkaaAs28
set_option linter.all false
namespace Go.AS
open Go
set_option maxHeartbeats 1000000

section
variable {P : Program} {an : Ann}

/-- A call of a function value of the level below. -/
theorem ext_sim {call : CallT} (hcall : CallSim P call) {v : AV} {args args' : List AV} {H : Heap} {S S'' : Stack} {r r' : CR} (hargs : mapO down args = some args') (h : call v args' S = some (r, S''))
    (hup : match r with | .ret x => ∃ y, up x = some y ∧ r' = .ret y | .pan x => ∃ y, up x = some y ∧ r' = .pan y) {g : G} {w : World} {fv : Value} {xs : List Value} (hr : Rel P g (H :: S) w)
    (hf : RV g.I (.ext v) g.Ms fv) (ha : RVs g.I args g.Ms false xs) :
    DoesCall P fv xs.toArray w fun en w' => ∃ g', Rel P g' (H :: S'') w' ∧ Le (S.length + 1) g g' w w' ∧ EndR g'.I g'.Ms r' en := by
  obtain ⟨M, Ms, hMs, hf⟩ := hf
  have hrs := hr.rs
  rw [hMs] at hrs ha
  obtain ⟨h1, h2, h3⟩ := hrs
  have ha' : RVs g.I args' Ms false xs := RVs.mapO (fun v v' x e hx => RV.down e hx) args hargs ha
  let O0 : Nat → Option (Nat × Nat) := fun b => match g.O b with
    | some (l, id) => if l = S.length then none else some (l, id)
    | none => none
  have hO0 : ∀ b x, O0 b = some x → g.O b = some x ∧ x.1 ≠ S.length := fun b x hb => by
    have hb' : (match g.O b with | some (l, id) => if l = S.length then none else some (l, id) | none => none) = some x := hb
    cases hO : g.O b with
    | none => rw [hO] at hb'; cases hb'
    | some y =>
      obtain ⟨l, id⟩ := y
      rw [hO] at hb'
      by_cases hls : l = S.length
      · simp only [if_pos hls] at hb'; cases hb'
      · simp only [if_neg hls] at hb'; cases hb'; exact ⟨rfl, hls⟩
  have hO1 : ∀ b l id, l ≠ S.length → g.O b = some (l, id) → O0 b = some (l, id) := fun b l id hne hb => by
    show (match g.O b with | some (l, id) => if l = S.length then none else some (l, id) | none => none) = some (l, id)
    rw [hb]; simp only [if_neg hne]
  have hO2 : ∀ b, g.O b = none → O0 b = none := fun b hb => by
    show (match g.O b with | some (l, id) => if l = S.length then none else some (l, id) | none => none) = none
    rw [hb]
  have hO3 : ∀ b id, g.O b = some (S.length, id) → O0 b = none := fun b id hb => by
    show (match g.O b with | some (l, id) => if l = S.length then none else some (l, id) | none => none) = none
    rw [hb]; simp
  have hr0 : Rel P { g with Ms := Ms, O := O0 } S w :=
    ⟨RelS.frame (fun _ _ h => h) h3 fun b l id hb hlt => ⟨hO1 b l id (by omega) hb, rfl⟩, fun b o hb => ⟨(hr.im b o hb).1, hO2 b (hr.im b o hb).2.1, (hr.im b o hb).2.2⟩, fun b x hb => hr.ow b x (hO0 b x hb).1, hr.bm, fun b l id hb => by
      obtain ⟨q1, q2⟩ := hO0 b _ hb
      have := hr.lv b l id q1
      simp at this q2
      omega⟩
  refine (hcall h hr0 hf ha').mono ?_
  rintro en w' ⟨g1, k1, k2, k3⟩
  have hlen : S''.length = S.length := Rel.length_eq hr0 k1 k2
  have hold : ∀ b x, g.O b = some x → b < w.heap.size := fun b x hb => (hr.ow b x hb).1
  have hms : MsLe (M :: Ms) (M :: g1.Ms) := ⟨fun _ _ _ h => h, k2.ms⟩
  let O' : Nat → Option (Nat × Nat) := fun b => if b < w.heap.size then g.O b else g1.O b
  have hO'o : ∀ b, b < w.heap.size → O' b = g.O b := fun b hb => if_pos hb
  have hO'n : ∀ b, w.heap.size ≤ b → O' b = g1.O b := fun b hb => if_neg (by omega)
  have hkeep : ∀ b id, g.O b = some (S.length, id) → w'.heap[b]? = w.heap[b]? := fun b id hb => k2.frame b (hold b _ hb) fun l j hj => by
    have : O0 b = some (l, j) := hj
    rw [hO3 b id hb] at this
    cases this
  refine ⟨{ Ms := M :: g1.Ms, I := g1.I, O := O', B := g1.B }, ⟨⟨fun id o ho => ?_, fun id lim p hp => ?_, ?_⟩, fun b o hb => ?_, fun b x hb => ?_, k1.bm, fun b l id hb => ?_⟩, ⟨k2.os, k2.tape, k2.output, k2.size, hMs ▸ hms, k2.im, hO'o, k2.oI, k2.oB, fun b hb ho => ?_⟩, ?_⟩
  · rw [hlen]
    refine (h1 id o ho).frame k2.im hms (fun _ => rfl) fun b hb => ⟨(hO'o b (hold b _ hb)).trans hb, hkeep b id hb⟩
  · rw [hlen]
    obtain ⟨q1, q2⟩ := h2 id lim p hp
    exact ⟨q1, (hO'o _ (hold _ _ q2)).trans q2⟩
  · refine RelS.frame (fun _ _ h => h) k1.rs fun b l id hb hlt => ⟨?_, rfl⟩
    rcases Nat.lt_or_ge b w.heap.size with hb2 | hb2
    · have := k2.oO b hb2
      have h0 : O0 b = some (l, id) := this.symm.trans hb
      exact (hO'o b hb2).trans (hO0 b _ h0).1
    · exact (hO'n b hb2).trans hb
  · obtain ⟨q1, q2, q3⟩ := k1.im b o hb
    refine ⟨q1, ?_, q3⟩
    rcases Nat.lt_or_ge b w.heap.size with hb2 | hb2
    · have : g.I b = some o := (k2.oI b hb2).symm.trans hb
      exact (hO'o b hb2).trans (hr.im b o this).2.1
    · exact (hO'n b hb2).trans q2
  · rcases Nat.lt_or_ge b w.heap.size with hb2 | hb2
    · have hb3 : g.O b = some x := (hO'o b hb2).symm.trans hb
      exact ⟨Nat.lt_of_lt_of_le hb2 k2.size, fun hB => (hr.ow b x hb3).2 ((k2.oB b hb2).1 hB)⟩
    · exact k1.ow b x ((hO'n b hb2).symm.trans hb)
  · rcases Nat.lt_or_ge b w.heap.size with hb2 | hb2
    · have := hr.lv b l id ((hO'o b hb2).symm.trans hb)
      simp at this ⊢
      omega
    · have := k1.lv b l id ((hO'n b hb2).symm.trans hb)
      simp
      omega
  · have hnone : g.O b = none := by
      cases hO : g.O b with
      | none => rfl
      | some x =>
        obtain ⟨l, id⟩ := x
        have a1 := hr.lv b l id hO
        have a2 := ho l id hO
        simp at a1
        omega
    refine k2.frame b hb fun l id hO => ?_
    have : O0 b = some (l, id) := hO
    rw [hO2 b hnone] at this
    cases this
  · cases r with
    | ret v0 =>
      obtain ⟨y, hy, rfl⟩ := hup
      cases en with
      | returned z => exact RV.up hy k3
      | panicked => exact k3.elim
      | outgrown => exact k3.elim
    | pan v0 =>
      obtain ⟨y, hy, rfl⟩ := hup
      cases en with
      | returned z => exact k3.elim
      | panicked ch =>
        obtain ⟨z, rfl, k4⟩ := k3
        exact ⟨z, rfl, RV.up hy k4⟩
      | outgrown => exact k3.elim

/-- A call that the evaluator makes, the model makes. -/
theorem callV_sim (hmo : P.follows .mixedOrders = true) (k : Nat) : CallSim P (callV (funsOf P an) k) := by
  induction k with
  | zero =>
    intro f args S S' r h
    simp [callV] at h
  | succ k ih =>
    intro f args S S' r h g w fv xs hr hf ha
    unfold callV at h
    split at h
    · rename_i gf fi ca
      split at h
      · rename_i fn hfn
        obtain ⟨xs1, ys1, rfl, q1, q2⟩ := hf
        simp only [funsOf, Option.bind_eq_some_iff] at hfn
        obtain ⟨f, hf, hcf⟩ := hfn
        obtain ⟨c, hb, hsp, _⟩ := cF_body hcf
        have hall : RVs g.I (fi ++ args ++ ca) g.Ms false (xs1.toList ++ xs ++ ys1.toList) := (q1.append ha).append q2
        have := callFn_sim ih hmo hf hcf h hr hall
        refine ⟨.func gf, xs1, ys1, rfl, .inl ⟨gf, (xs1.toList ++ xs ++ ys1.toList).toArray, ?_, this⟩⟩
        have he : (xs1.toList ++ xs ++ ys1.toList).toArray = xs1 ++ xs.toArray ++ ys1 := by apply Array.ext'; simp
        rw [he]
        have hname : ¬ f.name = "runtime.NumGoroutine" := by
          have : (f.name == "runtime.NumGoroutine") = false := hsp
          simpa using this
        simp [invoke, callFunc, hf, hname, hb]
      · cases h
    · rename_i l fi ca
      exact round_sim ih hmo h hr hf ha
    · rename_i v
      split at h
      · cases h
      · rename_i H S0
        split at h
        · cases h
        · rename_i args' hargs
          split at h
          · rename_i r0 S2 hcl
            simp only [Option.map_eq_some_iff, Prod.mk.injEq] at h
            obtain ⟨y, hy, rfl, rfl⟩ := h
            exact ext_sim ih hargs hcl ⟨y, hy, rfl⟩ hr hf ha
          · rename_i r0 S2 hcl
            simp only [Option.map_eq_some_iff, Prod.mk.injEq] at h
            obtain ⟨y, hy, rfl, rfl⟩ := h
            exact ext_sim ih hargs hcl ⟨y, hy, rfl⟩ hr hf ha
          · cases h
    · cases h

/-- WHAT THE EVALUATOR COMPUTES, THE MODEL COMPUTES: a call of function f, its arguments standing for 'args' in memory that stays as it is. -/
theorem calls_of (hmo : P.follows .mixedOrders = true) {k f : Nat} {args : List AV} {r : CR} (h : callV (funsOf P an) k (.func (.func f) [] []) args [] = some (r, [])) {w : World} {I : IMap} (hI : ∀ b o, I b = some o → w.heap[b]? = some o) {xs : List Value}
    (ha : RVs I args [] false xs) :
    Calls P f xs.toArray w fun en w' => ∃ I', w'.os = w.os ∧ w'.tape = w.tape ∧ w'.output = w.output ∧ w.heap.size ≤ w'.heap.size ∧ (∀ b, b < w.heap.size → w'.heap[b]? = w.heap[b]?) ∧ (∀ b o, I b = some o → I' b = some o) ∧ (∀ b o, I' b = some o → w'.heap[b]? = some o) ∧ EndR I' [] r en := by
  have hr : Rel P ⟨[], I, fun _ => none, fun _ => False⟩ [] w := ⟨trivial, fun b o hb => ⟨hI b o hb, rfl, id⟩, fun _ _ h => (by cases h), fun _ h => h.elim, fun _ _ _ h => (by cases h)⟩
  cases k with
  | zero => simp [callV] at h
  | succ k =>
    simp only [callV] at h
    split at h
    · rename_i fn hfn
      simp only [funsOf, Option.bind_eq_some_iff] at hfn
      obtain ⟨fu, hf, hcf⟩ := hfn
      simp only [List.nil_append, List.append_nil] at h
      refine callsIn_wide.1 ((callFn_sim (callV_sim hmo k) hmo hf hcf h hr ha).mono ?_)
      rintro en w' ⟨g', k1, k2, k3⟩
      have hms : g'.Ms = [] := by
        have := k2.ms
        cases hm : g'.Ms with
        | nil => rfl
        | cons M Ms => rw [hm] at this; exact this.elim
      exact ⟨g'.I, k2.os, k2.tape, k2.output, k2.size, fun b hb => k2.frame b hb fun _ _ h => (by cases h), k2.im, fun b o hb => (k1.im b o hb).1, hms ▸ k3⟩
    · cases h
end
end Go.AS
