/-
  What leaves a level whose memory is given up. By an AI agent.
-/
import Derived.Test.YtefnpnokbanbkaaAs26
set_option linter.all false
namespace Go.AS
open Go
set_option maxHeartbeats 1000000

section
variable {P : Program} {an : Ann}

/-- A level is given up. -/
theorem Rel.leave {g0 g : G} {S0 S : Stack} {H : Heap} {w0 w : World} (hr0 : Rel P g0 S0 w0) (hl : Le (S0.length + 1) { g0 with Ms := (fun _ _ => none) :: g0.Ms } g w0 w) (hr : Rel P g (H :: S) w) :
    ∃ g', Rel P g' S w ∧ Le S0.length g0 g' w0 w ∧ ∀ {v v' : AV} {x : Value}, RV g.I v g.Ms x → AS.leave H v = some v' → RV g'.I v' g'.Ms x := by
  obtain ⟨N, Ns, hN, _, hN2⟩ := hl.ms.cons_inv
  have hrs := hr.rs
  rw [hN] at hrs
  obtain ⟨h1, h2, h3⟩ := hrs
  have hlen : S.length = S0.length := by
    have a1 := RelS.length h3
    have a2 := RelS.length hr0.rs
    have a3 := hN2.length
    omega
  let I' : IMap := fun b => match g.O b with
    | some (l, _) => if l = S.length then w.heap[b]? else g.I b
    | none => g.I b
  let O' : Nat → Option (Nat × Nat) := fun b => match g.O b with
    | some (l, id) => if l = S.length then none else some (l, id)
    | none => none
  have hInone : ∀ b o, g.I b = some o → g.O b = none := fun b o hb => (hr.im b o hb).2.1
  have hII : ∀ b o, g.I b = some o → I' b = some o := fun b o hb => by
    show (match g.O b with | some (l, _) => if l = S.length then w.heap[b]? else g.I b | none => g.I b) = some o
    rw [hInone b o hb]; exact hb
  have hOO : ∀ b l id, l ≠ S.length → g.O b = some (l, id) → O' b = some (l, id) := fun b l id hne hb => by
    show (match g.O b with | some (l, id) => if l = S.length then none else some (l, id) | none => none) = some (l, id)
    rw [hb]; simp only [if_neg hne]
  have hOin : ∀ b x, O' b = some x → g.O b = some x ∧ x.1 ≠ S.length := fun b x hb => by
    have hb' : (match g.O b with | some (l, id) => if l = S.length then none else some (l, id) | none => none) = some x := hb
    cases hO : g.O b with
    | none => rw [hO] at hb'; cases hb'
    | some y =>
      obtain ⟨l, id⟩ := y
      rw [hO] at hb'
      by_cases hls : l = S.length
      · simp only [if_pos hls] at hb'; cases hb'
      · simp only [if_neg hls] at hb'; cases hb'; exact ⟨rfl, hls⟩
  have hold : ∀ b, b < w0.heap.size → (O' b = g0.O b ∧ I' b = g0.I b) := fun b hb => by
    have q1 := hl.oO b hb
    have q2 := hl.oI b hb
    have q1' : g.O b = g0.O b := q1
    have q2' : g.I b = g0.I b := q2
    cases hO : g0.O b with
    | none =>
      constructor
      · show (match g.O b with | some (l, id) => if l = S.length then none else some (l, id) | none => none) = none
        rw [q1', hO]
      · show (match g.O b with | some (l, _) => if l = S.length then w.heap[b]? else g.I b | none => g.I b) = g0.I b
        rw [q1', hO]; exact q2'
    | some y =>
      obtain ⟨l, id⟩ := y
      have hlt := hr0.lv b l id hO
      constructor
      · show (match g.O b with | some (l, id) => if l = S.length then none else some (l, id) | none => none) = some (l, id)
        rw [q1', hO]; simp only [if_neg (show ¬ l = S.length by omega)]
      · show (match g.O b with | some (l, _) => if l = S.length then w.heap[b]? else g.I b | none => g.I b) = g0.I b
        rw [q1', hO]; simp only [if_neg (show ¬ l = S.length by omega)]; exact q2'
  refine ⟨{ Ms := Ns, I := I', O := O', B := g.B }, ⟨RelS.frame hII h3 fun b l id hb hlt => ⟨hOO b l id (by omega) hb, rfl⟩, fun b o hb => ?_, fun b x hb => hr.ow b x (hOin b x hb).1, hr.bm, fun b l id hb => ?_⟩,
    ⟨hl.os, hl.tape, hl.output, hl.size, hN2, fun b o hb => hII b o (hl.im b o hb), fun b hb => (hold b hb).1, fun b hb => (hold b hb).2, hl.oB, fun b hb ho => hl.frame b hb fun l id hO => ?_⟩, ?_⟩
  · have hb' : (match g.O b with | some (l, _) => if l = S.length then w.heap[b]? else g.I b | none => g.I b) = some o := hb
    cases hO : g.O b with
    | none =>
      rw [hO] at hb'
      obtain ⟨k1, k2, k3⟩ := hr.im b o hb'
      refine ⟨k1, ?_, k3⟩
      show (match g.O b with | some (l, id) => if l = S.length then none else some (l, id) | none => none) = none
      rw [hO]
    | some y =>
      obtain ⟨l, id⟩ := y
      rw [hO] at hb'
      by_cases hls : l = S.length
      · simp only [if_pos hls] at hb'
        refine ⟨hb', ?_, (hr.ow b _ hO).2⟩
        show (match g.O b with | some (l, id) => if l = S.length then none else some (l, id) | none => none) = none
        rw [hO]; simp only [if_pos hls]
      · simp only [if_neg hls] at hb'
        have := hInone b o hb'
        rw [hO] at this
        cases this
  · obtain ⟨q1, q2⟩ := hOin b _ hb
    have := hr.lv b l id q1
    simp at this
    omega
  · have := hr0.lv b l id hO
    have := ho l id hO
    omega
  · intro v v' x hv hlv
    unfold AS.leave at hlv
    split at hlv
    · rename_i r' hfr
      rw [hN] at hv
      have := frz_RV (I' := I') (Ns := Ns) (H := H) hII (fun id cs hid => ?_) 1000 v r' x hfr hv
      · simp only [Option.map_eq_some_iff] at hlv
        obtain ⟨u, hlv, rfl⟩ := hlv
        exact RV.fg u (RV.down hlv this)
      · obtain ⟨blk, tot, c, e, j1, j2, j3, j4, j5, j6, _⟩ := hr.cells hN hid
        refine ⟨blk, tot, c, e, j1, ?_, j4, j5, hN ▸ j6⟩
        show (match g.O blk with | some (l, _) => if l = S.length then w.heap[blk]? else g.I blk | none => g.I blk) = _
        rw [j2]; simp only [if_true]; exact j3
    · cases hlv

/-- A CALL OF A FUNCTION of the program's. -/
theorem callFn_sim {call : CallT} (hcall : CallSim P call) (hmo : P.follows .mixedOrders = true) {k i : Nat} {f : Func} {fn : IFun} (hf : P.funcs[i]? = some f) (hc : cF P an i f = some fn) {args : List AV} {S S' : Stack} {r : CR} 
    (h : callFn k call fn args S = some (r, S')) {g : G} {w : World} {xs : List Value} (hr : Rel P g S w) (ha : RVs g.I args g.Ms false xs) :
    CallsIn Fence.wide 0 P i xs.toArray w fun en w' => ∃ g', Rel P g' S' w' ∧ Le S.length g g' w w' ∧ EndR g'.I g'.Ms r en := by
  unfold callFn at h
  split at h
  · rename_i hno
    cases S with
    | nil => cases h
    | cons H S => exact runF_sim hcall hmo hf hc (by simp) h hr ha
  · rename_i args' hargs
    have hmap : mapO upf args = some args' := by
      cases hsh : fn.shared with
      | true => rw [hsh] at hargs; cases hargs
      | false => rw [hsh] at hargs; exact hargs
    have hr1 : Rel P { g with Ms := (fun _ _ => none) :: g.Ms } ([] :: S) w :=
      ⟨⟨fun id o ho => by simp at ho, fun id lim p hp => (by cases hp), hr.rs⟩, hr.im, hr.ow, hr.bm, fun b l id hb => by have := hr.lv b l id hb; simp; omega⟩
    have ha1 : RVs g.I args' ((fun _ _ => none) :: g.Ms) false xs := RVs.mapO (fun v v' x e hx => RV.upf e hx) args hmap ha
    split at h
    · rename_i v H S1 hrun
      simp only [Option.map_eq_some_iff, Prod.mk.injEq] at h
      obtain ⟨v', hlv, rfl, rfl⟩ := h
      refine (runF_sim hcall hmo hf hc (by simp) hrun hr1 ha1).mono ?_
      rintro en w' ⟨g1, k1, k2, k3⟩
      obtain ⟨g', j1, j2, j3⟩ := Rel.leave hr k2 k1
      refine ⟨g', j1, j2, ?_⟩
      cases en with
      | returned y => exact j3 k3 hlv
      | panicked ch => exact k3.elim
      | outgrown => exact k3.elim
    · rename_i v H S1 hrun
      simp only [Option.map_eq_some_iff, Prod.mk.injEq] at h
      obtain ⟨v', hlv, rfl, rfl⟩ := h
      refine (runF_sim hcall hmo hf hc (by simp) hrun hr1 ha1).mono ?_
      rintro en w' ⟨g1, k1, k2, k3⟩
      obtain ⟨g', j1, j2, j3⟩ := Rel.leave hr k2 k1
      refine ⟨g', j1, j2, ?_⟩
      cases en with
      | returned y => exact k3.elim
      | panicked ch =>
        obtain ⟨y, rfl, k4⟩ := k3
        exact ⟨y, rfl, j3 k4 hlv⟩
      | outgrown => exact k3.elim
    · cases h
end
end Go.AS
