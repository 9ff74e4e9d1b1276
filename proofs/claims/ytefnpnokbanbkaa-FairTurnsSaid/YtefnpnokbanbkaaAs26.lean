/-
  Functions, run in a memory. By an AI agent.
-/
import Derived.Test.YtefnpnokbanbkaaAs25
set_option linter.all false
namespace Go.AS
open Go
set_option maxHeartbeats 1000000

section
variable {P : Program} {an : Ann}

/-- The marks are taken. -/
theorem leaves_marks {f : Func} {tmps : Array Value} {R : Ending → World → Prop} {u : FrameMode} (hu : u ≠ .run) {S : Stack} {L : Nat} {g : G} {w : World} : ∀ (bs : List Nat) {g' : G} {w' : World}, Rel P g' S w' → Le L g g' w w' → bs.Nodup → (∀ b ∈ bs, g'.B b ∧ w.heap.size ≤ b) →
    (∀ B' w'', Rel P { g' with B := B' } S w'' → Le L g { g' with B := B' } w w'' → LeavesIn Fence.wide 0 P f tmps R [] u w'') →
    LeavesInM Fence.wide 0 P f tmps R (bs.map fun b => { target := .collected b, args := #[] }) u w'
  | [], g', w', hr, hl, _, _, hfin => hfin g'.B w' hr hl
  | b :: bs, g', w', hr, hl, hnd, hB, hfin => by
    obtain ⟨hb1, hb2⟩ := hB b (by simp)
    have hbm := hr.bm b hb1
    have hblt := (Array.getElem?_eq_some_iff.1 hbm).1
    have hother : ∀ x, x ≠ b → (w'.putObj b (.deferred none)).heap[x]? = w'.heap[x]? := fun x hx => World.putObj_heap_other hx
    have hr2 : Rel P { g' with B := fun x => g'.B x ∧ x ≠ b } S (w'.putObj b (.deferred none)) := by
      refine ⟨RelS.frame (fun _ _ h => h) hr.rs fun x l id hx _ => ⟨hx, hother x fun h => (hr.ow x _ hx).2 (h ▸ hb1)⟩, fun x o hx => ?_, fun x y hx => ⟨by simpa using (hr.ow x y hx).1, fun h => (hr.ow x y hx).2 h.1⟩, fun x hx => (hother x hx.2).trans (hr.bm x hx.1), hr.lv⟩
      obtain ⟨k1, k2, k3⟩ := hr.im x o hx
      exact ⟨(hother x fun h => k3 (h ▸ hb1)).trans k1, k2, fun h => k3 h.1⟩
    have hl2 : Le L g { g' with B := fun x => g'.B x ∧ x ≠ b } w (w'.putObj b (.deferred none)) :=
      ⟨hl.os, hl.tape, hl.output, by simpa using hl.size, hl.ms, hl.im, hl.oO, hl.oI, fun x hx => ⟨fun h => (hl.oB x hx).1 h.1, fun h => ⟨(hl.oB x hx).2 h, by omega⟩⟩, fun x hx ho => (hother x (by omega)).trans (hl.frame x hx ho)⟩
    obtain ⟨hn1, hn2⟩ := List.nodup_cons.1 hnd
    refine ⟨hu, .inl ⟨b, _, rfl, run_takeDeferred hbm, leaves_marks hu bs hr2 hl2 hn2 (fun x hx => ⟨⟨(hB x (by simp [hx])).1, fun h => hn1 (h ▸ hx)⟩, (hB x (by simp [hx])).2⟩) fun B' w'' h1 h2 => hfin B' w'' h1 h2⟩⟩

theorem ofArgs_get : ∀ (args : List AV) (i j : Nat), Env.get (Env.ofArgs i args) j = if i ≤ j then (args[j - i]?).getD .undef else .undef
  | [], i, j => by simp [Env.ofArgs, Env.get]
  | v :: r, i, j => by
    simp only [Env.ofArgs, Env.get]
    by_cases h : j = i
    · subst h; rw [nbeq_self]; simp
    · rw [nbeq_false h]
      simp only [cond_false]
      rw [ofArgs_get r (i + 1) j]
      by_cases h2 : i + 1 ≤ j
      · rw [if_pos h2, if_pos (by omega), show j - i = (j - (i + 1)) + 1 from by omega]; simp
      · rw [if_neg h2, if_neg (by omega)]

theorem envR_args {I : IMap} {Ms : List MMap} {args : List AV} {xs : List Value} (h : RVs I args Ms false xs) (n : Nat) : EnvR I Ms n (Env.ofArgs 0 args) (xs.toArray ++ Array.replicate (n - xs.toArray.size) undef) := by
  refine ⟨by simp; omega, fun i => ?_⟩
  rw [ofArgs_get]
  simp only [Nat.zero_le, if_true, Nat.sub_zero]
  cases hv : args[i]? with
  | none => exact trivial
  | some v =>
    obtain ⟨x, h1, h2, _⟩ := h.get hv
    have hlt := (List.getElem?_eq_some_iff.1 h1).1
    rw [Array.getD_eq_getD_getElem?, Array.getElem?_append_left (by simpa using hlt)]
    simp only [List.getElem?_toArray, h1, Option.getD_some]
    exact h2

theorem cF_body {i : Nat} {f : Func} {fn : IFun} (h : cF P an i f = some fn) : ∃ c, f.body = some c ∧ special f = false ∧ cC P an i f.ntmps (usesR f.results.toList ++ usesC c ++ (defsC c).map (· + defMark)) false c = some fn.body ∧ mapO (cRes P f.ntmps) f.results.toList = some fn.results ∧ fn.nargs = f.params.size + f.nfree := by
  unfold cF at h
  split at h
  · cases h
  · rename_i c hb
    cases hs : special f with
    | true => rw [hs] at h; cases h
    | false =>
      rw [hs, Bool.cond_eq_ite] at h
      split at h
      · cases h
      · split at h
        · rename_i b rs h1 h2
          cases h
          exact ⟨c, hb, rfl, h1, h2, rfl⟩
        · cases h

/-- A FUNCTION, run in the memory that it is handed. -/
theorem runF_sim {call : CallT} (hcall : CallSim P call) (hmo : P.follows .mixedOrders = true) {k i : Nat} {f : Func} {fn : IFun} (hf : P.funcs[i]? = some f) (hc : cF P an i f = some fn) {args : List AV} {S S' : Stack} {r : CR} (hS : S ≠ [])
    (h : runF k call fn args S = some (r, S')) {g : G} {w : World} {xs : List Value} (hr : Rel P g S w) (ha : RVs g.I args g.Ms false xs) :
    CallsIn Fence.wide 0 P i xs.toArray w fun en w' => ∃ g', Rel P g' S' w' ∧ Le S.length g g' w w' ∧ EndR g'.I g'.Ms r en := by
  obtain ⟨c, hb, _, hcc, hrs, _⟩ := cF_body hc
  unfold runF at h
  rw [Bool.cond_eq_ite] at h
  split at h
  · cases h
  · have hm0 : Marks g.B g.B ([] : List Deferred) := ⟨fun _ h => h, [], rfl, List.nodup_nil, fun _ h => by cases h⟩
    refine callsIn_of_wp_marks hf hb trivial ?_
    have hmarks : ∀ {g' : G} {w' : World} {ds : List Deferred}, Le S.length g g' w w' → Rel P g' S' w' → Marks g.B g'.B ds → ∃ bs : List Nat, ds = bs.map (fun b => { target := .collected b, args := #[] }) ∧ bs.Nodup ∧ ∀ b ∈ bs, g'.B b ∧ w.heap.size ≤ b := by
      rintro g' w' ds hl _ ⟨_, bs, q1, q2, q3⟩
      refine ⟨bs, q1, q2, fun b hb => ⟨(q3 b hb).1, ?_⟩⟩
      rcases Nat.lt_or_ge b w.heap.size with hlt | hge
      · exact absurd ((hl.oB b hlt).1 (q3 b hb).1) (q3 b hb).2
      · exact hge
    split at h
    · cases h
    · cases h
    · rename_i v e1 S1 hev
      cases h
      refine wpIn_mono (evC_sim hcall hmo c (.inl rfl) (fun _ => rfl) hcc (a := { tmps := xs.toArray ++ Array.replicate (f.ntmps - xs.toArray.size) undef, defers := [] }) (envR_args ha f.ntmps) hr hm0 hS hev) ?_
      rintro ex a1 w1 ⟨g1, k1, k2, k3, k4, k5⟩
      cases ex with
      | panic ch =>
        obtain ⟨x, rfl, k6⟩ := k5
        obtain ⟨bs, q1, q2, q3⟩ := hmarks k2 k1 k4
        simp only [bodyPostM]
        rw [q1]
        exact leaves_marks (by simp) bs k1 k2 q2 q3 fun B' w'' h1 h2 => ⟨_, h1, h2, x, rfl, k6⟩
      | normal => exact k5.elim
      | exit => exact k5.elim
      | goto => exact k5.elim
      | ret => exact k5.elim
      | outgrown => exact k5.elim
    · rename_i x e1 S1 hne hnp hev
      simp only [Option.map_eq_some_iff, Prod.mk.injEq] at h
      obtain ⟨v, h1, rfl, rfl⟩ := h
      refine wpIn_mono (evC_sim hcall hmo c (.inl rfl) (fun _ => rfl) hcc (a := { tmps := xs.toArray ++ Array.replicate (f.ntmps - xs.toArray.size) undef, defers := [] }) (envR_args ha f.ntmps) hr hm0 hS hev) ?_
      rintro ex a1 w1 ⟨g1, k1, k2, k3, k4, k5⟩
      obtain ⟨bs, q1, q2, q3⟩ := hmarks k2 k1 k4
      have hfin : LeavesInM Fence.wide 0 P f a1.tmps (fun en w' => ∃ g', Rel P g' S1 w' ∧ Le S.length g g' w w' ∧ EndR g'.I g'.Ms (.ret v) en) a1.defers .returning w1 := by
        rw [q1]
        refine leaves_marks (by simp) bs k1 k2 q2 q3 fun B' w'' j1 j2 => ?_
        obtain ⟨y, y1, y2⟩ := results_sim (g := { g1 with B := B' }) hrs k3 j1 h1
        exact ⟨y, y1, _, j1, j2, y2⟩
      cases ex with
      | normal => exact hfin
      | ret => exact hfin
      | exit =>
        cases x with
        | exit => exact (hne _ rfl).elim
        | normal => exact k5.elim
        | ret => exact k5.elim
        | panic => exact k5.elim
      | goto => cases x <;> exact k5.elim
      | panic =>
        cases x with
        | panic => exact (hnp _ rfl).elim
        | normal => exact k5.elim
        | ret => exact k5.elim
        | exit => exact k5.elim
      | outgrown => cases x <;> exact k5.elim
end
end Go.AS
