/-
  Calls. By an AI agent.
-/
import Derived.Test.YtefnpnokbanbkaaAs27
set_option linter.all false
namespace Go.AS
open Go
set_option maxHeartbeats 1000000

section
variable {P : Program} {an : Ann}

theorem DoesCall.mono {fv : Value} {xs : Array Value} {w : World} {R R' : Ending → World → Prop} (h : DoesCall P fv xs w R) (hR : ∀ e w, R e w → R' e w) : DoesCall P fv xs w R' := by
  obtain ⟨f, first, cap, e1, h⟩ := h
  refine ⟨f, first, cap, e1, h.imp ?_ ?_⟩
  · rintro ⟨k, args, h1, h2⟩
    exact ⟨k, args, h1, h2.mono hR⟩
  · rintro ⟨l0, l, k, tmps, asg, body, h0, h1, h2⟩
    exact ⟨l0, l, k, tmps, asg, body, h0, h1, h2.mono hR⟩

theorem sets_EnvR {I : IMap} {Ms : List MMap} {n : Nat} : ∀ {ps : List Nat} {args : List AV} {xs : List Value} {e : Env} {tmps : Array Value}, RVs I args Ms false xs → (∀ t ∈ ps, t < n) → EnvR I Ms n e tmps →
    EnvR I Ms n (Env.sets e ps args) ((ps.zip xs).foldl (fun tmps (p : Nat × Value) => tmps.setIfInBounds p.1 p.2) tmps)
  | [], _, _, _, _, _, _, he => by cases ‹List AV› <;> exact he
  | p :: ps, [], xs, e, tmps, ha, _, he => by rw [show xs = [] from ha]; exact he
  | p :: ps, v :: vs, xs, e, tmps, ha, hp, he => by
    obtain ⟨x, xs', rfl, h1, _, h2⟩ := ha
    simp only [Env.sets, List.zip_cons_cons, List.foldl_cons]
    have := EnvR.put (a := { tmps := tmps, defers := [] }) (d := some p) he h1 (fun i hi => by cases hi; exact hp p (by simp))
    exact sets_EnvR h2 (fun t ht => hp t (by simp [ht])) this

theorem Rel.setLoop {g : G} {H : Heap} {S : Stack} {w : World} {M : MMap} {Ms : List MMap} (hg : g.Ms = M :: Ms) (hr : Rel P g (H :: S) w) {l blk tot : Nat} {L : ILoop} (hL : H[l]? = some (.loop L)) (hM : M l 0 = some (blk, tot)) {r : Loop} (hb : w.heap[blk]? = some (.loop r))
    (L' : ILoop) (r' : Loop) (hLR : LoopR P g.I g.Ms L' r') : Rel P g (H.set l (.loop L') :: S) (w.putObj blk (.loop r')) ∧ Le (S.length + 1) g g w (w.putObj blk (.loop r')) := by
  have hrs := hr.rs
  rw [hg] at hrs
  have hO := (hrs.2.1 _ _ _ hM).2
  have hlt := (List.getElem?_eq_some_iff.1 hL).1
  have hblt := (Array.getElem?_eq_some_iff.1 hb).1
  have := Rel.change (w' := w.putObj blk (.loop r')) hg hr l (.loop L') (H.set l (.loop L')) M g.O rfl rfl rfl (by simp)
    (fun b hb hne => World.putObj_heap_other fun hbe => hne (by rw [hbe]; exact hO))
    (fun j hj => List.getElem?_set_ne (Ne.symm hj)) (by simp [hlt]) (by simp) (fun _ _ _ => rfl) (fun _ _ h => h) (fun lim p hp => (hrs.2.1 _ _ _ hp).2) (fun _ _ => rfl)
    (fun b hb x hx => by have := (hr.ow b x hx).1; omega) ⟨blk, tot, r', hM, hO, World.putObj_heap_same hblt, hg ▸ hLR⟩
  have hgg : { g with Ms := M :: Ms, O := g.O } = g := by rw [← hg]
  rw [hgg] at this
  exact this

theorem Rel.loopAt {g : G} {H : Heap} {S : Stack} {w : World} {M : MMap} {Ms : List MMap} (hg : g.Ms = M :: Ms) (hr : Rel P g (H :: S) w) {l : Nat} {L : ILoop} (hL : H[l]? = some (.loop L)) :
    ∃ blk tot r, M l 0 = some (blk, tot) ∧ w.heap[blk]? = some (.loop r) ∧ LoopR P g.I g.Ms L r := by
  have hrs := hr.rs
  rw [hg] at hrs
  obtain ⟨blk, tot, r, h1, _, h3, h4⟩ := hrs.1 _ _ hL
  exact ⟨blk, tot, r, h1, h3, hg ▸ h4⟩

/-- A ROUND. -/
theorem round_sim {call : CallT} (hcall : CallSim P call) (hmo : P.follows .mixedOrders = true) {k l : Nat} {args : List AV} {S S' : Stack} {r : CR} (h : round k call l args S = some (r, S')) {g : G} {w : World} {fi ca : List AV} {fv : Value} {xs : List Value} (hr : Rel P g S w)
    (hf : RV g.I (.func (.yield l) fi ca) g.Ms fv) (ha : RVs g.I args g.Ms false xs) :
    DoesCall P fv xs.toArray w fun en w' => ∃ g', Rel P g' S' w' ∧ Le S.length g g' w w' ∧ EndR g'.I g'.Ms r en := by
  obtain ⟨M, Ms, blk, tot, hMs, hM, rfl⟩ := hf
  unfold round at h
  split at h
  · cases h
  · rename_i H S0
    split at h
    · rename_i L hL
      cases hlen : Nat.beq args.length L.params.length with
      | false => rw [hlen] at h; cases h
      | true =>
        rw [hlen] at h
        have hlen := Nat.eq_of_beq_eq_true hlen
        simp only [Bool.not_true, cond_false] at h
        split at h
        · rename_i e1 H1 S1 hev1
          split at h
          · rename_i L1 hL1
            split at h
            · rename_i hst
              obtain ⟨blk', tot', r0, m1, p1, LR⟩ := hr.loopAt hMs hL
              cases hM.symm.trans m1
              obtain ⟨n, q1, ⟨an1, fn1, all1, q2⟩, ⟨an2, fn2, all2, q3⟩, q4⟩ := LR.env
              have hxs : xs.length = args.length := RVs.length _ ha
              have hpl : r0.params.toList.length = L.params.length := by rw [LR.params]
              refine ⟨.yield blk, #[], #[], rfl, .inr ⟨blk, blk, r0.fn, (r0.params.zip xs.toArray).foldl (fun tmps (t, a) => tmps.setIfInBounds t a) r0.tmps, r0.assign, r0.body, rfl, ?_, ?_⟩⟩
              · have hsz : (#[] ++ xs.toArray).size = r0.params.size := by
                  simp only [List.size_toArray, Array.empty_append]
                  rw [hxs, hlen, ← hpl, Array.length_toList]
                have := run_yield (P := P) p1 hsz
                simp only [Array.empty_append] at this ⊢
                simp only [invoke]
                exact this
              · have htm : (r0.params.zip xs.toArray).foldl (fun tmps (t, a) => tmps.setIfInBounds t a) r0.tmps = (L.params.zip xs).foldl (fun tmps (p : Nat × Value) => tmps.setIfInBounds p.1 p.2) r0.tmps := by
                  rw [← LR.params, ← Array.foldl_toList, Array.toList_zip]
                rw [htm]
                have he1 := sets_EnvR ha q4 q1
                have hm0 : Marks g.B g.B ([] : List Deferred) := ⟨fun _ h => h, [], rfl, List.nodup_nil, fun _ h => by cases h⟩
                refine roundIn_of_wpIn trivial ?_
                refine wpIn_mono (evC_sim hcall hmo r0.assign (F := Fence.wide.inRound blk) (.inr ⟨blk, rfl⟩) (nest := true) (fun h => by cases h) q2 (a := { tmps := _, defers := [] }) he1 hr hm0 (by simp) hev1) ?_
                rintro ex a1 w1 ⟨g1, k1, k2, k3, k4, k5⟩
                cases ex with
                | exit => exact k5.elim
                | goto => exact k5.elim
                | ret => exact k5.elim
                | panic => exact k5.elim
                | outgrown => exact k5.elim
                | normal =>
                  have hms := k2.ms
                  rw [hMs] at hms
                  obtain ⟨N, Ns, hN, hN1, _⟩ := hms.cons_inv
                  obtain ⟨blk', tot', r1, m1, p1, LR1⟩ := k1.loopAt hN hL1
                  cases (hN1 _ _ _ hM).symm.trans m1
                  have hr1 : r1.state = .ready := by
                    have := LR1.state
                    rw [hst] at this
                    cases hs : r1.state with
                    | ready => rfl
                    | busy => rw [hs] at this; exact this.elim
                    | done => rw [hs] at this; exact this.elim
                    | exhausted => rw [hs] at this; exact this.elim
                  obtain ⟨j1, j2⟩ := Rel.setLoop hN k1 hL1 m1 p1 { L1 with state := .busy } { r1 with state := .busy } ⟨trivial, LR1.pending, LR1.env, LR1.params⟩
                  refine ⟨_, run_beginRound p1 hr1, ?_⟩
                  have hlen1 : S1.length = S0.length := by
                    have := Rel.length_eq hr k1 k2
                    simpa using this
                  have hle1 : Le (H :: S0).length g g1 w (w1.putObj blk (.loop { r1 with state := .busy })) := k2.trans (by rw [hlen1] at j2; exact j2)
                  unfold endRound at h
                  split at h
                  · rename_i x e2 H2 S2 hev2
                    split at h
                    · rename_i L2 hL2
                      refine wpIn_mono (evC_sim hcall hmo r0.body (F := Fence.wide.inRound blk) (.inr ⟨blk, rfl⟩) (nest := true) (fun h => by cases h) q3 k3 j1 k4 (by simp) hev2) ?_
                      rintro ex a2 w2 ⟨g2, i1, i2, i3, i4, i5⟩
                      have hle2 : Le (H :: S0).length g g2 w w2 := hle1.trans (by
                        have : (H1.set l (.loop { L1 with state := .busy }) :: S1).length = (H :: S0).length := by simp [hlen1]
                        rw [this] at i2; exact i2)
                      have hms := hle2.ms
                      rw [hMs] at hms
                      obtain ⟨N2, Ns2, hN2, hN21, _⟩ := hms.cons_inv
                      obtain ⟨blk', tot', r2, m2, p2, LR2⟩ := i1.loopAt hN2 hL2
                      cases (hN21 _ _ _ hM).symm.trans m2
                      have hlen2 : S2.length = S0.length := by
                        have := Rel.length_eq hr i1 hle2
                        simpa using this
                      have hfin : ∀ (st : LS) (st' : LoopState) (pd : Option IX) (pd' : Option Code), LSR st st' → PendR pd pd' →
                          Rel P g2 (H2.set l (.loop { L2 with state := st, pending := pd }) :: S2) (w2.putObj blk (.loop { r2 with state := st', pending := pd' })) ∧ Le (H :: S0).length g g2 w (w2.putObj blk (.loop { r2 with state := st', pending := pd' })) := fun st st' pd pd' h1 h2 => by
                        obtain ⟨t1, t2⟩ := Rel.setLoop hN2 i1 hL2 m2 p2 { L2 with state := st, pending := pd } { r2 with state := st', pending := pd' } ⟨h1, h2, LR2.env, LR2.params⟩
                        exact ⟨t1, hle2.trans (by rw [hlen2] at t2; exact t2)⟩
                      cases x with
                      | panic v => cases h
                      | normal =>
                        cases h
                        cases ex with
                        | normal =>
                          obtain ⟨t1, t2⟩ := hfin .ready .ready none none trivial trivial
                          exact ⟨_, _, run_endRound none p2, g2, t1, t2, rfl⟩
                        | exit => exact i5.elim
                        | goto => exact i5.elim
                        | ret => exact i5.elim
                        | panic => exact i5.elim
                        | outgrown => exact i5.elim
                      | exit id =>
                        cases h
                        cases ex with
                        | exit id' =>
                          obtain ⟨t1, t2⟩ := hfin .done .done (some (.exit id)) (some (.exit id')) trivial i5
                          exact ⟨_, _, run_endRound (some (.exit id')) p2, g2, t1, t2, rfl⟩
                        | normal => exact i5.elim
                        | goto => exact i5.elim
                        | ret => exact i5.elim
                        | panic => exact i5.elim
                        | outgrown => exact i5.elim
                      | ret =>
                        cases h
                        cases ex with
                        | ret =>
                          obtain ⟨t1, t2⟩ := hfin .done .done (some .ret) (some .ret) trivial trivial
                          exact ⟨_, _, run_endRound (some .ret) p2, g2, t1, t2, rfl⟩
                        | normal => exact i5.elim
                        | goto => exact i5.elim
                        | exit => exact i5.elim
                        | panic => exact i5.elim
                        | outgrown => exact i5.elim
                    · cases h
                  · cases h
            · cases h
          · cases h
        · cases h
    · cases h
end
end Go.AS
