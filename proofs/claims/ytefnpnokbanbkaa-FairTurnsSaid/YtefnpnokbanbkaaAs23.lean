/-
  Code, whole. By an AI agent.
-/
import Derived.Test.YtefnpnokbanbkaaAs22
set_option linter.all false
namespace Go.AS
open Go
set_option maxHeartbeats 1000000

theorem wpIn_loop_n {F : Fence} {n : Nat} {P : Program} {Q : Exit → Act → World → Prop} {c : Code} (I : Nat → Act → World → Prop)
    (round : ∀ j a w, I j a w → c.wpIn F n P (Exit.then (fun a' w' => ∃ i, i < j ∧ I i a' w') Q) a w) (m : Nat) {a : Act} {w : World} (h0 : I m a w) : (Code.loop c).wpIn F n P Q a w := by
  intro b k cs hro hb hr
  have key : ∀ j a w, I j a w → ∃ e a' w', Q e a' w' ∧ ArrivesIn (Machine.fenced P F) P (lone (b.atR a (.code c :: .inLoop c :: k)) cs w) b k cs e a' w' := by
    intro j
    induction j using Nat.strongRecOn with
    | _ j ih =>
      intro a w hI
      obtain ⟨e, a₁, w₁, hq, harr⟩ := round j a w hI b (.inLoop c :: k) cs hro hb hr
      cases e with
      | normal =>
        obtain ⟨i, hlt, hI₁⟩ := hq
        obtain ⟨e₂, a₂, w₂, hq₂, harr₂⟩ := ih i hlt a₁ w₁ hI₁
        exact ⟨e₂, a₂, w₂, hq₂, .of_steps (StepsIn.trans harr (.one (fenced_calm hb hr rfl) stepR_inLoop)) harr₂⟩
      | exit id => exact ⟨_, a₁, w₁, hq, .pass (x := .inLoop c) rfl (fun _ _ => .inl (by simp)) harr⟩
      | goto l => exact ⟨_, a₁, w₁, hq, .pass (x := .inLoop c) rfl (fun _ _ => .inl (by simp)) harr⟩
      | ret => exact ⟨_, a₁, w₁, hq, .pass (x := .inLoop c) rfl (fun _ _ => .inl (by simp)) harr⟩
      | panic ch => exact ⟨_, a₁, w₁, hq, .pass (x := .inLoop c) rfl (fun _ _ => .inl (by simp)) harr⟩
      | outgrown => exact ⟨_, a₁, w₁, hq, .pass (x := .inLoop c) rfl (fun _ _ => .inl (by simp)) harr⟩
  obtain ⟨e, a', w', hq, harr⟩ := key m a w h0
  exact ⟨e, a', w', hq, .of_steps (.one (fenced_calm hb hr rfl) stepR_loop) harr⟩

section
variable {P : Program} {an : Ann} {fn n : Nat} {B0 : Nat → Prop}

/-- A block for a range's deferred calls. -/
theorem Rel.mark {g : G} {S : Stack} {w : World} (h : Rel P g S w) :
    Rel P { g with B := fun b => g.B b ∨ b = w.heap.size } S (w.alloc (.deferred (some []))) ∧ Le S.length g { g with B := fun b => g.B b ∨ b = w.heap.size } w (w.alloc (.deferred (some []))) := by
  have hO : ∀ b x, g.O b = some x → b < w.heap.size := fun b x hb => (h.ow b x hb).1
  have hI : ∀ b o, g.I b = some o → b < w.heap.size := fun b o hb => (Array.getElem?_eq_some_iff.1 (h.im b o hb).1).1
  have hB : ∀ b, g.B b → b < w.heap.size := fun b hb => (Array.getElem?_eq_some_iff.1 (h.bm b hb)).1
  refine ⟨⟨RelS.frame (fun _ _ h => h) h.rs fun b l id hb _ => ⟨hb, heap_alloc_old _ _ _ (hO b _ hb)⟩, fun b o hb => ⟨(heap_alloc_old _ _ _ (hI b o hb)).trans (h.im b o hb).1, (h.im b o hb).2.1, fun hx => ?_⟩, fun b x hb => ⟨?_, fun hx => ?_⟩, fun b hb => ?_, h.lv⟩,
    ⟨rfl, rfl, rfl, by simp, .refl _, fun _ _ h => h, fun _ _ => rfl, fun _ _ => rfl, fun b hb => ⟨fun h => h.elim id fun e => by omega, .inl⟩, fun b hb _ => heap_alloc_old _ _ _ hb⟩⟩
  · rcases hx with hx | hx
    · exact (h.im b o hb).2.2 hx
    · have := hI b o hb; omega
  · have := hO b x hb; simp; omega
  · rcases hx with hx | hx
    · exact (h.ow b x hb).2 hx
    · have := hO b x hb; omega
  · rcases hb with hb | hb
    · exact (heap_alloc_old _ _ _ (hB b hb)).trans (h.bm b hb)
    · subst hb; exact heap_alloc_new w _

theorem run_resolve_range {a : Act} {g : Operand} {f : Fn} {first cap : Array Value} (hf : a.eval g = .func f first cap) (l : Nat) (w : World) :
    (resolve a.eval (rangeCall g l) 0).run P w = .ok { target := .fn f cap, args := first ++ #[Value.func (.yield l) #[] #[]] } w := by
  have hc : a.eval (.const (.func (.yield l) #[] #[])) = .func (.yield l) #[] #[] := rfl
  simp [resolve, hf, Deferred.ofValue, hc]

theorem RV_isFnF {I : IMap} : ∀ (v : AV) {Ms : List MMap} {x : Value}, isFnF v = true → RV I v Ms x → ∃ k xs ys, x = .func (.func k) xs ys
  | .func (.func f) fi ca, _, _, _, h => by obtain ⟨xs, ys, rfl, _⟩ := h; exact ⟨_, _, _, rfl⟩
  | .ext v, _, _, hf, h => by obtain ⟨_, _, _, h1⟩ := h; exact RV_isFnF v hf h1
  | .func (.yield _) _ _, _, _, hf, _ => by cases hf
  | .func (.method ..) _ _, _, _, hf, _ => by cases hf
  | .func (.methodOf ..) _ _, _, _, hf, _ => by cases hf
  | .func (.via ..) _ _, _, _, hf, _ => by cases hf
  | .undef, _, _, hf, _ | .bool _, _, _, hf, _ | .int _ _, _, _, hf, _ | .str _, _, _, hf, _ | .nilptr, _, _, hf, _ | .ptr .., _, _, hf, _ | .iptr .., _, _, hf, _ | .imm .., _, _, hf, _
  | .ref .., _, _, hf, _ | .nilmap, _, _, hf, _ | .map _, _, _, hf, _ | .nilFunc, _, _, hf, _ | .iface .., _, _, hf, _ | .nilIface, _, _, hf, _ | .agg _, _, _, hf, _ | .tuple _, _, _, hf, _ => by cases hf

/-- A range over a function. -/
theorem range_sim {call : CallT} (hcall : CallSim P call) {k : Nat} {all : List Nat} {gf : Operand} {ps : Array Tmp} {asg body : Code} {ir : IC} (hc : cC P an fn n all false (.rangeFunc gf ps asg body) = some ir)
    {e : Env} {a : Act} {g : G} {S : Stack} {w : World} (he : EnvR g.I g.Ms n e a.tmps) (hr : Rel P g S w) (hm : Marks B0 g.B a.defers) {x : IX} {e' : Env} {S' : Stack} (hev : evC k call ir e S = some (x, e', S')) :
    (Code.rangeFunc gf ps asg body).wpIn Fence.wide 0 P (PostC P n B0 g S w x e' S') a w := by
  simp only [cC, cond_false] at hc
  split at hc
  · rename_i go ia ib h1 h2 h3
    cases hps : ps.toList.all (Nat.blt · n) with
    | false => rw [hps] at hc; cases hc
    | true =>
      rw [hps] at hc
      simp only [cond_true, Option.some.injEq] at hc
      subst hc
      simp only [evC] at hev
      cases S with
      | nil => cases hev
      | cons H S0 =>
        simp only at hev
        cases hfn : isFnF (go.ev e) with
        | false => rw [hfn] at hev; cases hev
        | true =>
          rw [hfn] at hev
          simp only [Bool.not_true, cond_false] at hev
          split at hev
          · rename_i r0 H2 S2 hcl
            split at hev
            · rename_i L hL
              have hex : ∃ M Ms, g.Ms = M :: Ms := by
                have := hr.rs
                cases hMs : g.Ms with
                | nil => rw [hMs] at this; exact this.elim
                | cons M Ms => exact ⟨M, Ms, rfl⟩
              obtain ⟨M, Ms, hMs⟩ := hex
              obtain ⟨hr1, hl1⟩ := hr.mark
              refine wpIn_rangeFunc fun fid hfid => ?_
              have hpar : ∀ t ∈ ps.toList, t < n := fun t ht => by
                exact Nat.le_of_ble_eq_true (List.all_eq_true.1 hps t ht)
              obtain ⟨g2, hr2, hl2, M2, hM2, hid⟩ := Rel.alloc (g := { g with B := fun b => g.B b ∨ b = w.heap.size }) hMs hr1 (.loop ⟨.ready, none, e, ps.toList, ia, ib⟩)
                (.loop { state := .ready, pending := none, fn := fid, tmps := a.tmps, params := ps, assign := asg, body := body, defers := w.heap.size }) 0 0
                (fun O' M' hp' hle hm0 _ hO' hhp => ⟨_, 0, _, hm0, hO', hhp, ⟨trivial, trivial, ⟨n, ⟨he.1, fun i => RV.mono (fun _ _ h => h) _ (hMs ▸ hle) (he.2 i)⟩, ⟨an, fn, all, h2⟩, ⟨an, fn, all, h3⟩, hpar⟩, rfl⟩⟩)
              have hl02 := hl1.trans hl2
              have he2 := he.le hl02
              have hfv := cO_RV h1 he2
              obtain ⟨kf, first, cap, hfe⟩ := RV_isFnF _ hfn hfv
              have hsz : (w.alloc (.deferred (some []))).heap.size = w.heap.size + 1 := by simp
              rw [hsz] at hid
              have harg : RVs g2.I [.func (.yield H.length) [] []] g2.Ms false [.func (.yield (w.heap.size + 1)) #[] #[]] :=
                ⟨_, [], rfl, ⟨M2, Ms, _, _, hM2, hid, rfl⟩, (fun h => by cases h), rfl⟩
              obtain ⟨ff, first', cap', e1, e2⟩ := hcall hcl hr2 hfv harg
              rw [hfe] at e1
              cases e1
              generalize hw2 : ((w.alloc (.deferred (some []))).alloc (.loop { state := .ready, pending := none, fn := fid, tmps := a.tmps, params := ps, assign := asg, body := body, defers := w.heap.size })) = w2 at *
              rcases e2 with ⟨k2, args, i1, i2⟩ | ⟨_, _, _, _, _, _, i0, _⟩
              case inr => cases i0
              refine ⟨w.heap.size + 1, [{ target := .collected w.heap.size, args := #[] }], w2, _, w2, k2, args, w2, ?_, run_resolve_range hfe _ _, fun _ _ => trivial, i1, (fun h => by cases h), ?_⟩
              · rw [← hw2]; exact run_enterLoop_outer fid a.tmps ps asg body
              refine i2.mono ?_
              rintro en w' ⟨g', k1, k2', k3⟩
              cases en with
              | panicked ch => exact k3.elim
              | outgrown => exact k3.elim
              | returned y =>
                have hms := k2'.ms
                rw [hM2] at hms
                obtain ⟨N, Ns, hN, hN1, hN2⟩ := hms.cons_inv
                have hrs := k1.rs
                rw [hN] at hrs
                obtain ⟨blk, tot, r, m1, o1, p1, LR⟩ := hrs.1 _ _ hL
                cases (hN1 _ _ _ hid).symm.trans m1
                have hlenS : S2.length = S0.length := by
                  have := Rel.length_eq hr2 k1 k2'
                  simpa using this
                have hbusy : L.state ≠ .busy := fun h => by rw [h] at hev; cases hev
                have hrb : r.state ≠ .busy := fun h => by
                  have := LR.state
                  rw [h] at this
                  cases hL' : L.state with
                  | ready => rw [hL'] at this; exact this
                  | busy => exact hbusy hL'
                  | done => rw [hL'] at this; exact this
                have hidlt : H.length < H2.length := (List.getElem?_eq_some_iff.1 hL).1
                have hblt : w.heap.size + 1 < w'.heap.size := (Array.getElem?_eq_some_iff.1 p1).1
                obtain ⟨hr4, hl4⟩ := Rel.change (w' := w'.putObj (w.heap.size + 1) (.loop { r with state := .exhausted })) hN k1 H.length .dead (H2.set H.length .dead) N g'.O rfl rfl rfl (by simp)
                  (fun b hb hne => World.putObj_heap_other fun hbe => hne (by rw [hbe]; exact o1))
                  (fun j hj => List.getElem?_set_ne (Ne.symm hj)) (by simp [hidlt]) (by simp) (fun _ _ _ => rfl) (fun _ _ h => h) (fun lim p hp => (hrs.2.1 _ _ _ hp).2) (fun _ _ => rfl)
                  (fun b hb x hx => by have := (k1.ow b x hx).1; omega) trivial
                have hl24 : Le (H :: S0).length g _ w (w'.putObj (w.heap.size + 1) (.loop { r with state := .exhausted })) := hl02.trans ((show Le (H :: S0).length g2 g' w2 w' from k2').trans (by rw [hlenS] at hl4; exact hl4))
                refine ⟨r.pending, _, run_endLoop p1 hrb, ?_⟩
                have hmk : Marks B0 { g' with Ms := N :: Ns, O := g'.O }.B ([{ target := .collected w.heap.size, args := #[] }] ++ a.defers) := by
                  have hm' := hm.le hr hl24
                  obtain ⟨q0, bs, q1, q2, q3⟩ := hm'
                  obtain ⟨p0, bs', p1', _, p3'⟩ := hm
                  have hbb : bs = bs' := by
                    rw [p1'] at q1
                    have hinj : ∀ (x y : List Nat), x.map (fun b => ({ target := .collected b, args := #[] } : Deferred)) = y.map (fun b => { target := .collected b, args := #[] }) → x = y := by
                      intro x
                      induction x with
                      | nil => intro y h; cases y with
                        | nil => rfl
                        | cons => cases h
                      | cons c x ih => intro y h; cases y with
                        | nil => cases h
                        | cons d y => simp only [List.map_cons, List.cons.injEq, Deferred.mk.injEq, Target.collected.injEq, and_true] at h; rw [h.1, ih y h.2]
                    exact (hinj _ _ q1).symm
                  subst hbb
                  have hsmall : ∀ b, g.B b → b < w.heap.size := fun b hb => (Array.getElem?_eq_some_iff.1 (hr.bm b hb)).1
                  refine ⟨q0, w.heap.size :: bs, by rw [q1]; rfl, List.nodup_cons.2 ⟨fun hin => ?_, q2⟩, fun b hb => ?_⟩
                  · have := hsmall _ (p3' _ hin).1; omega
                  · rcases List.mem_cons.1 hb with rfl | hb
                    · refine ⟨?_, fun h0 => by have := hsmall _ (p0 _ h0); omega⟩
                      have hlt2 : w.heap.size < w2.heap.size := by rw [← hw2]; simp; omega
                      exact (k2'.oB _ hlt2).2 ((hl2.oB _ (by simp)).2 (.inr rfl))
                    · exact q3 b hb
                have hpost : ∀ ex, XE { g' with Ms := N :: Ns, O := g'.O }.I { g' with Ms := N :: Ns, O := g'.O }.Ms (L.pending.getD .normal) ex → PostC P n B0 g (H :: S0) w x e' S' ex { tmps := a.tmps, defers := [{ target := .collected w.heap.size, args := #[] }] ++ a.defers } (w'.putObj (w.heap.size + 1) (.loop { r with state := .exhausted })) := fun ex hex => by
                  have hev' : some (L.pending.getD IX.normal, e, H2.set H.length .dead :: S2) = some (x, e', S') := by
                    cases hLs : L.state with
                    | busy => exact absurd hLs hbusy
                    | ready => rw [hLs] at hev; exact hev
                    | done => rw [hLs] at hev; exact hev
                  simp only [Option.some.injEq, Prod.mk.injEq] at hev'
                  obtain ⟨rfl, rfl, rfl⟩ := hev'
                  exact ⟨_, hr4, hl24, he.le hl24, hmk, hex⟩
                generalize w'.putObj (w.heap.size + 1) (.loop { r with state := .exhausted }) = w4 at hpost ⊢
                have hp := LR.pending
                cases hrp : r.pending with
                | none =>
                  cases hLp : L.pending with
                  | none => exact hpost .normal (by rw [hLp]; trivial)
                  | some x => rw [hrp, hLp] at hp; exact hp.elim
                | some c =>
                  cases hLp : L.pending with
                  | none => rw [hrp, hLp] at hp; exact hp.elim
                  | some x' =>
                    rw [hrp, hLp] at hp
                    cases x' with
                    | normal => exact hp.elim
                    | panic v => exact hp.elim
                    | exit i =>
                      cases c with
                      | exit j => exact wpIn_exit (hpost (.exit j) (by rw [hLp]; exact hp))
                      | _ => exact hp.elim
                    | ret =>
                      cases c with
                      | ret => exact wpIn_ret (hpost .ret (by rw [hLp]; trivial))
                      | _ => exact hp.elim
            · cases hev
          · cases hev
  · cases hc
end
end Go.AS
