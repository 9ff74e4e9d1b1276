/-
  Regions. By an AI agent.
-/
import Derived.Test.YtefnpnokbanbkaaAsF
set_option linter.all false
namespace Go.AS
open Go

theorem Env.get_set (i j : Nat) (v : AV) : ∀ e : Env, Env.get (Env.set e i v) j = if j = i then v else Env.get e j
  | [] => by
    simp only [Env.set, Env.get]
    by_cases h : j = i
    · subst h; rw [nbeq_self]; simp
    · rw [nbeq_false h]; simp [h]
  | (k, u) :: r => by
    simp only [Env.set]
    cases hb : Nat.blt i k with
    | true =>
      simp only [cond_true, Env.get]
      by_cases h : j = i
      · subst h; rw [nbeq_self]; simp
      · rw [nbeq_false h]; simp [h]
    | false =>
      simp only [cond_false]
      by_cases hik : i = k
      · subst hik
        rw [nbeq_self]
        simp only [cond_true, Env.get]
        by_cases h : j = i
        · subst h; rw [nbeq_self]; simp
        · rw [nbeq_false h]; simp [h]
      · rw [nbeq_false hik]
        simp only [cond_false, Env.get]
        by_cases h : j = k
        · subst h; rw [nbeq_self]; simp [Ne.symm hik]
        · rw [nbeq_false h]
          simp only [cond_false]
          exact Env.get_set i j v r

theorem Env.get_del (i j : Nat) : ∀ e : Env, Env.get (Env.del e i) j = if j = i then .undef else Env.get e j
  | [] => by simp [Env.del, Env.get]
  | (k, u) :: r => by
    simp only [Env.del]
    by_cases hik : i = k
    · subst hik
      rw [nbeq_self]
      simp only [cond_true, Env.get]
      rw [Env.get_del i j r]
      by_cases h : j = i
      · simp [h]
      · rw [nbeq_false h]; simp [h]
    · rw [nbeq_false hik]
      simp only [cond_false, Env.get]
      by_cases h : j = k
      · subst h; rw [nbeq_self]; simp [Ne.symm hik]
      · rw [nbeq_false h]
        simp only [cond_false]
        exact Env.get_del i j r

section
set_option maxHeartbeats 4000000
variable {P : Program} {an : Ann} {fn : Nat}
/-- Which of the operations stand apart: 1 panic, 2 pure call, 3 call. -/
def apart : IOp → Bool
  | .panic _ | .callp .. | .calls .. | .call .. => true
  | _ => false

theorem cBuiltin_apart {b : Builtin} {ts : List TypeId} {as : List Operand} {i : IOp} (h : cBuiltin P b ts as = some i) : apart i = false := by
  unfold cBuiltin at h
  repeat' split at h
  all_goals first
    | (cases h; done)
    | (cases h; rfl)
    | (simp only [Option.map_eq_some_iff] at h; obtain ⟨_, _, rfl⟩ := h; rfl)
    | (rw [Bool.cond_eq_ite] at h; split at h <;> first | (cases h; done) | (cases h; rfl))

theorem cEq_apart {t : TypeId} {ng : Bool} {x y : Operand} {p q : Opd} {d : TypeDesc} {i : IOp} (h : cEq P t ng x y p q d = some i) : apart i = false := by
  unfold cEq at h
  repeat' split at h
  all_goals first
    | (cases h; done)
    | (cases h; rfl)
    | (rw [Bool.cond_eq_ite] at h; split at h <;> first | (cases h; done) | (cases h; rfl) | (simp only [Option.map_eq_some_iff] at h; obtain ⟨_, _, rfl⟩ := h; rfl) | cases h)

theorem cBin_apart {op : BinOp} {t : TypeId} {x y : Operand} {i : IOp} (h : cBin P op t x y = some i) : apart i = false := by
  unfold cBin at h
  repeat' split at h
  all_goals first
    | (cases h; done)
    | (cases h; rfl)
    | exact cEq_apart h
    | cases h

theorem cConv_apart {s d : TypeId} {x : Operand} {i : IOp} (h : cConv P s d x = some i) : apart i = false := by
  unfold cConv at h
  repeat' split at h
  all_goals first
    | (cases h; done)
    | (cases h; rfl)
    | cases h

theorem cOp_apart {op : Op} {i : IOp} (h : cOp P an fn op = some i) (ha : apart i = true) :
    (∃ x x', op = .panic x ∧ cO x = some x' ∧ i = .panic x') ∨
    (∃ c f f' as, op = .call c ∧ c.callee = .value f ∧ cO f = some f' ∧ mapO cO c.args.toList = some as ∧ (i = .call f' as ∨ ∃ g, f' = .c (.func (.func g) [] []) ∧ (i = .callp g as ∨ i = .calls g as))) := by
  cases op
  case panic x =>
    simp only [cOp, Option.map_eq_some_iff] at h
    obtain ⟨x', h1, rfl⟩ := h
    exact .inl ⟨x, x', rfl, h1, rfl⟩
  case call c =>
    simp only [cOp] at h
    split at h
    · rw [cBuiltin_apart h] at ha; cases ha
    · rename_i f hf
      split at h
      · rename_i g as h1 h2
        rw [Bool.cond_eq_ite] at h
        split at h
        · cases h; exact .inr ⟨c, f, _, as, rfl, hf, h1, h2, .inr ⟨g, rfl, .inl rfl⟩⟩
        · rw [Bool.cond_eq_ite] at h
          split at h
          · cases h; exact .inr ⟨c, f, _, as, rfl, hf, h1, h2, .inr ⟨g, rfl, .inr rfl⟩⟩
          · cases h; exact .inr ⟨c, f, _, as, rfl, hf, h1, h2, .inl rfl⟩
      · rename_i f' as _ h1 h2
        cases h
        exact .inr ⟨c, f, _, as, rfl, hf, h1, h2, .inl rfl⟩
      · cases h
    · cases h
  case binOp => simp only [cOp] at h; rw [cBin_apart h] at ha; cases ha
  case convert => simp only [cOp] at h; rw [cConv_apart h] at ha; cases ha
  all_goals
    exfalso
    simp only [cOp] at h
    repeat' split at h
    all_goals first
      | (cases h; done)
      | (cases h; cases ha; done)
      | (simp only [Option.map_eq_some_iff] at h; obtain ⟨_, _, rfl⟩ := h; cases ha; done)
      | (rw [Bool.cond_eq_ite] at h; split at h <;> first | (cases h; done) | (cases h; cases ha; done) | (simp only [Option.map_eq_some_iff] at h; obtain ⟨_, _, rfl⟩ := h; cases ha; done))
end

section
variable {P : Program} {an : Ann} {fn : Nat} {I : IMap} {Ms : List MMap} {n : Nat} {e : Env} {a : Act}

theorem EnvR.put {d : Option Nat} {v : AV} {x : Value} (h : EnvR I Ms n e a.tmps) (hv : RV I v Ms x) (hd : ∀ i, d = some i → i < n) : EnvR I Ms n (putD e d v) (a.put d x).tmps := by
  cases d with
  | none => exact h
  | some i =>
    have hi := hd i rfl
    refine ⟨by simpa [Act.put] using h.1, fun j => ?_⟩
    simp only [putD, Env.get_set, Act.put]
    by_cases hj : j = i
    · subst hj
      rw [if_pos rfl]
      have : j < a.tmps.size := Nat.lt_of_lt_of_le hi h.1
      simp [Array.getD_eq_getD_getElem?, this]
      exact hv
    · rw [if_neg hj]
      have := h.2 j
      simpa [Array.getD_eq_getD_getElem?, Array.getElem?_setIfInBounds_ne (Ne.symm hj)] using this

theorem EnvR.drop : ∀ (l : List Nat) {e : Env} {t : Array Value}, EnvR I Ms n e t → EnvR I Ms n (Env.drop e l) t
  | [], _, _, h => h
  | i :: r, e, t, h => EnvR.drop r (e := Env.del e i) ⟨h.1, fun j => by
      rw [Env.get_del]
      split
      · exact trivial
      · exact h.2 j⟩

/-- A frame's deferred calls: the marks of its ranges over functions, none of them there when the frame began. -/
def Marks (B0 B : Nat → Prop) (ds : List Deferred) : Prop :=
  (∀ b, B0 b → B b) ∧ ∃ bs : List Nat, ds = bs.map (fun b => { target := .collected b, args := #[] }) ∧ bs.Nodup ∧ ∀ b ∈ bs, B b ∧ ¬ B0 b

theorem Marks.le {lvl : Nat} {g g' : G} {w w' : World} {S : Stack} {B0 : Nat → Prop} {ds : List Deferred} (hr : Rel P g S w) (h : Le lvl g g' w w') (hm : Marks B0 g.B ds) : Marks B0 g'.B ds := by
  obtain ⟨h0, bs, h1, h2, h3⟩ := hm
  have key : ∀ b, g.B b → g'.B b := fun b hB => (h.oB b (Array.getElem?_eq_some_iff.1 (hr.bm b hB)).1).2 hB
  exact ⟨fun b hb => key b (h0 b hb), bs, h1, h2, fun b hb => ⟨key b (h3 b hb).1, (h3 b hb).2⟩⟩

theorem Rel.length_eq {lvl : Nat} {g g' : G} {w w' : World} {S S' : Stack} (h : Rel P g S w) (h' : Rel P g' S' w') (hl : Le lvl g g' w w') : S'.length = S.length := by
  rw [RelS.length h'.rs, RelS.length h.rs, hl.ms.length]

/-- What a call of a function value comes to. -/
def DoesCall (P : Program) (fv : Value) (xs : Array Value) (w : World) (R : Ending → World → Prop) : Prop :=
  ∃ f first cap, fv = .func f first cap ∧
    ((∃ k args, (invoke (.fn f cap) (first ++ xs)).run P w = .ok (.enter k args) w ∧ CallsIn Fence.wide 0 P k args w R) ∨
     (∃ l0 l k tmps asg body, f = .yield l0 ∧ (invoke (.fn f cap) (first ++ xs)).run P w = .ok (.round l k tmps asg body) w ∧ RoundIn Fence.wide 0 P l k tmps asg body w R))

/-- How a call's ending stands for the evaluator's. -/
def EndR (I : IMap) (Ms : List MMap) : CR → Ending → Prop
  | .ret v, .returned x => RV I v Ms x
  | .pan v, .panicked ch => ∃ x, ch = [{ v := x, recovered := false }] ∧ RV I v Ms x
  | _, _ => False

def CallSim (P : Program) (call : CallT) : Prop :=
  ∀ {f : AV} {args : List AV} {S S' : Stack} {r : CR}, call f args S = some (r, S') → ∀ {g : G} {w : World} {fv : Value} {xs : List Value}, Rel P g S w → RV g.I f g.Ms fv → RVs g.I args g.Ms false xs →
    DoesCall P fv xs.toArray w fun e w' => ∃ g', Rel P g' S' w' ∧ Le S.length g g' w w' ∧ EndR g'.I g'.Ms r e

/-- The fence: none; within a round or not. -/
def Wide (F : Fence) : Prop := F = Fence.wide ∨ ∃ l, F = Fence.wide.inRound l

theorem Wide.anyFn {F : Fence} (h : Wide F) (f : FuncId) : F.fn f := by rcases h with rfl | ⟨l, rfl⟩ <;> exact trivial
theorem Wide.depth {F : Fence} (h : Wide F) : F.depth = none := by rcases h with rfl | ⟨l, rfl⟩ <;> rfl
theorem Wide.calls {F : Fence} (h : Wide F) {n : Nat} {f : FuncId} {args : Array Value} {w : World} {R : Ending → World → Prop} (k : CallsIn Fence.wide 0 P f args w R) : CallsIn F n P f args w R := by
  rcases h with rfl | ⟨l, rfl⟩
  · exact k.more (Nat.zero_le _)
  · exact (k.more (Nat.zero_le _) : CallsIn Fence.wide n P f args w R)
theorem Wide.rounds {F : Fence} (h : Wide F) {n l : Nat} {f : FuncId} {tmps : Array Value} {asg body : Code} {w : World} {R : Ending → World → Prop} (k : RoundIn Fence.wide 0 P l f tmps asg body w R) : RoundIn F n P l f tmps asg body w R := by
  have k' : RoundIn Fence.wide n P l f tmps asg body w R := ⟨k.1, fun c cs hr => k.2 c cs (room_wide _)⟩
  rcases h with rfl | ⟨l', rfl⟩
  · exact k'
  · exact k'

theorem run_resolve_value {f : Operand} {c : Call} (hc : c.callee = .value f) {fn : Fn} {first cap : Array Value} (hf : a.eval f = .func fn first cap) (t : TypeId) (w : World) :
    (resolve a.eval c t).run P w = .ok { target := .fn fn cap, args := first ++ c.args.map a.eval } w := by
  simp [resolve, hc, hf, Deferred.ofValue]

/-- ONE OPERATION. -/
theorem oper_sim {call : CallT} (hcall : CallSim P call) {F : Fence} (hF : Wide F) {ops : Array Oper} {o : Oper} {io : IOper} (hc : cOper P an fn n ops.toList o = some io) {g : G} {S : Stack} {w : World} (he : EnvR g.I g.Ms n e a.tmps) (hr : Rel P g S w) {B0 : Nat → Prop} (hm : Marks B0 g.B a.defers)
    {out : OR} (hev : evOper call io e S = some out) {next : Act → World → Prop} {Q : Exit → Act → World → Prop}
    (hgo : ∀ e' S', out = .go e' S' → ∀ g' a' w', EnvR g'.I g'.Ms n e' a'.tmps → Rel P g' S' w' → Le S.length g g' w w' → Marks B0 g'.B a'.defers → next a' w')
    (hpan : ∀ v e' S', out = .pan v e' S' → ∀ g' w' x, EnvR g'.I g'.Ms n e' a.tmps → Rel P g' S' w' → Le S.length g g' w w' → Marks B0 g'.B a.defers → RV g'.I v g'.Ms x → Q (.panic [{ v := x, recovered := false }]) a w') :
    (if Region.wanted o (yielded ops a.tmps) then o.wpIn F 0 P a w next Q else next (a.put o.dst undef) w) := by
  unfold cOper at hc
  split at hc
  · rename_i op gd hop hgo'
    cases hd : dstOk o.dst n with
    | false => rw [hd] at hc; cases hc
    | true =>
      rw [hd] at hc
      cases hc
      have hdst : ∀ i, o.dst = some i → i < n := fun i hi => by rw [hi] at hd; simpa [dstOk] using hd
      -- the guard
      have hwant : ∀ b, guardA e gd = some b → Region.wanted o (yielded ops a.tmps) = b := fun b hb => by
        unfold guardOf at hgo'
        split at hgo'
        · rename_i hg
          cases hgo'
          cases hb
          simp [Region.wanted, hg]
        · rename_i j want hg
          split at hgo'
          · rename_i q hq
            split at hgo'
            · rename_i d hqd
              cases hgo'
              simp only [guardA] at hb
              split at hb
              · rename_i b' hget
                cases hb
                have hx := he.2 d
                rw [hget] at hx
                have hx := RV.bool_inv hx
                have hy : yielded ops a.tmps j = some b' := by
                  unfold yielded
                  have h1 : ops[j]? = some q := by rw [← Array.getElem?_toList]; exact hq
                  rw [h1]
                  simp only [Option.bind_some, hqd]
                  rw [Array.getD_eq_getD_getElem?] at hx
                  cases ht : a.tmps[d]? with
                  | none => rw [ht] at hx; cases hx
                  | some y => rw [ht] at hx; simp at hx; subst hx; rfl
                simp only [Region.wanted, hg, hy]
                cases b' <;> cases want <;> rfl
              · cases hb
            · cases hgo'
          · cases hgo'
      unfold evOper at hev
      split at hev
      · cases hev
      · rename_i hgd
        have := hwant _ hgd
        rw [this]
        cases hev
        simp only [Bool.false_eq_true, if_false]
        exact hgo _ _ rfl g _ w (he.put trivial hdst) hr (.refl _ _ _) (by cases o.dst <;> exact hm)
      · rename_i hgd
        have := hwant _ hgd
        rw [this]
        simp only [if_true]
        refine ⟨fun f _ => hF.anyFn f, ?_⟩
        have hsem : ∀ (hnd : ∀ c, o.op ≠ .defer c), o.semAt F.round a.eval = execOp a.eval o := fun hnd => Oper.semAt_eq _ _ _ hnd
        have hnd : ∀ c, o.op ≠ .defer c := fun c hcc => by rw [hcc] at hop; cases hop
        rw [hsem hnd]
        have hnodepth : ∀ k, F.depth.isSome = true → 1 ≤ k := fun k hk => by rw [hF.depth] at hk; cases hk
        -- calls of function values
        have hcallop : ∀ {R : Ending → World → Prop} {f : Operand} {fv : Value} {c : Call}, o.op = .call c → c.callee = .value f → a.eval f = fv → DoesCall P fv (c.args.map a.eval) w R →
            (∀ en w', R en w' → (match (motive := Ending → World → Prop) en, w' with | .returned v, w'' => next (a.put o.dst v) w'' | .panicked chain, w'' => Q (.panic chain) a w'' | .outgrown, _ => LetsOut Q)) →
            o.uponIn F 0 P a next Q ((execOp a.eval o).run P w) := by
          intro R f fv c h1 h2 h3 hd hpost
          obtain ⟨ff, first, cap, rfl, e2⟩ := hd
          have hres := run_resolve_value (P := P) (a := a) (c := c) h2 h3 o.type w
          rcases e2 with ⟨k, args, i1, i2⟩ | ⟨l0, l, k, tmps, asg, body, rfl, i1, i2⟩
          · have hrun : (execOp a.eval o).run P w = .ok (.enter k args) w := by simp [execOp, h1, hres, i1]
            rw [hrun, Oper.uponIn_enter]
            exact ⟨hnodepth 0, (hF.calls i2).mono hpost⟩
          · have hrun : (execOp a.eval o).run P w = .ok (.round l k tmps asg body) w := by simp [execOp, h1, hres, i1]
            rw [hrun, Oper.uponIn_round]
            exact ⟨hnodepth 0, (hF.rounds i2).mono hpost⟩
        -- the rest of the operations
        have hother : ∀ {H : Heap} {S0 : Stack} {v : AV} {H' : Heap}, S = H :: S0 → evOp e H op = some (v, H') → out = .go (putD e o.dst v) (H' :: S0) → o.uponIn F 0 P a next Q ((execOp a.eval o).run P w) := by
          rintro H S0 v H' rfl h1 h2
          obtain ⟨g', w', x, k1, k2, k3, k4⟩ := op_sim (an := an) (fn := fn) (n := n) (o := o) he hr hop h1
          have hnext : next (a.put o.dst x) w' := hgo _ _ h2 g' _ w' ((he.le k3).put k4 hdst) k2 k3 (by have := hm.le hr k3; cases o.dst <;> exact this)
          rcases k1 with k1 | ⟨k1, rfl⟩
          · rw [k1, Oper.uponIn_value]; exact hnext
          · rw [k1, Oper.uponIn_skip]; exact hnext
        split at hev
        · -- panic
          rename_i x' hopeq
          split at hev
          · rename_i t v hx
            cases hev
            obtain ⟨x, ho, hx2⟩ : ∃ x, o.op = .panic x ∧ cO x = some x' := by
              rcases cOp_apart hop (by rw [show op = _ from hopeq]; rfl) with ⟨x, x2, h1, h2, h3⟩ | ⟨c, f, f', as, h1, h2, h3, h4, h5⟩
              · cases (show op = _ from hopeq).symm.trans h3
                exact ⟨x, h1, h2⟩
              · rcases h5 with h5 | ⟨g, h5, h6⟩
                · cases (show op = _ from hopeq).symm.trans h5
                · rcases h6 with h6 | h6 <;> cases (show op = _ from hopeq).symm.trans h6
            have hp := cO_RV hx2 he
            rw [hx] at hp
            obtain ⟨y, r1, r2⟩ := hp
            have hrun : (execOp a.eval o).run P w = .halt (.panic (.iface t y)) w := by simp [execOp, ho, r1, Instr.panic]
            rw [hrun, Oper.uponIn_panic]
            exact hpan _ _ _ rfl g w (.iface t y) he hr (.refl _ _ _) hm ⟨y, rfl, r2⟩
          · cases hev
        · -- a pure call
          rename_i f as hopeq
          cases hfr : hfrees (evs e as) with
          | false => rw [hfr] at hev; cases hev
          | true =>
            rw [hfr] at hev
            simp only [cond_true] at hev
            obtain ⟨c, f0, h1, h2, h3, h4⟩ : ∃ c f0, o.op = .call c ∧ c.callee = .value f0 ∧ cO f0 = some (.c (.func (.func f) [] [])) ∧ mapO cO c.args.toList = some as := by
              rcases cOp_apart hop (by rw [show op = _ from hopeq]; rfl) with ⟨x, x2, h1, h2, h3⟩ | ⟨c, f0, f', as', h1, h2, h3, h4, h5⟩
              · cases (show op = _ from hopeq).symm.trans h3
              · rcases h5 with h5 | ⟨g, h5, h6⟩
                · cases (show op = _ from hopeq).symm.trans h5
                · rcases h6 with h6 | h6
                  · cases (show op = _ from hopeq).symm.trans h6
                    subst h5
                    exact ⟨c, f0, h1, h2, h3, h4⟩
                  · cases (show op = _ from hopeq).symm.trans h6
            split at hev
            · rename_i r hcl
              cases hrf : hfree r with
              | false => rw [hrf] at hev; cases hev
              | true =>
                rw [hrf] at hev
                simp only [cond_true, Option.some.injEq] at hev
                have hr0 : Rel P { g with Ms := [], O := fun _ => none } [] w := ⟨trivial, fun b o hb => ⟨(hr.im b o hb).1, rfl, (hr.im b o hb).2.2⟩, fun _ _ h => (by cases h), hr.bm, fun _ _ _ h => (by cases h)⟩
                have hfv : RV g.I (.func (.func f) [] []) [] (a.eval f0) := RV.free _ rfl (cO_RV h3 he)
                have := hcall hcl hr0 hfv (RVs.free _ hfr (evs_RVs he h4))
                have hargs : (c.args.toList.map a.eval).toArray = c.args.map a.eval := by apply Array.ext'; simp
                rw [hargs] at this
                refine hcallop h1 h2 rfl this ?_
                rintro en w' ⟨g0, k1, k2, k3⟩
                cases en with
                | returned x =>
                  have hbig : ∀ b x, g.O b = some x → b < w.heap.size := fun b x hb => (hr.ow b x hb).1
                  have hle : Le S.length g { g0 with Ms := g.Ms, O := g.O } w w' := ⟨k2.os, k2.tape, k2.output, k2.size, .refl _, k2.im, fun _ _ => rfl, k2.oI, k2.oB, fun b hb _ => k2.frame b hb fun _ _ h => by cases h⟩
                  have hrel : Rel P { g0 with Ms := g.Ms, O := g.O } S w' := by
                    refine ⟨RelS.frame k2.im hr.rs (fun b l id hb _ => ⟨hb, k2.frame b (hbig b _ hb) fun _ _ h => by cases h⟩), fun b o hb => ⟨(k1.im b o hb).1, ?_, (k1.im b o hb).2.2⟩, fun b x hb => ⟨Nat.lt_of_lt_of_le (hbig b x hb) k2.size, fun hB => (hr.ow b x hb).2 ((k2.oB b (hbig b x hb)).1 hB)⟩, k1.bm, hr.lv⟩
                    cases hO : g.O b with
                    | none => rfl
                    | some x =>
                      have hlt := hbig b x hO
                      have := (hr.im b o ((k2.oI b hlt).symm.trans hb)).2.1
                      rw [hO] at this
                      cases this
                  exact hgo _ _ hev.symm _ _ w' ((he.le hle).put (RV.free _ hrf k3) hdst) hrel hle (by have := hm.le hr hle; cases o.dst <;> exact this)
                | panicked ch => exact k3.elim
                | outgrown => exact k3.elim
            · cases hev
        · -- a call that is shown what there is
          rename_i f as hopeq
          obtain ⟨c, f0, h1, h2, h3, h4⟩ : ∃ c f0, o.op = .call c ∧ c.callee = .value f0 ∧ cO f0 = some (.c (.func (.func f) [] [])) ∧ mapO cO c.args.toList = some as := by
            rcases cOp_apart hop (by rw [show op = _ from hopeq]; rfl) with ⟨x, x2, h1, h2, h3⟩ | ⟨c, f0, f', as', h1, h2, h3, h4, h5⟩
            · cases (show op = _ from hopeq).symm.trans h3
            · rcases h5 with h5 | ⟨g, h5, h6⟩
              · cases (show op = _ from hopeq).symm.trans h5
              · rcases h6 with h6 | h6
                · cases (show op = _ from hopeq).symm.trans h6
                · cases (show op = _ from hopeq).symm.trans h6
                  subst h5
                  exact ⟨c, f0, h1, h2, h3, h4⟩
          split at hev
          · cases hev
          · rename_i H S0
            split at hev
            · rename_i vs hvs
              cases hfr : hfrees vs with
              | false => rw [hfr] at hev; cases hev
              | true =>
                rw [hfr] at hev
                simp only [cond_true] at hev
                split at hev
                · rename_i r hcl
                  cases hrf : scal r with
                  | false => rw [hrf] at hev; cases hev
                  | true =>
                    rw [hrf] at hev
                    simp only [cond_true, Option.some.injEq] at hev
                    obtain ⟨hr0, hsn⟩ := hr.snap
                    have hfv : RV (snapI g S0.length w) (.func (.func f) [] []) [] (a.eval f0) := RV.scal_func (cO_RV h3 he)
                    have hav : ∀ (l : List AV) (l' : List AV) (xs : List Value), mapO (leave H) l = some l' → hfrees l' = true → RVs g.I l g.Ms false xs → RVs (snapI g S0.length w) l' [] false xs := by
                      intro l
                      induction l with
                      | nil => intro l' xs e1 _ e3; cases e1; exact e3
                      | cons v r ih =>
                        intro l' xs e1 e2 e3
                        simp only [mapO] at e1
                        split at e1
                        · rename_i v' r' f1 f2
                          cases e1
                          simp only [hfrees, Bool.and_eq_true] at e2
                          obtain ⟨x, xs', rfl, q1, q2, q3⟩ := e3
                          exact ⟨x, xs', rfl, hsn q1 f1 e2.1, q2, ih r' xs' f2 e2.2 q3⟩
                        · cases e1
                    have := hcall hcl hr0 hfv (hav _ _ _ hvs hfr (evs_RVs he h4))
                    have hargs : (c.args.toList.map a.eval).toArray = c.args.map a.eval := by apply Array.ext'; simp
                    rw [hargs] at this
                    refine hcallop h1 h2 rfl this ?_
                    rintro en w' ⟨g0, k1, k2, k3⟩
                    cases en with
                    | returned x =>
                      have hbig : ∀ b x, g.O b = some x → b < w.heap.size := fun b x hb => (hr.ow b x hb).1
                      let I2 : IMap := fun b => match g.O b with
                        | some _ => none
                        | none => g0.I b
                      have hI2n : ∀ b, g.O b = none → I2 b = g0.I b := fun b hb => by show (match g.O b with | some _ => none | none => g0.I b) = _; rw [hb]
                      have hI2s : ∀ b y, g.O b = some y → I2 b = none := fun b y hb => by show (match g.O b with | some _ => none | none => g0.I b) = _; rw [hb]
                      have hold : ∀ b, b < w.heap.size → I2 b = g.I b := fun b hb => by
                        cases hO : g.O b with
                        | none =>
                          rw [hI2n b hO, k2.oI b hb]
                          show snapI g S0.length w b = g.I b
                          simp only [snapI, hO]
                        | some y =>
                          rw [hI2s b y hO]
                          cases hI : g.I b with
                          | none => rfl
                          | some o2 =>
                            have := (hr.im b o2 hI).2.1
                            rw [hO] at this; cases this
                      have him : ∀ b o2, g.I b = some o2 → I2 b = some o2 := fun b o2 hb => by
                        have h7 := (hr.im b o2 hb).2.1
                        rw [hI2n b h7]
                        exact k2.im b o2 (show snapI g S0.length w b = some o2 by simp only [snapI, h7]; exact hb)
                      have hle : Le (H :: S0).length g { g0 with Ms := g.Ms, O := g.O, I := I2 } w w' := ⟨k2.os, k2.tape, k2.output, k2.size, .refl _, him, fun _ _ => rfl, hold, k2.oB, fun b hb _ => k2.frame b hb fun _ _ h => by cases h⟩
                      have hrel : Rel P { g0 with Ms := g.Ms, O := g.O, I := I2 } (H :: S0) w' := by
                        refine ⟨RelS.frame him hr.rs (fun b l id hb _ => ⟨hb, k2.frame b (hbig b _ hb) fun _ _ h => by cases h⟩), fun b o2 hb => ?_, fun b x hb => ⟨Nat.lt_of_lt_of_le (hbig b x hb) k2.size, fun hB => (hr.ow b x hb).2 ((k2.oB b (hbig b x hb)).1 hB)⟩, k1.bm, hr.lv⟩
                        cases hO : g.O b with
                        | none =>
                          have hb2 : g0.I b = some o2 := by rw [← hI2n b hO]; exact hb
                          exact ⟨(k1.im b o2 hb2).1, rfl, (k1.im b o2 hb2).2.2⟩
                        | some y =>
                          have hb2 : I2 b = some o2 := hb
                          rw [hI2s b y hO] at hb2
                          cases hb2
                      exact hgo _ _ hev.symm _ _ w' ((he.le hle).put (RV.scal _ hrf k3) hdst) hrel hle (by have := hm.le hr hle; cases o.dst <;> exact this)
                    | panicked ch => exact k3.elim
                    | outgrown => exact k3.elim
                · cases hev
            · cases hev
        · -- a call
          rename_i f as hopeq
          obtain ⟨c, f0, h1, h2, h3, h4⟩ : ∃ c f0, o.op = .call c ∧ c.callee = .value f0 ∧ cO f0 = some f ∧ mapO cO c.args.toList = some as := by
            rcases cOp_apart hop (by rw [show op = _ from hopeq]; rfl) with ⟨x, x2, h1, h2, h3⟩ | ⟨c, f0, f', as', h1, h2, h3, h4, h5⟩
            · cases (show op = _ from hopeq).symm.trans h3
            · rcases h5 with h5 | ⟨g, h5, h6⟩
              · cases (show op = _ from hopeq).symm.trans h5
                exact ⟨c, f0, h1, h2, h3, h4⟩
              · rcases h6 with h6 | h6 <;> cases (show op = _ from hopeq).symm.trans h6
          have hev' : afterCall e o.dst (call (f.ev e) (evs e as) S) = some out := hev
          cases hcl : call (f.ev e) (evs e as) S with
          | none => rw [hcl] at hev'; cases hev'
          | some rs =>
            obtain ⟨r, S'⟩ := rs
            rw [hcl] at hev'
            have hS' : ∃ H1 S1, S' = H1 :: S1 := by
              cases S' with
              | nil => cases r <;> cases hev'
              | cons H1 S1 => exact ⟨H1, S1, rfl⟩
            obtain ⟨H1, S1, rfl⟩ := hS'
            have := hcall hcl hr (cO_RV h3 he) (evs_RVs he h4)
            have hargs : (c.args.toList.map a.eval).toArray = c.args.map a.eval := by apply Array.ext'; simp
            rw [hargs] at this
            refine hcallop h1 h2 rfl this ?_
            rintro en w' ⟨g', k1, k2, k3⟩
            cases r with
            | ret v =>
              cases en with
              | returned x =>
                simp only [afterCall, Option.some.injEq] at hev'
                exact hgo _ _ hev'.symm g' _ w' ((he.le k2).put k3 hdst) k1 k2 (by have := hm.le hr k2; cases o.dst <;> exact this)
              | panicked ch => exact k3.elim
              | outgrown => exact k3.elim
            | pan v =>
              cases en with
              | returned x => exact k3.elim
              | panicked ch =>
                obtain ⟨x, rfl, k3⟩ := k3
                simp only [afterCall, Option.some.injEq] at hev'
                exact hpan _ _ _ hev'.symm g' w' x (he.le k2) k1 k2 (hm.le hr k2) k3
              | outgrown => exact k3.elim
        · split at hev
          · cases hev
          · rename_i H S0
            split at hev
            · rename_i v H' h1
              exact hother rfl h1 (Option.some.inj hev).symm
            · cases hev
  · cases hc
end
end Go.AS
