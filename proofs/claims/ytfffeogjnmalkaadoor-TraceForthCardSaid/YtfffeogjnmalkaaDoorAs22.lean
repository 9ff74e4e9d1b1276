import Derived.RangeFuncRecord
import Derived.Test.YtfffeogjnmalkaaDoorAs21
set_option linter.all false
/-
  Code. By an AI agent.
-/
namespace Go.AS
open Go
set_option maxHeartbeats 1000000

section
variable {P : Program} {an : Ann} {fn n : Nat} {B0 : Nat → Prop}

theorem mapO_get {α β : Type} {f : α → Option β} : ∀ {l : List α} {ys : List β} {i : Nat} {x : α}, mapO f l = some ys → l[i]? = some x → ∃ y, ys[i]? = some y ∧ f x = some y
  | [], _, _, _, _, h => by simp at h
  | x :: r, ys, 0, x', e, h => by
    obtain ⟨y, ys', rfl, e1, _⟩ := mapO_cons e
    simp only [List.getElem?_cons_zero, Option.some.injEq] at h
    subst h
    exact ⟨y, rfl, e1⟩
  | x :: r, ys, i + 1, x', e, h => by
    obtain ⟨y, ys', rfl, _, e2⟩ := mapO_cons e
    simp only [List.getElem?_cons_succ] at h ⊢
    exact mapO_get e2 h

/-- Operations, in whatever order they are listed. -/
theorem ops_sim {call : CallT} {K : IMap} (hcall : CallSim P K call) {F : Fence} (hF : Wide F) {ops : Array Oper} {ios : List IOper} (hc : mapO (cOper P an fn n ops.toList) ops.toList = some ios) {Q : Exit → Act → World → Prop} :
    ∀ (l : List Nat) {e : Env} {a : Act} {g : G} {S : Stack} {w : World} {out : OR}, KIn K g → EnvR g.I g.Ms n e a.tmps → Rel P g S w → Marks B0 g.B a.defers → evOps call (l.filterMap (ios[·]?)) e S = some out →
      (∀ e' S', out = .go e' S' → ∀ g' a' w', EnvR g'.I g'.Ms n e' a'.tmps → Rel P g' S' w' → Le S.length g g' w w' → Marks B0 g'.B a'.defers → Q .normal a' w') →
      (∀ v e' S', out = .pan v e' S' → ∀ g' a' w' x, EnvR g'.I g'.Ms n e' a'.tmps → Rel P g' S' w' → Le S.length g g' w w' → Marks B0 g'.B a'.defers → RV g'.I v g'.Ms x → Q (.panic [{ v := x, recovered := false }]) a' w') →
      wpOpsIn F 0 P ops Q l a w
  | [], e, a, g, S, w, out, hK, he, hr, hm, hev, hgo, _ => by
    simp only [List.filterMap_nil, evOps, Option.some.injEq] at hev
    exact hgo _ _ hev.symm g a w he hr (.refl _ _ _) hm
  | i :: l, e, a, g, S, w, out, hK, he, hr, hm, hev, hgo, hpan => by
    simp only [wpOpsIn]
    cases ho : ops[i]? with
    | none =>
      simp only
      have : ios[i]? = none := by
        rw [List.getElem?_eq_none_iff, mapO_length hc]
        simpa using ho
      rw [List.filterMap_cons, this] at hev
      exact ops_sim hcall hF hc l hK he hr hm hev hgo hpan
    | some o =>
      simp only
      obtain ⟨io, hio, hco⟩ := mapO_get (i := i) (x := o) hc (by rw [Array.getElem?_toList]; exact ho)
      rw [List.filterMap_cons, hio] at hev
      simp only [evOps] at hev
      have hone : ∀ out1, evOper call io e S = some out1 →
          (∀ e1 S1, out1 = .go e1 S1 → evOps call (l.filterMap (ios[·]?)) e1 S1 = some out) → (∀ v e1 S1, out1 = .pan v e1 S1 → out = .pan v e1 S1) →
          (if Region.wanted o (yielded ops a.tmps) then o.wpIn F 0 P a w (wpOpsIn F 0 P ops Q l) Q else wpOpsIn F 0 P ops Q l (a.put o.dst undef) w) := fun out1 h1 h2 h3 => by
        refine oper_sim hcall hF hco hK he hr hm h1 (fun e1 S1 e0 g1 a1 w1 k1 k2 k3 k4 => ?_) (fun v e1 S1 e0 g1 w1 x k1 k2 k3 k4 k5 => ?_)
        · have hlen := Rel.length_eq hr k2 k3
          refine ops_sim hcall hF hc l (hK.le k3) k1 k2 k4 (h2 _ _ e0) (fun e' S' q g' a' w' j1 j2 j3 j4 => hgo e' S' q g' a' w' j1 j2 (k3.trans (hlen ▸ j3)) j4) (fun v e' S' q g' a' w' x j1 j2 j3 j4 j5 => hpan v e' S' q g' a' w' x j1 j2 (k3.trans (hlen ▸ j3)) j4 j5)
        · exact hpan v e1 S1 (h3 v e1 S1 e0) g1 a w1 x k1 k2 k3 k4 k5
      have hmain : (if Region.wanted o (yielded ops a.tmps) then o.wpIn F 0 P a w (wpOpsIn F 0 P ops Q l) Q else wpOpsIn F 0 P ops Q l (a.put o.dst undef) w) := by
        split at hev
        · rename_i e1 S1 h1
          exact hone _ h1 (fun _ _ q => by cases q; exact hev) (fun _ _ _ q => by cases q)
        · exact hone _ hev (fun e1 S1 q => by subst q; rename_i hno; exact absurd hev (hno _ _)) (fun _ _ _ q => q)
      split
      · rename_i hw; rw [if_pos hw] at hmain; exact hmain
      · rename_i hw; rw [if_neg hw] at hmain; exact ⟨fun f _ => hF.anyFn f, hmain⟩

theorem filterMap_range {ios : List IOper} {m : Nat} (h : ios.length = m) : (List.range m).filterMap (ios[·]?) = ios := by
  subst h
  induction ios with
  | nil => rfl
  | cons x r ih =>
    rw [List.length_cons, List.range_succ_eq_map, List.filterMap_cons]
    simp only [List.getElem?_cons_zero, List.filterMap_map]
    exact congrArg (x :: ·) ih

theorem left_none (m : Nat) : left m (Array.replicate m false) = List.range m := by
  unfold left
  rw [List.filter_eq_self]
  intro x hx
  have := List.mem_range.1 hx
  simp [this]

/-- How a piece of code is left. -/
def XE (I : IMap) (Ms : List MMap) : IX → Exit → Prop
  | .normal, .normal => True
  | .exit i, .exit j => i = j
  | .ret, .ret => True
  | .panic v, .panic ch => ∃ x, ch = [{ v := x, recovered := false }] ∧ RV I v Ms x
  | _, _ => False

def PostC (P : Program) (n : Nat) (B0 : Nat → Prop) (g : G) (S : Stack) (w : World) (x : IX) (e' : Env) (S' : Stack) : Exit → Act → World → Prop := fun ex a' w' =>
  ∃ g', Rel P g' S' w' ∧ Le S.length g g' w w' ∧ EnvR g'.I g'.Ms n e' a'.tmps ∧ Marks B0 g'.B a'.defers ∧ XE g'.I g'.Ms x ex

theorem PostC.of_le {g g1 : G} {S S1 S' : Stack} {w w1 : World} {x : IX} {e' : Env} (hr : Rel P g S w) (hr1 : Rel P g1 S1 w1) (hl : Le S.length g g1 w w1) {ex : Exit} {a' : Act} {w' : World} (h : PostC P n B0 g1 S1 w1 x e' S' ex a' w') : PostC P n B0 g S w x e' S' ex a' w' := by
  obtain ⟨g', h1, h2, h3⟩ := h
  exact ⟨g', h1, hl.trans ((Rel.length_eq hr hr1 hl) ▸ h2), h3⟩

theorem asks_shape (ops : List Oper) (l : List IOper) : ∀ o ∈ asks ops l, ∃ tx tj g, o = ⟨none, .diff (.t tx) (.t tj), g⟩ := by
  have hd : ∀ x y, ∀ o ∈ dynAsk x y, ∃ tx tj g, o = ⟨none, .diff (.t tx) (.t tj), g⟩ := by
    intro x y o ho
    unfold dynAsk at ho
    split at ho
    · rename_i tx _ tj _ _ _
      exact ⟨_, _, _, List.mem_singleton.1 ho⟩
    · cases ho
    · cases hd : y.dst with
      | none => rw [hd] at ho; cases ho
      | some d => rw [hd] at ho; exact ⟨_, _, _, List.mem_singleton.1 ho⟩
    · cases hd : x.dst with
      | none => rw [hd] at ho; cases ho
      | some d => rw [hd] at ho; exact ⟨_, _, _, List.mem_singleton.1 ho⟩
    · cases ho
  have hf : ∀ (x : IOper) (i : Nat) (r : List (IOper × List Nat)), ∀ o ∈ asksFrom x i r, ∃ tx tj g, o = ⟨none, .diff (.t tx) (.t tj), g⟩ := by
    intro x i r
    induction r with
    | nil => intro o ho; cases ho
    | cons p r ih =>
      obtain ⟨y, ps⟩ := p
      intro o ho
      simp only [asksFrom, List.mem_append] at ho
      rcases ho with ho | ho
      · cases hb : (memN i ps || pairOk x y) with
        | true => rw [hb] at ho; cases ho
        | false => rw [hb] at ho; exact hd x y o ho
      · exact ih o ho
  have ha : ∀ (r : List (IOper × List Nat)) (i : Nat), ∀ o ∈ asksAll i r, ∃ tx tj g, o = ⟨none, .diff (.t tx) (.t tj), g⟩ := by
    intro r
    induction r with
    | nil => intro i o ho; cases ho
    | cons p r ih =>
      obtain ⟨x, ps⟩ := p
      intro i o ho
      simp only [asksAll, List.mem_append] at ho
      rcases ho with ho | ho
      · exact hf x i r o ho
      · exact ih (i + 1) o ho
  exact ha _ 0
theorem asks_go {call : CallT} {K : List IOper} (hK : ∀ o ∈ K, ∃ tx tj g, o = (⟨none, .diff (.t tx) (.t tj), g⟩ : IOper)) : ∀ {l : List IOper} {e e1 : Env} {S S1 : Stack}, evOps call (l ++ K) e S = some (.go e1 S1) →
    evOps call l e S = some (.go e1 S1) ∧ ∀ tx tj g, (⟨none, .diff (.t tx) (.t tj), g⟩ : IOper) ∈ K → guardA e1 g = some true → apartV (Env.get e1 tx) (Env.get e1 tj)
  | o :: l, e, e1, S, S1, h => by
    simp only [List.cons_append, evOps] at h ⊢
    split at h
    · exact asks_go hK h
    · rename_i hno
      exact absurd h (hno _ _)
  | [], e, e1, S, S1, h => by
    rw [List.nil_append] at h
    clear asks_go
    induction K generalizing e S with
    | nil =>
      simp only [evOps, Option.some.injEq, OR.go.injEq] at h
      obtain ⟨rfl, rfl⟩ := h
      exact ⟨rfl, fun _ _ _ h => by cases h⟩
    | cons o K ih =>
      obtain ⟨tx, tj, g, rfl⟩ := hK o (by simp)
      simp only [evOps] at h
      have hap : ∀ r, evOper call ⟨none, .diff (.t tx) (.t tj), g⟩ e S = some r → r = .go e S ∧ (guardA e g = some true → apartV (Env.get e tx) (Env.get e tj)) := by
        intro r hr
        unfold evOper at hr
        cases hg : guardA e g with
        | none => simp only [hg] at hr; cases hr
        | some b =>
          cases b with
          | false => simp only [hg] at hr; cases hr; exact ⟨rfl, fun h => by cases h⟩
          | true =>
            simp only [hg] at hr
            cases S with
            | nil => cases hr
            | cons H S0 =>
              simp only [evOp, Opd.ev] at hr
              revert hr
              have two : ∀ i j : Nat, (match bif Nat.beq i j then (none : Option (AV × Heap)) else ok AV.undef H with | some (v, H') => some (OR.go (putD e none v) (H' :: S0)) | none => none) = some r → r = OR.go e (H :: S0) ∧ (True → i ≠ j) := by
                intro i j
                cases hb : Nat.beq i j with
                | true => simp only [cond_true]; intro hr; cases hr
                | false =>
                  simp only [cond_false, ok]
                  intro hr; cases hr
                  exact ⟨rfl, fun _ => Nat.ne_of_beq_eq_false hb⟩
              cases h1 : Env.get e tx <;> cases h2 : Env.get e tj <;> simp only [apartV] <;> (try (intro hr; cases hr; done)) <;> first
                | exact two _ _
                | (simp only [ok]; intro hr; cases hr; exact ⟨rfl, fun _ => trivial⟩)
      cases ho : evOper call ⟨none, .diff (.t tx) (.t tj), g⟩ e S with
      | none => rw [ho] at h; cases h
      | some r =>
        obtain ⟨rfl, hapt⟩ := hap r ho
        rw [ho] at h
        simp only at h
        obtain ⟨h1, h2⟩ := ih (fun o ho => hK o (by simp [ho])) _ _ h
        refine ⟨h1, fun a b g' hm => ?_⟩
        simp only [evOps, Option.some.injEq, OR.go.injEq] at h1
        rcases List.mem_cons.1 hm with hm | hm
        · cases hm
          rw [← h1.1]; exact hapt
        · exact h2 a b g' hm

theorem region_sim {call : CallT} {K : IMap} (hcall : CallSim P K call) {F : Fence} (hF : Wide F) (hmo : P.follows .mixedOrders = true) {k : Nat} {all : List Nat} {id : Nat} {ops : Array Oper} {draw : Bool} {ir : IC} (hc : cR P an fn n all ops draw = some ir)
    {e : Env} {a : Act} {g : G} {S : Stack} {w : World} (hK : KIn K g) (he : EnvR g.I g.Ms n e a.tmps) (hr : Rel P g S w) (hm : Marks B0 g.B a.defers) {x : IX} {e' : Env} {S' : Stack} (hS : S ≠ []) (hev : evC k call ir e S = some (x, e', S')) :
    (Code.region id ops draw).wpIn F 0 P (PostC P n B0 g S w x e' S') a w := by
  simp only [cR] at hc
  split at hc
  · rename_i ios hios
    have hlen : ios.length = ops.size := by rw [mapO_length hios]; simp
    cases draw with
    | false =>
      simp only [Bool.false_and, cond_false, Option.some.injEq] at hc
      subst hc
      simp only [evC] at hev
      refine wpIn_region ?_
      cases h1 : evOps call ios e S with
      | none => rw [h1] at hev; cases hev
      | some out =>
        rw [h1] at hev
        refine ops_sim hcall hF hios _ hK he hr hm (by rw [filterMap_range hlen]; exact h1) (fun e1 S1 q g' a' w' j1 j2 j3 j4 => ?_) (fun v e1 S1 q g' a' w' y j1 j2 j3 j4 j5 => ?_)
        · subst q
          simp only [Option.some.injEq, Prod.mk.injEq] at hev
          obtain ⟨rfl, rfl, rfl⟩ := hev
          exact ⟨g', j2, j3, j1.drop _, j4, trivial⟩
        · subst q
          simp only [cond_false, Option.some.injEq, Prod.mk.injEq] at hev
          obtain ⟨rfl, rfl, rfl⟩ := hev
          exact ⟨g', j2, j3, j1, j4, y, rfl, j5⟩
    | true =>
      cases hd : drawOk ops.toList ios with
      | false => rw [hd] at hc; cases hc
      | true =>
        rw [hd] at hc
        simp only [Bool.not_true, Bool.and_false, cond_false, cond_true, Option.some.injEq] at hc
        subst hc
        simp only [evC] at hev
        refine wpIn_region_draw fun t => ?_
        cases h0 : evOps call (ios ++ asks ops.toList ios) e S with
        | none => rw [h0] at hev; cases hev
        | some out =>
          rw [h0] at hev
          cases out with
          | pan v e1 S1 => cases hev
          | go e1 S1 =>
            obtain ⟨h1, hask⟩ := asks_go (asks_shape ops.toList ios) h0
            simp only [Option.some.injEq, Prod.mk.injEq] at hev
            obtain ⟨rfl, rfl, rfl⟩ := hev
            simp only [Region.schedule, hmo, Bool.true_or, if_true, Region.linearise]
            obtain ⟨e2, h2, h3⟩ := lin_go hlen hd ops.size t (Array.replicate ops.size false) e e1 S S1 (by simp) (by rw [left_none]; simp) hS
              (fun k qs hk hkl => by simp [hkl] at hk) (by rw [left_none, filterMap_range hlen]; exact h1) hask
            refine ops_sim hcall hF hios _ hK he (hr.drawn _) hm h2 (fun e3 S3 q g' a' w' j1 j2 j3 j4 => ?_) (fun v e1 S1 q => by cases q)
            simp only [OR.go.injEq] at q
            obtain ⟨rfl, rfl⟩ := q
            exact ⟨g', j2, (Le.drawn _ _ _ _).trans j3, EnvR.drop _ ⟨j1.1, fun i => by rw [h3 i]; exact j1.2 i⟩, j4, trivial⟩
  · cases hc
end
end Go.AS

/-
  Code, whole. By an AI agent.
-/
namespace Go.AS
open Go
set_option maxHeartbeats 1000000

theorem wpIn_loop_n {F : Fence} {n : Nat} {P : Program} {Q : Exit → Act → World → Prop} {c : Code} (I : Nat → Act → World → Prop)
    (round : ∀ j a w, I j a w → c.wpIn F n P (Exit.then (fun a' w' => ∃ i, i < j ∧ I i a' w') Q) a w) (m : Nat) {a : Act} {w : World} (h0 : I m a w) : (Code.loop c).wpIn F n P Q a w := by
  intro b k cs hro hb hr
  have key : ∀ j a w, I j a w → ∃ e a' w', Q e a' w' ∧ ArrivesIn (Machine.fenced P F) P (lone (b.atR a (.code c :: .inLoop c :: k)) cs w) b k cs e a' w' := by
    intro j
    induction j using Nat.strongRecOn with
    | _ j ih =>
      intro a w hI
      obtain ⟨e, a₁, w₁, hq, harr⟩ := round j a w hI b (.inLoop c :: k) cs hro hb hr
      cases e with
      | normal =>
        obtain ⟨i, hlt, hI₁⟩ := hq
        obtain ⟨e₂, a₂, w₂, hq₂, harr₂⟩ := ih i hlt a₁ w₁ hI₁
        exact ⟨e₂, a₂, w₂, hq₂, .of_steps (StepsIn.trans harr (.one (fenced_calm hb hr rfl) stepR_inLoop)) harr₂⟩
      | exit id => exact ⟨_, a₁, w₁, hq, .pass (x := .inLoop c) rfl (fun _ _ => .inl (by simp)) harr⟩
      | goto l => exact ⟨_, a₁, w₁, hq, .pass (x := .inLoop c) rfl (fun _ _ => .inl (by simp)) harr⟩
      | ret => exact ⟨_, a₁, w₁, hq, .pass (x := .inLoop c) rfl (fun _ _ => .inl (by simp)) harr⟩
      | panic ch => exact ⟨_, a₁, w₁, hq, .pass (x := .inLoop c) rfl (fun _ _ => .inl (by simp)) harr⟩
      | outgrown => exact ⟨_, a₁, w₁, hq, .pass (x := .inLoop c) rfl (fun _ _ => .inl (by simp)) harr⟩
  obtain ⟨e, a', w', hq, harr⟩ := key m a w h0
  exact ⟨e, a', w', hq, .of_steps (.one (fenced_calm hb hr rfl) stepR_loop) harr⟩

theorem orBad_inv {o : Option IC} {ir : IC} (h : orBad o = some ir) : o = some ir ∨ ir = .bad := by
  cases o with
  | none => cases h; exact .inr rfl
  | some i => cases h; exact .inl rfl
theorem bad_ev {k : Nat} {call : CallT} {e : Env} {S : Stack} {r : IX × Env × Stack} : evC k call .bad e S ≠ some r := by
  intro h; cases h
section
variable {P : Program} {an : Ann} {fn n : Nat} {B0 : Nat → Prop}

/-- A block for a range's deferred calls. -/
theorem Rel.mark {g : G} {S : Stack} {w : World} (h : Rel P g S w) :
    Rel P { g with B := fun b => g.B b ∨ b = w.heap.size } S (w.alloc (.deferred (some []))) ∧ Le S.length g { g with B := fun b => g.B b ∨ b = w.heap.size } w (w.alloc (.deferred (some []))) := by
  have hO : ∀ b x, g.O b = some x → b < w.heap.size := fun b x hb => (h.ow b x hb).1
  have hI : ∀ b o, g.I b = some o → b < w.heap.size := fun b o hb => (Array.getElem?_eq_some_iff.1 (h.im b o hb).1).1
  have hB : ∀ b, g.B b → b < w.heap.size := fun b hb => (Array.getElem?_eq_some_iff.1 (h.bm b hb)).1
  refine ⟨⟨RelS.frame (fun _ _ h => h) h.rs fun b l id hb _ => ⟨hb, heap_alloc_old _ _ _ (hO b _ hb)⟩, fun b o hb => ⟨(heap_alloc_old _ _ _ (hI b o hb)).trans (h.im b o hb).1, (h.im b o hb).2.1, fun hx => ?_⟩, fun b x hb => ⟨?_, fun hx => ?_⟩, fun b hb => ?_, h.lv⟩,
    ⟨rfl, rfl, rfl, by simp, .refl _, fun _ _ h => h, fun _ _ => rfl, fun _ _ => rfl, fun b hb => ⟨fun h => h.elim id fun e => by omega, .inl⟩, fun b hb _ => heap_alloc_old _ _ _ hb⟩⟩
  · rcases hx with hx | hx
    · exact (h.im b o hb).2.2 hx
    · have := hI b o hb; omega
  · have := hO b x hb; simp; omega
  · rcases hx with hx | hx
    · exact (h.ow b x hb).2 hx
    · have := hO b x hb; omega
  · rcases hb with hb | hb
    · exact (heap_alloc_old _ _ _ (hB b hb)).trans (h.bm b hb)
    · subst hb; exact heap_alloc_new w _

theorem run_resolve_range {a : Act} {g : Operand} {f : Fn} {first cap : Array Value} (hf : a.eval g = .func f first cap) (l : Nat) (w : World) :
    (resolve a.eval (rangeCall g l) 0).run P w = .ok { target := .fn f cap, args := first ++ #[Value.func (.yield l) #[] #[]] } w := by
  have hc : a.eval (.const (.func (.yield l) #[] #[])) = .func (.yield l) #[] #[] := rfl
  simp [resolve, hf, Deferred.ofValue, hc]

theorem RV_isFnF {I : IMap} : ∀ (v : AV) {Ms : List MMap} {x : Value}, isFnF v = true → RV I v Ms x → ∃ k xs ys, x = .func (.func k) xs ys
  | .func (.func f) fi ca, _, _, _, h => by obtain ⟨xs, ys, rfl, _⟩ := h; exact ⟨_, _, _, rfl⟩
  | .ext v, _, _, hf, h => by obtain ⟨_, _, _, h1⟩ := h; exact RV_isFnF v hf h1
  | .func (.yield _) _ _, _, _, hf, _ => by cases hf
  | .func (.method ..) _ _, _, _, hf, _ => by cases hf
  | .func (.methodOf ..) _ _, _, _, hf, _ => by cases hf
  | .func (.via ..) _ _, _, _, hf, _ => by cases hf
  | .undef, _, _, hf, _ | .bool _, _, _, hf, _ | .int _ _, _, _, hf, _ | .str _, _, _, hf, _ | .nilptr, _, _, hf, _ | .ptr .., _, _, hf, _ | .iptr .., _, _, hf, _ | .imm .., _, _, hf, _
  | .ref .., _, _, hf, _ | .nilmap, _, _, hf, _ | .map _, _, _, hf, _ | .nilFunc, _, _, hf, _ | .iface .., _, _, hf, _ | .nilIface, _, _, hf, _ | .agg _, _, _, hf, _ | .tuple _, _, _, hf, _ => by cases hf

/-- A range over a function. -/
theorem range_sim {call : CallT} {K : IMap} (hcall : CallSim P K call) {k : Nat} {all : List Nat} {gf : Operand} {ps : Array Tmp} {asg body : Code} {ir : IC} (hc : cC P an fn n all false (.rangeFunc gf ps asg body) = some ir)
    {e : Env} {a : Act} {g : G} {S : Stack} {w : World} (hK : KIn K g) (he : EnvR g.I g.Ms n e a.tmps) (hr : Rel P g S w) (hm : Marks B0 g.B a.defers) {x : IX} {e' : Env} {S' : Stack} (hev : evC k call ir e S = some (x, e', S')) :
    (Code.rangeFunc gf ps asg body).wpIn Fence.wide 0 P (PostC P n B0 g S w x e' S') a w := by
  simp only [cC, cond_false] at hc
  rcases orBad_inv hc with hc | rfl
  case inr => exact absurd hev bad_ev
  split at hc
  · rename_i go ia ib h1 h2 h3
    cases hps : ps.toList.all (Nat.blt · n) with
    | false => rw [hps] at hc; cases hc
    | true =>
      rw [hps] at hc
      simp only [cond_true, Option.some.injEq] at hc
      subst hc
      simp only [evC] at hev
      cases S with
      | nil => cases hev
      | cons H S0 =>
        simp only at hev
        cases hfn : isFnF (go.ev e) with
        | false => rw [hfn] at hev; cases hev
        | true =>
          rw [hfn] at hev
          simp only [Bool.not_true, cond_false] at hev
          split at hev
          · rename_i r0 H2 S2 hcl
            split at hev
            · rename_i L hL
              have hex : ∃ M Ms, g.Ms = M :: Ms := by
                have := hr.rs
                cases hMs : g.Ms with
                | nil => rw [hMs] at this; exact this.elim
                | cons M Ms => exact ⟨M, Ms, rfl⟩
              obtain ⟨M, Ms, hMs⟩ := hex
              obtain ⟨hr1, hl1⟩ := hr.mark
              refine wpIn_rangeFunc fun fid hfid => ?_
              have hpar : ∀ t ∈ ps.toList, t < n := fun t ht => by
                exact Nat.le_of_ble_eq_true (List.all_eq_true.1 hps t ht)
              obtain ⟨g2, hr2, hl2, M2, hM2, hid⟩ := Rel.alloc (g := { g with B := fun b => g.B b ∨ b = w.heap.size }) hMs hr1 (.loop ⟨.ready, none, e, ps.toList, ia, ib⟩)
                (.loop { state := .ready, pending := none, fn := fid, tmps := a.tmps, params := ps, assign := asg, body := body, defers := w.heap.size }) 0 0
                (fun O' M' hp' hle hm0 _ hO' hhp => ⟨_, 0, _, hm0, hO', hhp, ⟨trivial, trivial, ⟨n, ⟨he.1, fun i => RV.mono (fun _ _ h => h) _ (hMs ▸ hle) (he.2 i)⟩, ⟨an, fn, all, h2⟩, ⟨an, fn, all, h3⟩, hpar⟩, rfl⟩⟩)
              have hl02 := hl1.trans hl2
              have he2 := he.le hl02
              have hfv := cO_RV h1 he2
              obtain ⟨kf, first, cap, hfe⟩ := RV_isFnF _ hfn hfv
              have hsz : (w.alloc (.deferred (some []))).heap.size = w.heap.size + 1 := by simp
              rw [hsz] at hid
              have harg : RVs g2.I [.func (.yield H.length) [] []] g2.Ms false [.func (.yield (w.heap.size + 1)) #[] #[]] :=
                ⟨_, [], rfl, ⟨M2, Ms, _, _, hM2, hid, rfl⟩, (fun h => by cases h), rfl⟩
              obtain ⟨ff, first', cap', e1, e2⟩ := hcall hcl (hK.le hl02) hr2 hfv harg
              rw [hfe] at e1
              cases e1
              generalize hw2 : ((w.alloc (.deferred (some []))).alloc (.loop { state := .ready, pending := none, fn := fid, tmps := a.tmps, params := ps, assign := asg, body := body, defers := w.heap.size })) = w2 at *
              rcases e2 with ⟨k2, args, i1, i2⟩ | ⟨_, _, _, _, _, _, i0, _⟩
              case inr => cases i0
              refine ⟨w.heap.size + 1, [{ target := .collected w.heap.size, args := #[] }], w2, _, w2, k2, args, w2, ?_, run_resolve_range hfe _ _, fun _ _ => trivial, i1, (fun h => by cases h), ?_⟩
              · rw [← hw2]; exact run_enterLoop_outer fid a.tmps ps asg body
              refine i2.mono ?_
              rintro en w' ⟨g', k1, k2', k3⟩
              cases en with
              | panicked ch => exact k3.elim
              | outgrown => exact k3.elim
              | returned y =>
                have hms := k2'.ms
                rw [hM2] at hms
                obtain ⟨N, Ns, hN, hN1, hN2⟩ := hms.cons_inv
                have hrs := k1.rs
                rw [hN] at hrs
                obtain ⟨blk, tot, r, m1, o1, p1, LR⟩ := hrs.1 _ _ hL
                cases (hN1 _ _ _ hid).symm.trans m1
                have hlenS : S2.length = S0.length := by
                  have := Rel.length_eq hr2 k1 k2'
                  simpa using this
                have hbusy : L.state ≠ .busy := fun h => by rw [h] at hev; cases hev
                have hrb : r.state ≠ .busy := fun h => by
                  have := LR.state
                  rw [h] at this
                  cases hL' : L.state with
                  | ready => rw [hL'] at this; exact this
                  | busy => exact hbusy hL'
                  | done => rw [hL'] at this; exact this
                have hidlt : H.length < H2.length := (List.getElem?_eq_some_iff.1 hL).1
                have hblt : w.heap.size + 1 < w'.heap.size := (Array.getElem?_eq_some_iff.1 p1).1
                obtain ⟨hr4, hl4⟩ := Rel.change (w' := w'.putObj (w.heap.size + 1) (.loop { r with state := .exhausted })) hN k1 H.length .dead (H2.set H.length .dead) N g'.O rfl rfl rfl (by simp)
                  (fun b hb hne => World.putObj_heap_other fun hbe => hne (by rw [hbe]; exact o1))
                  (fun j hj => List.getElem?_set_ne (Ne.symm hj)) (by simp [hidlt]) (by simp) (fun _ _ _ => rfl) (fun _ _ h => h) (fun lim p hp => (hrs.2.1 _ _ _ hp).2) (fun _ _ => rfl)
                  (fun b hb x hx => by have := (k1.ow b x hx).1; omega) trivial
                have hl24 : Le (H :: S0).length g _ w (w'.putObj (w.heap.size + 1) (.loop { r with state := .exhausted })) := hl02.trans ((show Le (H :: S0).length g2 g' w2 w' from k2').trans (by rw [hlenS] at hl4; exact hl4))
                refine ⟨r.pending, _, run_endLoop p1 hrb, ?_⟩
                have hmk : Marks B0 { g' with Ms := N :: Ns, O := g'.O }.B ([{ target := .collected w.heap.size, args := #[] }] ++ a.defers) := by
                  have hm' := hm.le hr hl24
                  obtain ⟨q0, bs, q1, q2, q3⟩ := hm'
                  obtain ⟨p0, bs', p1', _, p3'⟩ := hm
                  have hbb : bs = bs' := by
                    rw [p1'] at q1
                    have hinj : ∀ (x y : List Nat), x.map (fun b => ({ target := .collected b, args := #[] } : Deferred)) = y.map (fun b => { target := .collected b, args := #[] }) → x = y := by
                      intro x
                      induction x with
                      | nil => intro y h; cases y with
                        | nil => rfl
                        | cons => cases h
                      | cons c x ih => intro y h; cases y with
                        | nil => cases h
                        | cons d y => simp only [List.map_cons, List.cons.injEq, Deferred.mk.injEq, Target.collected.injEq, and_true] at h; rw [h.1, ih y h.2]
                    exact (hinj _ _ q1).symm
                  subst hbb
                  have hsmall : ∀ b, g.B b → b < w.heap.size := fun b hb => (Array.getElem?_eq_some_iff.1 (hr.bm b hb)).1
                  refine ⟨q0, w.heap.size :: bs, by rw [q1]; rfl, List.nodup_cons.2 ⟨fun hin => ?_, q2⟩, fun b hb => ?_⟩
                  · have := hsmall _ (p3' _ hin).1; omega
                  · rcases List.mem_cons.1 hb with rfl | hb
                    · refine ⟨?_, fun h0 => by have := hsmall _ (p0 _ h0); omega⟩
                      have hlt2 : w.heap.size < w2.heap.size := by rw [← hw2]; simp; omega
                      exact (k2'.oB _ hlt2).2 ((hl2.oB _ (by simp)).2 (.inr rfl))
                    · exact q3 b hb
                have hpost : ∀ ex, XE { g' with Ms := N :: Ns, O := g'.O }.I { g' with Ms := N :: Ns, O := g'.O }.Ms (L.pending.getD .normal) ex → PostC P n B0 g (H :: S0) w x e' S' ex { tmps := a.tmps, defers := [{ target := .collected w.heap.size, args := #[] }] ++ a.defers } (w'.putObj (w.heap.size + 1) (.loop { r with state := .exhausted })) := fun ex hex => by
                  have hev' : some (L.pending.getD IX.normal, e, H2.set H.length .dead :: S2) = some (x, e', S') := by
                    cases hLs : L.state with
                    | busy => exact absurd hLs hbusy
                    | ready => rw [hLs] at hev; exact hev
                    | done => rw [hLs] at hev; exact hev
                  simp only [Option.some.injEq, Prod.mk.injEq] at hev'
                  obtain ⟨rfl, rfl, rfl⟩ := hev'
                  exact ⟨_, hr4, hl24, he.le hl24, hmk, hex⟩
                generalize w'.putObj (w.heap.size + 1) (.loop { r with state := .exhausted }) = w4 at hpost ⊢
                have hp := LR.pending
                cases hrp : r.pending with
                | none =>
                  cases hLp : L.pending with
                  | none => exact hpost .normal (by rw [hLp]; trivial)
                  | some x => rw [hrp, hLp] at hp; exact hp.elim
                | some c =>
                  cases hLp : L.pending with
                  | none => rw [hrp, hLp] at hp; exact hp.elim
                  | some x' =>
                    rw [hrp, hLp] at hp
                    cases x' with
                    | normal => exact hp.elim
                    | panic v => exact hp.elim
                    | exit i =>
                      cases c with
                      | exit j => exact wpIn_exit (hpost (.exit j) (by rw [hLp]; exact hp))
                      | _ => exact hp.elim
                    | ret =>
                      cases c with
                      | ret => exact wpIn_ret (hpost .ret (by rw [hLp]; trivial))
                      | _ => exact hp.elim
            · cases hev
          · cases hev
  · cases hc
end
end Go.AS

/-
  Regions whose operations are gone through in all orders that tell. By an AI agent.
-/
namespace Go.AS
open Go
set_option maxHeartbeats 1000000

theorem evAll_spec {call : CallT} {e : Env} {S : Stack} {e1 : Env} {S1 : Stack} : ∀ {ls : List (List IOper)}, evAll call e S ls = some (e1, S1) → ∀ l ∈ ls, evOps call l e S = some (.go e1 S1) := by
  have hag : ∀ {r : List (List IOper)} {e1 : Env} {S1 : Stack}, agree call e S e1 S1 r = true → ∀ l ∈ r, evOps call l e S = some (.go e1 S1) := by
    intro r
    induction r with
    | nil => intro _ _ _ l hl; cases hl
    | cons a r ih =>
      intro e1 S1 h l hl
      simp only [agree] at h
      split at h
      · rename_i e2 S2 h2
        cases hb : (decide (e2 = e1) && decide (S2 = S1)) with
        | false => rw [hb] at h; cases h
        | true =>
          rw [hb] at h
          simp only [Bool.and_eq_true, decide_eq_true_eq] at hb
          obtain ⟨rfl, rfl⟩ := hb
          rcases List.mem_cons.1 hl with rfl | hl
          · exact h2
          · exact ih h l hl
      · cases h
  intro ls
  cases ls with
  | nil => intro h; cases h
  | cons a r =>
    intro h l hl
    simp only [evAll] at h
    split at h
    · rename_i e2 S2 h2
      cases hb : agree call e S e2 S2 r with
      | false => rw [hb] at h; cases h
      | true =>
        rw [hb] at h
        simp only [cond_true, Option.some.injEq, Prod.mk.injEq] at h
        obtain ⟨rfl, rfl⟩ := h
        rcases List.mem_cons.1 hl with rfl | hl
        · exact h2
        · exact hag hb l hl
    · cases h

theorem evOps_back {call : CallT} {i : IOper} {B : List IOper} : ∀ {A : List IOper} {e e1 : Env} {S S1 : Stack}, (∀ x ∈ A, pairOk i x = true) → S ≠ [] → evOps call (i :: (A ++ B)) e S = some (.go e1 S1) → ∃ e1', evOps call (A ++ i :: B) e S = some (.go e1' S1) ∧ Same e1 e1'
  | [], e, e1, S, S1, _, _, h => ⟨e1, h, .refl _⟩
  | a :: A, e, e1, S, S1, hp, hS, h => by
    simp only [List.cons_append, evOps] at h
    split at h
    · rename_i ei Si hi
      split at h
      · rename_i e2 S2 ha
        obtain ⟨ea, Sa, e2', h1, h2, h3⟩ := swap (hp a (by simp)) hS hi ha
        obtain ⟨e1'', h4, h5⟩ := evOps_same h h3
        have hSa : Sa ≠ [] := by obtain ⟨_, _, n, _⟩ := evOper_shape h1; exact n hS
        obtain ⟨e3, h6, h7⟩ := evOps_back (A := A) (e := ea) (S := Sa) (fun x hx => hp x (by simp [hx])) hSa (show evOps call (i :: (A ++ B)) ea Sa = some (.go e1'' S1) by simp only [evOps, h2]; exact h4)
        exact ⟨e3, by simp only [List.cons_append, evOps, h1]; exact h6, h5.trans h7⟩
      · rename_i hno
        exact absurd h (hno _ _)
    · rename_i hno
      exact absurd h (hno _ _)

theorem classOf_abs (b : Nat) (op : IOp) : classOf (absP b op) = classOf op := by cases op <;> rfl
theorem opds_abs (b : Nat) (op : IOp) : opds (absP b op) = opds op := by cases op <;> rfl
theorem pairOk_abs (b : Nat) (x y : IOper) : pairOk (absO b x) (absO b y) = pairOk x y := by
  simp only [pairOk, looks, absO, classOf_abs, opds_abs]
theorem pairAt_abs (b : Nat) (ios : List IOper) (i k : Nat) : pairAt (ios.map (absO b)) i k = pairAt ios i k := by
  unfold pairAt
  rw [List.getElem?_map, List.getElem?_map]
  cases ios[i]? <;> cases ios[k]? <;> simp [pairOk_abs]
theorem reps_abs (b : Nat) (ios : List IOper) (azs : List (List Nat)) : ∀ (f : Nat) (rest : List Nat), reps (ios.map (absO b)) azs f rest = reps ios azs f rest
  | 0, _ => by simp [reps]
  | f + 1, [] => by simp [reps]
  | f + 1, a :: r => by
    have h : ampleR (ios.map (absO b)) azs (a :: r) = ampleR ios azs (a :: r) := by
      funext i
      simp only [ampleR, pairAt_abs]
    simp only [reps, h, reps_abs b ios azs f]
theorem fm_abs (b : Nat) (ios : List IOper) (l : List Nat) : (l.filterMap (ios[·]?)).map (absO b) = l.filterMap ((ios.map (absO b))[·]?) := by
  induction l with
  | nil => rfl
  | cons i l ih =>
    simp only [List.filterMap_cons, List.getElem?_map]
    cases ios[i]? with
    | none => simpa using ih
    | some x => simp only [Option.map_some, List.map_cons, ih, List.getElem?_map]

/-- An order of what is left, in which nothing comes behind what it must come ahead of. -/
def Lin (azs : List (List Nat)) (rest L : List Nat) : Prop := L.Perm rest ∧ L.Pairwise fun x y => y ∉ azs.getD x []

theorem delN_mem {i k : Nat} {rest : List Nat} : k ∈ delN i rest ↔ k ∈ rest ∧ k ≠ i := by
  unfold delN
  rw [List.mem_filter]
  constructor
  · rintro ⟨h1, h2⟩
    refine ⟨h1, fun e => ?_⟩
    subst e
    rw [nbeq_self] at h2; cases h2
  · rintro ⟨h1, h2⟩
    exact ⟨h1, by rw [nbeq_false h2]; rfl⟩
theorem delN_perm {i : Nat} {rest A B : List Nat} (hn : rest.Nodup) (h : (A ++ i :: B).Perm rest) : (A ++ B).Perm (delN i rest) := by
  have h1 : (A ++ i :: B).Nodup := h.nodup_iff.2 hn
  have h2 := h.filter fun k => !(Nat.beq k i)
  have h3 : ∀ l : List Nat, i ∉ l → l.filter (fun k => !(Nat.beq k i)) = l := fun l hl => List.filter_eq_self.2 fun k hk => by
    rw [nbeq_false (show k ≠ i from fun e => hl (by rw [← e]; exact hk))]; rfl
  rw [List.nodup_append] at h1
  obtain ⟨_, h4, h5⟩ := h1
  rw [List.filter_append, List.filter_cons_of_neg (by rw [nbeq_self]; simp), h3 A (fun hi => h5 i hi i (by simp) rfl), h3 B (List.nodup_cons.1 h4).1] at h2
  exact h2
theorem Lin.del {azs : List (List Nat)} {i : Nat} {rest A B : List Nat} (hn : rest.Nodup) (h : Lin azs rest (A ++ i :: B)) : Lin azs (delN i rest) (A ++ B) :=
  ⟨delN_perm hn h.1, h.2.sublist (List.Sublist.append_left (List.sublist_cons_self _ _) _)⟩
theorem Lin.ready {azs : List (List Nat)} (hir : ∀ k, k ∉ azs.getD k []) {k : Nat} {rest L : List Nat} (h : Lin azs rest (k :: L)) : readyR azs rest k = true := by
  unfold readyR
  rw [List.all_eq_true]
  intro p hp
  cases hm : memN p rest with
  | false => rfl
  | true =>
    exfalso
    have := h.1.mem_iff.2 (memN_iff.1 hm)
    rcases List.mem_cons.1 this with rfl | hL
    · exact hir _ hp
    · exact (List.pairwise_cons.1 h.2).1 p hL hp
theorem delN_len {i : Nat} {rest : List Nat} (hi : i ∈ rest) : (delN i rest).length < rest.length := by
  unfold delN
  exact List.length_filter_lt_length_iff_exists.2 ⟨i, hi, by rw [nbeq_self]; simp⟩

section
variable {ios : List IOper} {azs : List (List Nat)} (hir : ∀ k, k ∉ azs.getD k [])
include hir
theorem reps_ne : ∀ {f : Nat} {rest L : List Nat}, rest.Nodup → Lin azs rest L → rest.length ≤ f → reps ios azs f rest ≠ []
  | 0, _, _, _, _, _ => by simp [reps]
  | f + 1, [], _, _, _, _ => by simp [reps]
  | f + 1, a :: r, L, hn, hl, hf => by
    simp only [reps]
    split
    · rename_i i hi
      have him : i ∈ a :: r := List.mem_of_find?_eq_some hi
      obtain ⟨A, B, rfl⟩ := List.append_of_mem (hl.1.mem_iff.2 him)
      have := reps_ne (f := f) (rest := delN i (a :: r)) (hn.filter _) (hl.del hn) (by have := delN_len him; omega)
      exact fun e => this (List.map_eq_nil_iff.1 e)
    · cases L with
      | nil => have := hl.1.length_eq; simp at this
      | cons k L =>
        have hk : k ∈ a :: r := hl.1.mem_iff.1 (by simp)
        have := reps_ne (f := f) (rest := delN k (a :: r)) (hn.filter _) (Lin.del (A := []) hn hl) (by have := delN_len hk; omega)
        intro e
        rw [List.flatMap_eq_nil_iff] at e
        have := e k hk
        rw [hl.ready hir] at this
        simp only [cond_true, List.map_eq_nil_iff] at this
        contradiction
theorem reps_ok {call : CallT} : ∀ {f : Nat} {rest L : List Nat} {e e1 : Env} {S S1 : Stack}, rest.Nodup → (∀ k ∈ rest, k < ios.length) → Lin azs rest L → rest.length ≤ f → S ≠ [] →
    (∀ l ∈ reps ios azs f rest, evOps call (l.filterMap (ios[·]?)) e S = some (.go e1 S1)) → ∃ e1', evOps call (L.filterMap (ios[·]?)) e S = some (.go e1' S1) ∧ Same e1 e1'
  | f, [], L, e, e1, S, S1, hn, hk, hl, hf, hS, h => by
    have : L = [] := hl.1.eq_nil
    subst this
    have := h [] (by cases f <;> simp [reps])
    exact ⟨e1, this, .refl _⟩
  | 0, a :: r, L, e, e1, S, S1, hn, hk, hl, hf, hS, h => by simp at hf
  | f + 1, a :: r, L, e, e1, S, S1, hn, hk, hl, hf, hS, h => by
    simp only [reps] at h
    have step : ∀ i A B, i ∈ a :: r → L = A ++ i :: B → (∀ l ∈ reps ios azs f (delN i (a :: r)), evOps call ((i :: l).filterMap (ios[·]?)) e S = some (.go e1 S1)) →
        ∃ io e1', ios[i]? = some io ∧ evOps call (io :: ((A ++ B).filterMap (ios[·]?))) e S = some (.go e1' S1) ∧ Same e1 e1' := by
      rintro i A B him rfl hall
      have hio : ios[i]? = some (ios[i]'(hk i him)) := List.getElem?_eq_getElem _
      have hlen := delN_len him
      obtain ⟨l0, hl0⟩ := List.exists_mem_of_ne_nil _ (reps_ne (ios := ios) hir (f := f) (hn.filter _) (hl.del hn) (by show (delN i (a :: r)).length ≤ f; omega))
      have h0 := hall l0 hl0
      simp only [List.filterMap_cons, hio, evOps] at h0
      split at h0
      · rename_i ei Si hi
        have hSi : Si ≠ [] := by obtain ⟨_, _, n, _⟩ := evOper_shape hi; exact n hS
        obtain ⟨e2, h2, h3⟩ := reps_ok (call := call) (f := f) (rest := delN i (a :: r)) (L := A ++ B) (e := ei) (e1 := e1) (S := Si) (S1 := S1) (hn.filter _) (fun k hk2 => hk k (delN_mem.1 hk2).1) (hl.del hn) (by omega) hSi (fun l hl1 => by
          have := hall l hl1
          simp only [List.filterMap_cons, hio, evOps, hi] at this
          exact this)
        exact ⟨_, e2, hio, by simp only [evOps, hi]; exact h2, h3⟩
      · rename_i hno
        exact absurd h0 (hno _ _)
    split at h
    · rename_i i hi
      have him : i ∈ a :: r := List.mem_of_find?_eq_some hi
      have ham := List.find?_some hi
      obtain ⟨A, B, hAB⟩ := List.append_of_mem (hl.1.mem_iff.2 him)
      obtain ⟨io, e2, hio, h2, h3⟩ := step i A B him hAB (fun l hl1 => h (i :: l) (List.mem_map.2 ⟨l, hl1, rfl⟩))
      rw [List.filterMap_append] at h2
      have hpair : ∀ x ∈ A.filterMap (ios[·]?), pairOk io x = true := by
        intro x hx
        obtain ⟨k, hkA, hkx⟩ := List.mem_filterMap.1 hx
        unfold ampleR at ham
        rw [Bool.and_eq_true] at ham
        have hkr : k ∈ a :: r := hl.1.mem_iff.1 (by rw [hAB]; simp [hkA])
        have := List.all_eq_true.1 ham.2 k hkr
        simp only [Bool.or_eq_true] at this
        have hnd : L.Nodup := hl.1.nodup_iff.2 hn
        rcases this with (h4 | h4) | h4
        · have := Nat.eq_of_beq_eq_true h4
          subst this
          rw [hAB, List.nodup_append] at hnd
          exact absurd rfl (hnd.2.2 k hkA k (by simp))
        · have hpw := hl.2
          rw [hAB, List.pairwise_append] at hpw
          exact absurd (memN_iff.1 h4) (hpw.2.2 k hkA i (by simp))
        · unfold pairAt at h4
          rw [hio, hkx] at h4
          exact h4
      obtain ⟨e3, h5, h6⟩ := evOps_back hpair hS h2
      refine ⟨e3, ?_, h3.trans h6⟩
      rw [hAB, List.filterMap_append, List.filterMap_cons, hio]
      exact h5
    · cases L with
      | nil => have := hl.1.length_eq; simp at this
      | cons k L =>
        have hkm : k ∈ a :: r := hl.1.mem_iff.1 (by simp)
        obtain ⟨io, e2, hio, h2, h3⟩ := step k [] L hkm rfl (fun l hl1 => h (k :: l) (List.mem_flatMap.2 ⟨k, hkm, by rw [hl.ready hir]; exact List.mem_map.2 ⟨l, hl1, rfl⟩⟩))
        refine ⟨e2, ?_, h3⟩
        rw [List.filterMap_cons, hio]
        exact h2
end
end Go.AS

/-
  Operations whose new objects' places are told. By an AI agent.
-/
namespace Go.AS
open Go
set_option maxHeartbeats 4000000
section
variable {P : Program} {an : Ann} {fn : Nat} {I : IMap} {Ms : List MMap} {n : Nat} {e : Env} {a : Act}
theorem oper_simAt {call : CallT} {K : IMap} (hcall : CallSim P K call) {F : Fence} (hF : Wide F) {ops : Array Oper} {o : Oper} {io : IOper} (hc : cOper P an fn n ops.toList o = some io) {g : G} {S : Stack} {w : World} (hK : KIn K g) (he : EnvR g.I g.Ms n e a.tmps) (hr : Rel P g S w) {B0 : Nat → Prop} (hm : Marks B0 g.B a.defers)
    {out : OR} {b0 : Nat} (hev : evOper call (absO b0 io) e S = some out) {next : Act → World → Prop} {Q : Exit → Act → World → Prop}
    (hgo : ∀ e' S', out = .go e' S' → ∀ g' a' w', EnvR g'.I g'.Ms n e' a'.tmps → Rel P g' S' w' → Le S.length g g' w w' → Marks B0 g'.B a'.defers → next a' w')
    (hpan : ∀ v e' S', out = .pan v e' S' → ∀ g' w' x, EnvR g'.I g'.Ms n e' a.tmps → Rel P g' S' w' → Le S.length g g' w w' → Marks B0 g'.B a.defers → RV g'.I v g'.Ms x → Q (.panic [{ v := x, recovered := false }]) a w') :
    (if Region.wanted o (yielded ops a.tmps) then o.wpIn F 0 P a w next Q else next (a.put o.dst undef) w) := by
  unfold cOper at hc
  split at hc
  · rename_i op gd hop hgo'
    cases hd : dstOk o.dst n with
    | false => rw [hd] at hc; cases hc
    | true =>
      rw [hd] at hc
      have hc0 : cOper P an fn n ops.toList o = some io := by unfold cOper; rw [hop, hgo']; simp only [hd]; exact hc
      cases hc
      have hdst : ∀ i, o.dst = some i → i < n := fun i hi => by rw [hi] at hd; simpa [dstOk] using hd
      rcases slotOp_cases an.sl o.dst op with hslot | ⟨d, z, hal, hslot⟩ | ⟨d, hal, hslot⟩
      · have hid : absO b0 ⟨o.dst, slotOp an.sl o.dst op, gd⟩ = ⟨o.dst, slotOp an.sl o.dst op, gd⟩ := by
          rw [hslot]
          unfold absO absP
          cases op
          case allocA d z => exact (cOp_noA hop).elim
          case mapA d => exact (cOp_noM hop).elim
          all_goals rfl
        rw [hid] at hev
        exact oper_sim hcall hF hc0 hK he hr hm hev hgo hpan
      · -- a new object at a place that was kept
        unfold evOper at hev
        simp only [absO, hslot, absP] at hev
        have hopal : ∃ tt, o.op = .alloc tt := by
          rw [hal] at hop
          exact cOp_alloc hop
        obtain ⟨tt, htt⟩ := hopal
        have hok : ∀ H S0 v H', S = H :: S0 → evOp e H (.allocAt (b0 - d) z) = some (v, H') → out = .go (putD e o.dst v) (H' :: S0) → Region.wanted o (yielded ops a.tmps) = true →
            (if Region.wanted o (yielded ops a.tmps) then o.wpIn F 0 P a w next Q else next (a.put o.dst undef) w) := by
          rintro H S0 v H' rfl h1 h2 hw
          simp only [hw, if_true]
          refine ⟨fun f _ => hF.anyFn f, ?_⟩
          rw [Oper.semAt_eq _ _ _ (fun c hcc => by rw [htt] at hcc; cases hcc)]
          simp only [evOp] at h1
          split at h1
          · rename_i hid
            cases hb : true with
            | false => cases hb
            | true =>
              obtain ⟨rfl, rfl⟩ := ok_inv h1
              rw [hal, htt] at hop
              simp only [cOp] at hop
              split at hop
              · rename_i z' m _ h3 h4
                cases hb2 : Nat.beq z'.length m with
                | false => rw [hb2] at hop; cases hop
                | true =>
                  rw [hb2] at hop
                  cases hop
                  obtain ⟨M, Ms, hg⟩ := hr.Ms_cons
                  obtain ⟨i, zv, hi, hz, hrz⟩ := zeroCs_RV h3 g.I g.Ms
                  have hl := hrz.length
                  obtain ⟨g', k1, k2, M', k3, k4⟩ := Rel.allocSlot hg hr hid (c := zv.cells) tt (by rw [take_all _ hl]; exact hrz) (Nat.le_refl _) (by rw [← Array.length_toList]; omega)
                  have hrun : (execOp a.eval o).run P w = .ok (.value (.pointer (some ⟨w.heap.size, 0, none⟩))) (w.alloc (.cells zv.cells tt)) := by simp [execOp, htt, Instr.alloc, run_zeroValue hi hz, run_newVar]
                  rw [hrun, Oper.uponIn_value]
                  exact hgo _ _ h2 g' _ _ ((he.le k2).put ⟨M', Ms, _, _, k3, k4, rfl⟩ hdst) k1 k2 (by have := hm.le hr k2; cases o.dst <;> exact this)
              · cases hop
              · cases hop
          · cases h1
        have hwantS : ∀ b, guardA e gd = some b → Region.wanted o (yielded ops a.tmps) = b := fun b hb => want_of hgo' he hb
        split at hev
        · cases hev
        · rename_i hgd
          have := hwantS _ hgd
          rw [this]
          cases hev
          simp only [Bool.false_eq_true, if_false]
          exact hgo _ _ rfl g _ w (he.put (show RV g.I (.tuple []) g.Ms undef from ⟨#[], rfl, rfl⟩) hdst) hr (.refl _ _ _) (by cases o.dst <;> exact hm)
        · rename_i hgd
          have := hwantS _ hgd
          split at hev
          · cases hev
          · rename_i H S0
            split at hev
            · rename_i v H' hv
              cases hev
              exact hok H S0 v H' rfl hv rfl this
            · cases hev
      · -- a new map at a place that was kept
        unfold evOper at hev
        simp only [absO, hslot, absP] at hev
        have hopal : ∃ tt r, o.op = .makeMap tt r := by
          have hop := hop
          rw [hal] at hop
          exact cOp_mkmap hop
        obtain ⟨tt, rr, htt⟩ := hopal
        have hok : ∀ H S0 v H', S = H :: S0 → evOp e H (.mapAt (b0 - d)) = some (v, H') → out = .go (putD e o.dst v) (H' :: S0) → Region.wanted o (yielded ops a.tmps) = true →
            (if Region.wanted o (yielded ops a.tmps) then o.wpIn F 0 P a w next Q else next (a.put o.dst undef) w) := by
          rintro H S0 v H' rfl h1 h2 hw
          simp only [hw, if_true]
          refine ⟨fun f _ => hF.anyFn f, ?_⟩
          rw [Oper.semAt_eq _ _ _ (fun c hcc => by rw [htt] at hcc; cases hcc)]
          simp only [evOp] at h1
          split at h1
          · rename_i hid
            cases hb : true with
            | false => cases hb
            | true =>
              obtain ⟨rfl, rfl⟩ := ok_inv h1
              obtain ⟨M, Ms, hg⟩ := hr.Ms_cons
              obtain ⟨g', k1, k2, M', k3, k4⟩ := Rel.mapSlot hg hr hid
              rw [makeMap_run htt hop, Oper.uponIn_value]
              exact hgo _ _ h2 g' _ _ ((he.le k2).put ⟨M', Ms, _, _, k3, k4, rfl⟩ hdst) k1 k2 (by have := hm.le hr k2; cases o.dst <;> exact this)
          · cases h1
        have hwantS : ∀ b, guardA e gd = some b → Region.wanted o (yielded ops a.tmps) = b := fun b hb => want_of hgo' he hb
        split at hev
        · cases hev
        · rename_i hgd
          have := hwantS _ hgd
          rw [this]
          cases hev
          simp only [Bool.false_eq_true, if_false]
          exact hgo _ _ rfl g _ w (he.put (show RV g.I (.tuple []) g.Ms undef from ⟨#[], rfl, rfl⟩) hdst) hr (.refl _ _ _) (by cases o.dst <;> exact hm)
        · rename_i hgd
          have := hwantS _ hgd
          split at hev
          · cases hev
          · rename_i H S0
            split at hev
            · rename_i v H' hv
              cases hev
              exact hok H S0 v H' rfl hv rfl this
            · cases hev
  · cases hc
end
end Go.AS

/-
  Regions whose operations are gone through in all orders that tell (2). By an AI agent.
-/
namespace Go.AS
open Go
set_option maxHeartbeats 1000000

theorem aheadIn_spec : ∀ {l : List (List Nat)} {c i : Nat} {ps : List Nat}, aheadIn c l = true → l[i]? = some ps → ∀ p ∈ ps, p < c + i
  | [], _, _, _, _, h => by simp at h
  | q :: r, c, 0, ps, ha, h => by
    simp only [List.getElem?_cons_zero, Option.some.injEq] at h
    subst h
    simp only [aheadIn, Bool.and_eq_true, List.all_eq_true] at ha
    intro p hp
    exact Nat.le_of_ble_eq_true (ha.1 p hp)
  | q :: r, c, i + 1, ps, ha, h => by
    simp only [List.getElem?_cons_succ] at h
    simp only [aheadIn, Bool.and_eq_true] at ha
    intro p hp
    have := aheadIn_spec ha.2 h p hp
    omega
theorem ahead_irr {azs : List (List Nat)} (h : aheadIn 0 azs = true) (k : Nat) : k ∉ azs.getD k [] := by
  intro hk
  rw [List.getD_eq_getElem?_getD] at hk
  cases hq : azs[k]? with
  | none => rw [hq] at hk; simp at hk
  | some ps =>
    rw [hq] at hk
    have := aheadIn_spec h hq k hk
    omega

theorem lin_lin {ops : Array Oper} (hd : aheadIn 0 (aheadOf [] ops.toList) = true) :
    ∀ (fuel t : Nat) (listed : Array Bool), listed.size = ops.size → (left ops.size listed).length ≤ fuel →
      (∀ (k : Nat) (qs : List Nat), listed.getD k true = true → k < ops.size → (aheadOf [] ops.toList)[k]? = some qs → ∀ i ∈ qs, listed.getD i true = true) →
      Lin (aheadOf [] ops.toList) (left ops.size listed) (Region.linearise.go .any ops fuel t listed []) := by
  have hz : ∀ (i : Nat) (o : Oper), ops[i]? = some o → ∃ ps, (aheadOf [] ops.toList)[i]? = some ps ∧ (∀ ed ∈ o.after, Region.binds .any ed = true → ed.on ∈ ps) ∧
      ∀ k ∈ ps, ∃ ed ∈ o.after, Region.binds .any ed = true ∧ (k = ed.on ∨ ∃ qs, (aheadOf [] ops.toList)[ed.on]? = some qs ∧ k ∈ qs) := fun i o ho => by
    obtain ⟨ps, h1, h0, h2⟩ := aheadOf_spec ops.toList [] i o (by rw [Array.getElem?_toList]; exact ho)
    simp only [List.length_nil, Nat.zero_add] at h1
    exact ⟨ps, h1, h0, h2⟩
  intro fuel
  induction fuel with
  | zero =>
    intro t listed _ hf _
    have : left ops.size listed = [] := List.length_eq_zero_iff.1 (Nat.le_zero.1 hf)
    rw [this]
    exact ⟨.refl _, .nil⟩
  | succ fuel ih =>
    intro t listed hsz hf hcl
    simp only [Region.linearise.go]
    change Lin (aheadOf [] ops.toList) (left ops.size listed) (match (Region.ready .any ops listed)[t % (Region.ready .any ops listed).length]? with
      | some i => Region.linearise.go .any ops fuel (t / (Region.ready .any ops listed).length) (listed.setIfInBounds i true) [i]
      | none => [].reverse)
    cases hi : (Region.ready .any ops listed)[t % (Region.ready .any ops listed).length]? with
    | none =>
      have hnil : Region.ready .any ops listed = [] := by
        cases hr : Region.ready .any ops listed with
        | nil => rfl
        | cons x xs =>
          rw [hr] at hi
          have hlt : t % (x :: xs).length < (x :: xs).length := Nat.mod_lt _ (by simp)
          simp at hi
          simp at hlt
          omega
      have hl : left ops.size listed = [] := by
        cases hl : left ops.size listed with
        | nil => rfl
        | cons i r =>
          exfalso
          have hmem : i ∈ left ops.size listed := by rw [hl]; simp
          obtain ⟨hm1, hm2⟩ := List.mem_filter.1 hmem
          have hilt := List.mem_range.1 hm1
          have hun : listed.getD i true = false := by simpa using hm2
          have ho : ops[i]? = some ops[i] := Array.getElem?_eq_getElem hilt
          have hrd : i ∈ Region.ready .any ops listed := by
            rw [mem_ready]
            refine ⟨hun, _, ho, fun ed hed hb => ?_⟩
            obtain ⟨ps, hps, hin, _⟩ := hz i _ ho
            have hlt := aheadIn_spec hd hps _ (hin ed hed hb)
            have hsz2 : ed.on < listed.size := by omega
            cases hx : listed.getD ed.on true with
            | true =>
              simp only [Array.getD_eq_getD_getElem?, Array.getElem?_eq_getElem hsz2, Option.getD_some] at hx ⊢
              exact hx
            | false =>
              obtain ⟨A, B, hA, _, hAlt⟩ := left_split hsz hx
              rw [hl] at hA
              cases A with
              | nil => simp only [List.nil_append, List.cons.injEq] at hA; omega
              | cons a A =>
                simp only [List.cons_append, List.cons.injEq] at hA
                have := (hAlt a (by simp)).1
                omega
          rw [hnil] at hrd
          cases hrd
      rw [hl]
      exact ⟨.refl _, .nil⟩
    | some i =>
      have hrd : i ∈ Region.ready .any ops listed := List.mem_of_getElem? hi
      obtain ⟨hun, o, ho, hall⟩ := mem_ready.1 hrd
      obtain ⟨A, B, hA, hB, hAlt⟩ := left_split hsz hun
      obtain ⟨ps, hps, _, hdirect⟩ := hz i o ho
      simp only
      rw [linearise_go_acc, List.reverse_singleton, List.singleton_append]
      have hcl0 : ∀ k ∈ ps, listed.getD k true = true := fun k hk => by
        obtain ⟨ed, hed, hb, hk⟩ := hdirect k hk
        have hon := hall ed hed hb
        have hlt : ed.on < listed.size := by
          rcases Nat.lt_or_ge ed.on listed.size with h | h
          · exact h
          · simp [Array.getElem?_eq_none h] at hon
        have hon' : listed.getD ed.on true = true := by
          simp only [Array.getD_eq_getD_getElem?, Array.getElem?_eq_getElem hlt, Option.getD_some] at hon ⊢
          exact hon
        rcases hk with rfl | ⟨qs, hq, hk⟩
        · exact hon'
        · exact hcl _ qs hon' (by omega) hq k hk
      have hilt : i < ops.size := (Array.getElem?_eq_some_iff.1 ho).1
      have hih := ih (t / (Region.ready .any ops listed).length) (listed.setIfInBounds i true) (by simpa using hsz) (by
            rw [hB]; rw [hA] at hf; simp at hf ⊢; omega) (fun k qs hk hkl hq x hx => by
            by_cases hki : k = i
            · subst hki
              cases hps.symm.trans hq
              have := hcl0 x hx
              by_cases hxi : k = x
              · subst hxi; simp [hsz, hkl]
              · rw [getD_set_ne true hxi]; exact this
            · rw [getD_set_ne true (Ne.symm hki)] at hk
              have := hcl k qs hk hkl hq x hx
              by_cases hxi : i = x
              · subst hxi; rw [this] at hun; cases hun
              · rw [getD_set_ne true hxi]; exact this)
      rw [hB] at hih
      rw [hA]
      refine ⟨(hih.1.cons i).trans List.perm_middle.symm, List.pairwise_cons.2 ⟨fun y hy hin => ?_, hih.2⟩⟩
      have hyl : y ∈ left ops.size listed := by
        have := hih.1.mem_iff.1 hy
        rw [hA]
        rcases List.mem_append.1 this with h | h
        · simp [h]
        · simp [h]
      have hyn : listed.getD y true = false := by simpa using (List.mem_filter.1 hyl).2
      rw [List.getD_eq_getElem?_getD, hps] at hin
      have := hcl0 y hin
      rw [hyn] at this; cases this

section
variable {P : Program} {an : Ann} {fn n : Nat} {B0 : Nat → Prop}
theorem ops_simAt {call : CallT} {K : IMap} (hcall : CallSim P K call) {F : Fence} (hF : Wide F) {ops : Array Oper} {ios : List IOper} {b0 : Nat} (hc : mapO (cOper P an fn n ops.toList) ops.toList = some ios) {Q : Exit → Act → World → Prop} :
    ∀ (l : List Nat) {e : Env} {a : Act} {g : G} {S : Stack} {w : World} {out : OR}, KIn K g → EnvR g.I g.Ms n e a.tmps → Rel P g S w → Marks B0 g.B a.defers → evOps call (l.filterMap ((ios.map (absO b0))[·]?)) e S = some out →
      (∀ e' S', out = .go e' S' → ∀ g' a' w', EnvR g'.I g'.Ms n e' a'.tmps → Rel P g' S' w' → Le S.length g g' w w' → Marks B0 g'.B a'.defers → Q .normal a' w') →
      (∀ v e' S', out = .pan v e' S' → ∀ g' a' w' x, EnvR g'.I g'.Ms n e' a'.tmps → Rel P g' S' w' → Le S.length g g' w w' → Marks B0 g'.B a'.defers → RV g'.I v g'.Ms x → Q (.panic [{ v := x, recovered := false }]) a' w') →
      wpOpsIn F 0 P ops Q l a w
  | [], e, a, g, S, w, out, hK, he, hr, hm, hev, hgo, _ => by
    simp only [List.filterMap_nil, evOps, Option.some.injEq] at hev
    exact hgo _ _ hev.symm g a w he hr (.refl _ _ _) hm
  | i :: l, e, a, g, S, w, out, hK, he, hr, hm, hev, hgo, hpan => by
    simp only [wpOpsIn]
    cases ho : ops[i]? with
    | none =>
      simp only
      have hnone : ios[i]? = none := by
        rw [List.getElem?_eq_none_iff, mapO_length hc]
        simpa using ho
      have : (ios.map (absO b0))[i]? = none := by rw [List.getElem?_map, hnone]; rfl
      rw [List.filterMap_cons, this] at hev
      exact ops_simAt (b0 := b0) hcall hF hc l hK he hr hm hev hgo hpan
    | some o =>
      simp only
      obtain ⟨io, hio, hco⟩ := mapO_get (i := i) (x := o) hc (by rw [Array.getElem?_toList]; exact ho)
      have hio2 : (ios.map (absO b0))[i]? = some (absO b0 io) := by rw [List.getElem?_map, hio]; rfl
      rw [List.filterMap_cons, hio2] at hev
      simp only [evOps] at hev
      have hone : ∀ out1, evOper call (absO b0 io) e S = some out1 →
          (∀ e1 S1, out1 = .go e1 S1 → evOps call (l.filterMap ((ios.map (absO b0))[·]?)) e1 S1 = some out) → (∀ v e1 S1, out1 = .pan v e1 S1 → out = .pan v e1 S1) →
          (if Region.wanted o (yielded ops a.tmps) then o.wpIn F 0 P a w (wpOpsIn F 0 P ops Q l) Q else wpOpsIn F 0 P ops Q l (a.put o.dst undef) w) := fun out1 h1 h2 h3 => by
        refine oper_simAt (b0 := b0) hcall hF hco hK he hr hm h1 (fun e1 S1 e0 g1 a1 w1 k1 k2 k3 k4 => ?_) (fun v e1 S1 e0 g1 w1 x k1 k2 k3 k4 k5 => ?_)
        · have hlen := Rel.length_eq hr k2 k3
          refine ops_simAt (b0 := b0) hcall hF hc l (hK.le k3) k1 k2 k4 (h2 _ _ e0) (fun e' S' q g' a' w' j1 j2 j3 j4 => hgo e' S' q g' a' w' j1 j2 (k3.trans (hlen ▸ j3)) j4) (fun v e' S' q g' a' w' x j1 j2 j3 j4 j5 => hpan v e' S' q g' a' w' x j1 j2 (k3.trans (hlen ▸ j3)) j4 j5)
        · exact hpan v e1 S1 (h3 v e1 S1 e0) g1 a w1 x k1 k2 k3 k4 k5
      have hmain : (if Region.wanted o (yielded ops a.tmps) then o.wpIn F 0 P a w (wpOpsIn F 0 P ops Q l) Q else wpOpsIn F 0 P ops Q l (a.put o.dst undef) w) := by
        split at hev
        · rename_i e1 S1 h1
          exact hone _ h1 (fun _ _ q => by cases q; exact hev) (fun _ _ _ q => by cases q)
        · exact hone _ hev (fun e1 S1 q => by subst q; rename_i hno; exact absurd hev (hno _ _)) (fun _ _ _ q => q)
      split
      · rename_i hw; rw [if_pos hw] at hmain; exact hmain
      · rename_i hw; rw [if_neg hw] at hmain; exact ⟨fun f _ => hF.anyFn f, hmain⟩

theorem multi_sim {call : CallT} {K : IMap} (hcall : CallSim P K call) {F : Fence} (hF : Wide F) (hmo : P.follows .mixedOrders = true) {k : Nat} {all : List Nat} {id : Nat} {ops : Array Oper} {ir : IC} (hc : cM P an fn n all ops = some ir)
    {e : Env} {a : Act} {g : G} {S : Stack} {w : World} (hK : KIn K g) (he : EnvR g.I g.Ms n e a.tmps) (hr : Rel P g S w) (hm : Marks B0 g.B a.defers) {x : IX} {e' : Env} {S' : Stack} (hS : S ≠ []) (hev : evC k call ir e S = some (x, e', S')) :
    (Code.region id ops true).wpIn F 0 P (PostC P n B0 g S w x e' S') a w := by
  simp only [cM] at hc
  split at hc
  · rename_i ios hios
    have hlen : ios.length = ops.size := by rw [mapO_length hios]; simp
    rw [Bool.cond_eq_ite] at hc
    split at hc
    · rename_i hcond
      rw [Bool.and_eq_true] at hcond
      have hd := hcond.1
      cases hc
      simp only [evC] at hev
      split at hev
      · rename_i e1 S1 hall
        simp only [Option.some.injEq, Prod.mk.injEq] at hev
        obtain ⟨rfl, rfl, rfl⟩ := hev
        obtain ⟨H, S0, rfl⟩ : ∃ H S0, S = H :: S0 := by
          cases S with
          | nil => exact absurd rfl hS
          | cons H S0 => exact ⟨H, S0, rfl⟩
        have hall := evAll_spec (show evAll call e (H :: S0) _ = some (e1, S1) from hall)
        refine wpIn_region_draw fun t => ?_
        simp only [Region.schedule, hmo, Bool.true_or, if_true, Region.linearise]
        have hlin := lin_lin hd ops.size t (Array.replicate ops.size false) (by simp) (by rw [left_none]; simp) (fun k qs hk hkl => by simp [hkl] at hk)
        rw [left_none] at hlin
        obtain ⟨e2, h2, h3⟩ := reps_ok (ios := ios.map (absO H.length)) (ahead_irr hd) (call := call) (f := ios.length) (rest := List.range ops.size) (e := e) (e1 := e1) (S := H :: S0) (S1 := S1) List.nodup_range (fun k hk => by rw [List.length_map, hlen]; exact List.mem_range.1 hk) hlin (by simp [hlen]) hS (fun l hl => by
          rw [reps_abs, ← hlen] at hl
          rw [← fm_abs]
          exact hall _ (List.mem_map.2 ⟨_, List.mem_map.2 ⟨l, hl, rfl⟩, rfl⟩))
        refine ops_simAt (b0 := H.length) hcall hF hios _ hK he (hr.drawn _) hm h2 (fun e3 S3 q g' a' w' j1 j2 j3 j4 => ?_) (fun v e1 S1 q => by cases q)
        simp only [OR.go.injEq] at q
        obtain ⟨rfl, rfl⟩ := q
        exact ⟨g', j2, (Le.drawn _ _ _ _).trans j3, EnvR.drop _ ⟨j1.1, fun i => by rw [h3 i]; exact j1.2 i⟩, j4, trivial⟩
      · cases hev
    · cases hc
  · cases hc
end
end Go.AS

/-
  Code, whole. By an AI agent.
-/
namespace Go.AS
open Go
set_option maxHeartbeats 1000000
theorem stepR_scope' {P : Program} {b : Frame} {a : Act} {k : List Item} {cs : List Frame} {w : World} {c : Code} : step P (lone (b.atR a (.code (.scope c) :: k)) cs w) = .next (lone (b.atR a (.code c :: .inScope c :: k)) cs w) :=
  step_lone_go (by simp [stepG, stepG.exec, Frame.atR])
theorem stepR_inScope' {P : Program} {b : Frame} {a : Act} {k : List Item} {cs : List Frame} {w : World} {c : Code} : step P (lone (b.atR a (.inScope c :: k)) cs w) = .next (lone (b.atR a k) cs w) :=
  step_lone_go (by simp [stepG, stepG.exec, Frame.atR])
theorem wpIn_scope {F : Fence} {n : Nat} {P : Program} {Q : Exit → Act → World → Prop} {a : Act} {w : World} {c : Code} (h : c.wpIn F n P Q a w) (hq : ∀ l a w, ¬ Q (.goto l) a w) : (Code.scope c).wpIn F n P Q a w := by
  intro b k cs hro hb hr
  have h0 : (lone (b.atR a (.code (.scope c) :: k)) cs w).fenced P F := fenced_calm hb hr rfl
  obtain ⟨e, a₁, w₁, hq1, harr⟩ := h b (.inScope c :: k) cs hro hb hr
  cases e with
  | normal => exact ⟨.normal, a₁, w₁, hq1, .head h0 stepR_scope' (StepsIn.trans harr (.one (fenced_calm hb hr rfl) stepR_inScope'))⟩
  | exit id => exact ⟨_, a₁, w₁, hq1, .of_steps (.one h0 stepR_scope') ⟨fun k' hk => harr.1 k' (by simp [exitTo, hk]), fun hn hk => harr.2 hn (by simpa [exitTo] using hk)⟩⟩
  | goto l => exact absurd hq1 (hq l a₁ w₁)
  | ret => exact ⟨_, a₁, w₁, hq1, .of_steps (.one h0 stepR_scope') harr⟩
  | panic ch => exact ⟨_, a₁, w₁, hq1, .of_steps (.one h0 stepR_scope') harr⟩
  | outgrown => exact ⟨_, a₁, w₁, hq1, .of_steps (.one h0 stepR_scope') harr⟩
section
variable {P : Program} {an : Ann} {fn n : Nat} {B0 : Nat → Prop}

theorem ne_nil_of {g g1 : G} {S S1 : Stack} {w w1 : World} (hS : S ≠ []) (hr : Rel P g S w) (hr1 : Rel P g1 S1 w1) (hl : Le S.length g g1 w w1) : S1 ≠ [] := by
  have := Rel.length_eq hr hr1 hl
  intro h
  subst h
  exact hS (List.length_eq_zero_iff.1 this.symm)

theorem wd_inv {call : CallT} {k : Nat} {dr : List Nat} {i : IC} {e : Env} {S : Stack} {x : IX} {e' : Env} {S' : Stack} (h : evC k call (wd dr i) e S = some (x, e', S')) : ∃ e0, evC k call i e S = some (x, e0, S') ∧ (e' = e0 ∨ e' = Env.drop e0 dr) := by
  cases dr with
  | nil => exact ⟨e', h, .inl rfl⟩
  | cons d r =>
    simp only [wd, evC, evOps] at h
    split at h
    · rename_i e1 S1 h1
      simp only [Option.some.injEq, Prod.mk.injEq] at h
      obtain ⟨rfl, rfl, rfl⟩ := h
      exact ⟨e1, h1, .inr rfl⟩
    · exact ⟨e', h, .inl rfl⟩
theorem EnvR.wd {I : IMap} {Ms : List MMap} {e0 e' : Env} {dr : List Nat} {t : Array Value} (h : EnvR I Ms n e0 t) (hd : e' = e0 ∨ e' = Env.drop e0 dr) : EnvR I Ms n e' t := by
  rcases hd with rfl | rfl
  · exact h
  · exact h.drop _
theorem PostC.wd {g : G} {S : Stack} {w : World} {x : IX} {e0 e' : Env} {dr : List Nat} {S' : Stack} {ex : Exit} {a' : Act} {w' : World} (hd : e' = e0 ∨ e' = Env.drop e0 dr) (h : PostC P n B0 g S w x e0 S' ex a' w') : PostC P n B0 g S w x e' S' ex a' w' := by
  obtain ⟨g', h1, h2, h3, h4⟩ := h
  exact ⟨g', h1, h2, h3.wd hd, h4⟩

/-- CODE. -/
theorem evC_sim {call : CallT} {K : IMap} (hcall : CallSim P K call) (hmo : P.follows .mixedOrders = true) {k : Nat} {all : List Nat} : ∀ (c : Code) {F : Fence} (_ : Wide F) {nest : Bool} (_ : nest = false → F = Fence.wide) {ir : IC} (_ : cC P an fn n all nest c = some ir)
    {e : Env} {a : Act} {g : G} {S : Stack} {w : World} (_ : KIn K g) (_ : EnvR g.I g.Ms n e a.tmps) (_ : Rel P g S w) (_ : Marks B0 g.B a.defers) (_ : S ≠ []) {x : IX} {e' : Env} {S' : Stack} (_ : evC k call ir e S = some (x, e', S')),
    c.wpIn F 0 P (PostC P n B0 g S w x e' S') a w := by
  intro c
  induction c with
  | skip =>
    intro F hF nest hn ir hc e a g S w hK he hr hm hS x e' S' hev
    simp only [cC, Option.some.injEq] at hc
    subst hc
    simp only [evC, Option.some.injEq, Prod.mk.injEq] at hev
    obtain ⟨rfl, rfl, rfl⟩ := hev
    exact wpIn_skip ⟨g, hr, .refl _ _ _, he, hm, trivial⟩
  | label l =>
    intro F hF nest hn ir hc e a g S w hK he hr hm hS x e' S' hev
    simp only [cC, Option.some.injEq] at hc
    subst hc
    simp only [evC, Option.some.injEq, Prod.mk.injEq] at hev
    obtain ⟨rfl, rfl, rfl⟩ := hev
    exact wpIn_label ⟨g, hr, .refl _ _ _, he, hm, trivial⟩
  | exit id =>
    intro F hF nest hn ir hc e a g S w hK he hr hm hS x e' S' hev
    simp only [cC, Option.some.injEq] at hc
    subst hc
    simp only [evC, Option.some.injEq, Prod.mk.injEq] at hev
    obtain ⟨rfl, rfl, rfl⟩ := hev
    exact wpIn_exit ⟨g, hr, .refl _ _ _, he, hm, rfl⟩
  | ret =>
    intro F hF nest hn ir hc e a g S w hK he hr hm hS x e' S' hev
    simp only [cC, Option.some.injEq] at hc
    subst hc
    simp only [evC, Option.some.injEq, Prod.mk.injEq] at hev
    obtain ⟨rfl, rfl, rfl⟩ := hev
    exact wpIn_ret ⟨g, hr, .refl _ _ _, he, hm, trivial⟩
  | region id ops draw =>
    intro F hF nest hn ir hc e a g S w hK he hr hm hS x e' S' hev
    simp only [cC] at hc
    rcases orBad_inv hc with hc | rfl
    case inr => exact absurd hev bad_ev
    have slots : ∀ (k0 : Nat) (i : IC), evC k call (.seq (.ops false [⟨none, .slots k0, none⟩] []) i) e S = some (x, e', S') → ∃ H S0, S = H :: S0 ∧ evC k call i e ((H ++ List.replicate k0 .slot) :: S0) = some (x, e', S') := by
      intro k0 i hev
      cases S with
      | nil => exact absurd rfl hS
      | cons H S0 =>
        simp only [evC, evOps, evOper, guardA, evOp, ok, putD, Env.drop] at hev
        exact ⟨H, S0, rfl, hev⟩
    split at hc
    · rename_i i hi
      cases hc
      exact region_sim hcall hF hmo hi hK he hr hm hS hev
    · split at hc
      · rename_i i hi
        cases hc
        exact region_sim hcall hF hmo hi hK he hr hm hS hev
      · split at hc
        · rename_i i hi
          cases hc
          obtain ⟨H, S0, rfl, hev⟩ := slots _ _ hev
          have := region_sim (id := id) hcall hF hmo hi hK he (hr.slots (allocsOf ops.toList).length) hm (by simp) hev
          exact wpIn_mono this fun ex a1 w1 hp => hp
        · cases draw with
          | false => cases hc
          | true =>
            simp only [cond_true, Option.map_eq_some_iff] at hc
            obtain ⟨i, hi, rfl⟩ := hc
            obtain ⟨H, S0, rfl, hev⟩ := slots _ _ hev
            have := multi_sim (id := id) hcall hF hmo hi hK he (hr.slots (allocsOf ops.toList).length) hm (by simp) hev
            exact wpIn_mono this fun ex a1 w1 hp => hp
  | rangeFunc gf ps asg body _ _ =>
    intro F hF nest hn ir hc e a g S w hK he hr hm hS x e' S' hev
    cases nest with
    | true =>
      simp only [cC] at hc
      rcases orBad_inv hc with hc | rfl
      · cases hc
      · exact absurd hev bad_ev
    | false =>
      rw [hn rfl]
      exact range_sim hcall hc hK he hr hm hev
  | seq c1 c2 ih1 ih2 =>
    intro F hF nest hn ir hc e a g S w hK he hr hm hS x e' S' hev
    simp only [cC] at hc
    split at hc
    · rename_i i1 i2 h1 h2
      cases hc
      simp only [evC] at hev
      refine wpIn_seq ?_
      split at hev
      · rename_i e1 S1 hev1
        refine wpIn_mono (ih1 hF hn h1 hK he hr hm hS hev1) ?_
        rintro ex a1 w1 ⟨g1, k1, k2, k3, k4, k5⟩
        cases ex with
        | normal => exact wpIn_mono (ih2 hF hn h2 (hK.le k2) k3 k1 k4 (ne_nil_of hS hr k1 k2) hev) fun _ _ _ hp => hp.of_le hr k1 k2
        | exit => exact k5.elim
        | goto => exact k5.elim
        | ret => exact k5.elim
        | panic => exact k5.elim
        | outgrown => exact k5.elim
      · rename_i hno
        refine wpIn_mono (ih1 hF hn h1 hK he hr hm hS hev) ?_
        rintro ex a1 w1 hp
        cases ex with
        | normal =>
          obtain ⟨_, _, _, _, _, k5⟩ := hp
          cases x with
          | normal => exact absurd hev (hno _ _)
          | exit => exact k5.elim
          | ret => exact k5.elim
          | panic => exact k5.elim
        | exit => exact hp
        | goto => exact hp
        | ret => exact hp
        | panic => exact hp
        | outgrown => exact hp
    · cases hc
  | cond c0 c1 c2 ih1 ih2 =>
    intro F hF nest hn ir hc e a g S w hK he hr hm hS x e' S' hev
    simp only [cC] at hc
    rcases orBad_inv hc with hc | rfl
    case inr => exact absurd hev bad_ev
    split at hc
    · rename_i co i1 i2 h0 h1 h2
      cases hc
      simp only [evC] at hev
      split at hev
      · rename_i t ht
        have hx := cO_RV h0 he
        rw [ht] at hx
        refine wpIn_cond (t := t) hx ?_
        cases t with
        | true => exact ih1 hF hn h1 hK he hr hm hS hev
        | false => exact ih2 hF hn h2 hK he hr hm hS hev
      · cases hev
    · cases hc
  | block id c ih =>
    intro F hF nest hn ir hc e a g S w hK he hr hm hS x e' S' hev
    simp only [cC, Option.map_eq_some_iff] at hc
    obtain ⟨i1, h1, rfl⟩ := hc
    obtain ⟨e0, hev0, hd0⟩ := wd_inv hev
    refine wpIn_mono ?_ (fun _ _ _ hp => PostC.wd hd0 hp)
    clear hd0 hev
    have hev := hev0
    clear hev0
    simp only [evC] at hev
    refine wpIn_block ?_
    split at hev
    · rename_i j e1 S1 hev1
      refine wpIn_mono (ih hF hn h1 hK he hr hm hS hev1) ?_
      rintro ex a1 w1 ⟨g1, k1, k2, k3, k4, k5⟩
      cases ex with
      | exit id' =>
        have hj : j = id' := k5
        subst hj
        simp only [Exit.inBlock]
        by_cases hji : j = id
        · subst hji
          rw [nbeq_self] at hev
          simp only [cond_true, Option.some.injEq, Prod.mk.injEq] at hev
          obtain ⟨rfl, rfl, rfl⟩ := hev
          rw [if_pos rfl]
          exact ⟨g1, k1, k2, k3, k4, trivial⟩
        · rw [nbeq_false hji] at hev
          simp only [cond_false, Option.some.injEq, Prod.mk.injEq] at hev
          obtain ⟨rfl, rfl, rfl⟩ := hev
          rw [if_neg hji]
          exact ⟨g1, k1, k2, k3, k4, rfl⟩
      | normal => exact k5.elim
      | goto => exact k5.elim
      | ret => exact k5.elim
      | panic => exact k5.elim
      | outgrown => exact k5.elim
    · rename_i hno
      refine wpIn_mono (ih hF hn h1 hK he hr hm hS hev) ?_
      rintro ex a1 w1 hp
      cases ex with
      | exit id' =>
        obtain ⟨_, _, _, _, _, k5⟩ := hp
        cases x with
        | exit => exact absurd hev (hno _ _ _)
        | normal => exact k5.elim
        | ret => exact k5.elim
        | panic => exact k5.elim
      | normal => exact hp
      | goto => exact hp
      | ret => exact hp
      | panic => exact hp
      | outgrown => exact hp
  | loop c ih =>
    intro F hF nest hn ir hc e a g S w hK he hr hm hS x e' S' hev
    simp only [cC, Option.map_eq_some_iff] at hc
    obtain ⟨i1, h1, rfl⟩ := hc
    simp only [evC] at hev
    refine wpIn_loop_n (fun j a1 w1 => ∃ g1 e1 S1, EnvR g1.I g1.Ms n e1 a1.tmps ∧ Rel P g1 S1 w1 ∧ Marks B0 g1.B a1.defers ∧ Le S.length g g1 w w1 ∧ iter (evC k call (wd (deadOf all c) i1)) j e1 S1 = some (x, e', S')) ?_ k ⟨g, e, S, he, hr, hm, .refl _ _ _, hev⟩
    rintro j a1 w1 ⟨g1, e1, S1, j1, j2, j3, j4, j5⟩
    have hS1 := ne_nil_of hS hr j2 j4
    cases j with
    | zero => simp [iter] at j5
    | succ j =>
      simp only [iter] at j5
      split at j5
      · rename_i e2 S2 hev2
        obtain ⟨e0, hev1, hd0⟩ := wd_inv hev2
        refine wpIn_mono (ih hF hn h1 (hK.le j4) j1 j2 j3 hS1 hev1) ?_
        rintro ex a2 w2 ⟨g2, k1, k2, k3, k4, k5⟩
        cases ex with
        | normal => exact ⟨j, Nat.lt_succ_self _, g2, e2, S2, k3.wd hd0, k1, k4, j4.trans ((Rel.length_eq hr j2 j4) ▸ k2), j5⟩
        | exit => exact k5.elim
        | goto => exact k5.elim
        | ret => exact k5.elim
        | panic => exact k5.elim
        | outgrown => exact k5.elim
      · rename_i hno
        obtain ⟨e0, hev1, hd0⟩ := wd_inv j5
        refine wpIn_mono (ih hF hn h1 (hK.le j4) j1 j2 j3 hS1 hev1) ?_
        rintro ex a2 w2 hp0
        have hp := PostC.wd hd0 hp0
        cases ex with
        | normal =>
          obtain ⟨_, _, _, _, _, k5⟩ := hp
          cases x with
          | normal => exact absurd j5 (hno _ _)
          | exit => exact k5.elim
          | ret => exact k5.elim
          | panic => exact k5.elim
        | exit => exact hp.of_le hr j2 j4
        | goto => exact hp.of_le hr j2 j4
        | ret => exact hp.of_le hr j2 j4
        | panic => exact hp.of_le hr j2 j4
        | outgrown => exact hp.of_le hr j2 j4
  | scope c ih =>
    intro F hF nest hn ir hc e a g S w hK he hr hm hS x e' S' hev
    simp only [cC] at hc
    refine wpIn_scope (ih hF hn hc hK he hr hm hS hev) ?_
    rintro l a1 w1 ⟨g1, k1, k2, k3, k4, k5⟩
    cases x <;> exact k5
  | _ =>
    intro F hF nest hn ir hc e a g S w hK he hr hm hS x e' S' hev
    simp only [cC, Option.some.injEq] at hc
    subst hc
    exact absurd hev bad_ev
end
end Go.AS

/-
  Functions: results, what leaves a level. By an AI agent.
-/
namespace Go.AS
open Go
set_option maxHeartbeats 1000000

section
variable {P : Program} {n : Nat} {g : G} {H : Heap} {S : Stack} {w : World} {e : Env} {tmps : Array Value}

theorem result_sim {r : ResultVar} {ir : IRes} (hc : cRes P n r = some ir) (he : EnvR g.I g.Ms n e tmps) (hr : Rel P g (H :: S) w) {v : AV} (h : resultA e H ir = some v) :
    ∃ x, ((match r with | .tmp t => pure (tmps.getD t undef) | .cell a t => do loadVar t (← asAddr (tmps.getD a undef))) : Sem Value).run P w = .ok x w ∧ RV g.I v g.Ms x := by
  cases r with
  | tmp t =>
    simp only [cRes] at hc
    cases hb : Nat.blt t n with
    | false => rw [hb] at hc; cases hc
    | true =>
      rw [hb] at hc
      cases hc
      simp only [resultA] at h
      have := he.2 t
      split at h
      · cases h
      · cases h
        exact ⟨_, rfl, this⟩
  | cell a t =>
    simp only [cRes, Option.map_eq_some_iff] at hc
    obtain ⟨m, h1, rfl⟩ := hc
    simp only [resultA] at h
    split at h
    · rename_i id lim off hget
      split at h
      · rename_i cs hid
        cases hb : Nat.beq cs.length lim with
        | false => rw [hb] at h; cases h
        | true =>
          rw [hb] at h
          have hlen := Nat.eq_of_beq_eq_true hb
          subst hlen
          have hx := he.2 a
          rw [hget] at hx
          obtain ⟨M, Ms, blk, tot, hMs, k1, k2⟩ := hx
          obtain ⟨blk', tot', c, el, j1, j2, j3, j4, j5, j6, j7⟩ := hr.cells hMs hid
          cases k1.symm.trans j1
          obtain ⟨x, q1, q2⟩ := load_one h1 j6 j7 h
          refine ⟨x, ?_, q2⟩
          simp only [k2, asAddr, Sem.run_bind, Sem.run_pure, Result.andThen_ok]
          rw [Nat.zero_add] at q1
          exact q1
      · cases h
    · cases h

theorem results_list : ∀ {l : List ResultVar} {rs : List IRes} {vs : List AV}, mapO (cRes P n) l = some rs → EnvR g.I g.Ms n e tmps → Rel P g (H :: S) w → mapO (resultA e H) rs = some vs →
    ∃ xs, (l.mapM fun | .tmp t => pure (tmps.getD t undef) | .cell a t => do loadVar t (← asAddr (tmps.getD a undef)) : Sem (List Value)).run P w = .ok xs w ∧ RVs g.I vs g.Ms false xs
  | [], rs, vs, hc, _, _, h => by
    simp only [mapO, Option.some.injEq] at hc
    subst hc
    simp only [mapO, Option.some.injEq] at h
    subst h
    exact ⟨[], rfl, rfl⟩
  | r :: l, rs, vs, hc, he, hr, h => by
    obtain ⟨ir, rs', rfl, c1, c2⟩ := mapO_cons hc
    obtain ⟨v, vs', rfl, h1, h2⟩ := mapO_cons h
    obtain ⟨x, k1, k2⟩ := result_sim c1 he hr h1
    obtain ⟨xs, j1, j2⟩ := results_list c2 he hr h2
    refine ⟨x :: xs, ?_, x, xs, rfl, k2, (fun h => by cases h), j2⟩
    simp only [List.mapM_cons, Sem.run_bind, j1, k1, Result.andThen_ok, Sem.run_pure]

theorem results_sim {f : Func} {rs : List IRes} (hc : mapO (cRes P n) f.results.toList = some rs) (he : EnvR g.I g.Ms n e tmps) (hr : Rel P g S w) {v : AV} (h : resultsA e S rs = some v) :
    ∃ x, (results f tmps).run P w = .ok x w ∧ RV g.I v g.Ms x := by
  cases S with
  | nil => cases h
  | cons H S =>
    simp only [resultsA] at h
    have hrun : ∀ vs, mapO (resultA e H) rs = some vs → ∃ xs : List Value, (results f tmps).run P w = .ok (if h : xs.toArray.size = 1 then xs.toArray[0] else .tuple xs.toArray) w ∧ RVs g.I vs g.Ms false xs := fun vs hvs => by
      obtain ⟨xs, h1, h2⟩ := results_list hc he hr hvs
      refine ⟨xs, ?_, h2⟩
      unfold results
      rw [Array.mapM_eq_mapM_toList]
      simp only [map_eq_pure_bind, Sem.run_bind, Sem.run_pure]
      exact congrArg (fun r : Result (List Value) => (r.andThen fun a w' => Result.ok a.toArray w').andThen fun a w' => Result.ok (if h : a.size = 1 then a[0] else Value.tuple a) w') h1
    split at h
    · rename_i u hvs
      cases h
      obtain ⟨xs, h1, x, xs', rfl, h2, _, h3⟩ := hrun _ hvs
      rw [show xs' = [] from h3] at h1
      exact ⟨_, h1, h2⟩
    · rename_i vs hne hvs
      cases h
      obtain ⟨xs, h1, h2⟩ := hrun _ hvs
      have hl := RVs.length _ h2
      have : ¬ xs.toArray.size = 1 := by
        simp only [List.size_toArray]
        intro h
        rw [h] at hl
        match vs, hl, hne with
        | [u], _, hne => exact hne u rfl
      rw [dif_neg this] at h1
      exact ⟨_, h1, _, rfl, h2⟩
    · cases h
end
end Go.AS

/-
  Functions, run in a memory. By an AI agent.
-/
namespace Go.AS
open Go
set_option maxHeartbeats 1000000

section
variable {P : Program} {an : Ann}

/-- The marks are taken. -/
theorem leaves_marks {f : Func} {tmps : Array Value} {R : Ending → World → Prop} {u : FrameMode} (hu : u ≠ .run) {S : Stack} {L : Nat} {g : G} {w : World} : ∀ (bs : List Nat) {g' : G} {w' : World}, Rel P g' S w' → Le L g g' w w' → bs.Nodup → (∀ b ∈ bs, g'.B b ∧ w.heap.size ≤ b) →
    (∀ B' w'', Rel P { g' with B := B' } S w'' → Le L g { g' with B := B' } w w'' → LeavesIn Fence.wide 0 P f tmps R [] u w'') →
    LeavesInM Fence.wide 0 P f tmps R (bs.map fun b => { target := .collected b, args := #[] }) u w'
  | [], g', w', hr, hl, _, _, hfin => hfin g'.B w' hr hl
  | b :: bs, g', w', hr, hl, hnd, hB, hfin => by
    obtain ⟨hb1, hb2⟩ := hB b (by simp)
    have hbm := hr.bm b hb1
    have hblt := (Array.getElem?_eq_some_iff.1 hbm).1
    have hother : ∀ x, x ≠ b → (w'.putObj b (.deferred none)).heap[x]? = w'.heap[x]? := fun x hx => World.putObj_heap_other hx
    have hr2 : Rel P { g' with B := fun x => g'.B x ∧ x ≠ b } S (w'.putObj b (.deferred none)) := by
      refine ⟨RelS.frame (fun _ _ h => h) hr.rs fun x l id hx _ => ⟨hx, hother x fun h => (hr.ow x _ hx).2 (h ▸ hb1)⟩, fun x o hx => ?_, fun x y hx => ⟨by simpa using (hr.ow x y hx).1, fun h => (hr.ow x y hx).2 h.1⟩, fun x hx => (hother x hx.2).trans (hr.bm x hx.1), hr.lv⟩
      obtain ⟨k1, k2, k3⟩ := hr.im x o hx
      exact ⟨(hother x fun h => k3 (h ▸ hb1)).trans k1, k2, fun h => k3 h.1⟩
    have hl2 : Le L g { g' with B := fun x => g'.B x ∧ x ≠ b } w (w'.putObj b (.deferred none)) :=
      ⟨hl.os, hl.tape, hl.output, by simpa using hl.size, hl.ms, hl.im, hl.oO, hl.oI, fun x hx => ⟨fun h => (hl.oB x hx).1 h.1, fun h => ⟨(hl.oB x hx).2 h, by omega⟩⟩, fun x hx ho => (hother x (by omega)).trans (hl.frame x hx ho)⟩
    obtain ⟨hn1, hn2⟩ := List.nodup_cons.1 hnd
    refine ⟨hu, .inl ⟨b, _, rfl, run_takeDeferred hbm, leaves_marks hu bs hr2 hl2 hn2 (fun x hx => ⟨⟨(hB x (by simp [hx])).1, fun h => hn1 (h ▸ hx)⟩, (hB x (by simp [hx])).2⟩) fun B' w'' h1 h2 => hfin B' w'' h1 h2⟩⟩

theorem ofArgs_get : ∀ (args : List AV) (i j : Nat), Env.get (Env.ofArgs i args) j = if i ≤ j then (args[j - i]?).getD .undef else .undef
  | [], i, j => by simp [Env.ofArgs, Env.get]
  | v :: r, i, j => by
    simp only [Env.ofArgs, Env.get]
    by_cases h : j = i
    · subst h; rw [nbeq_self]; simp
    · rw [nbeq_false h]
      simp only [cond_false]
      rw [ofArgs_get r (i + 1) j]
      by_cases h2 : i + 1 ≤ j
      · rw [if_pos h2, if_pos (by omega), show j - i = (j - (i + 1)) + 1 from by omega]; simp
      · rw [if_neg h2, if_neg (by omega)]

theorem envR_args {I : IMap} {Ms : List MMap} {args : List AV} {xs : List Value} (h : RVs I args Ms false xs) (n : Nat) : EnvR I Ms n (Env.ofArgs 0 args) (xs.toArray ++ Array.replicate (n - xs.toArray.size) undef) := by
  refine ⟨by simp; omega, fun i => ?_⟩
  rw [ofArgs_get]
  simp only [Nat.zero_le, if_true, Nat.sub_zero]
  cases hv : args[i]? with
  | none => exact trivial
  | some v =>
    obtain ⟨x, h1, h2, _⟩ := h.get hv
    have hlt := (List.getElem?_eq_some_iff.1 h1).1
    rw [Array.getD_eq_getD_getElem?, Array.getElem?_append_left (by simpa using hlt)]
    simp only [List.getElem?_toArray, h1, Option.getD_some]
    exact h2

theorem cF_body {i : Nat} {f : Func} {fn : IFun} (h : cF P an i f = some fn) : ∃ c, f.body = some c ∧ special f = false ∧ cC P an i f.ntmps (usesR f.results.toList ++ usesC c ++ (defsC c).map (· + defMark) ++ parM (f.params.size + f.nfree)) false c = some fn.body ∧ mapO (cRes P f.ntmps) f.results.toList = some fn.results ∧ fn.nargs = f.params.size + f.nfree := by
  unfold cF at h
  split at h
  · cases h
  · rename_i c hb
    cases hs : special f with
    | true => rw [hs] at h; cases h
    | false =>
      rw [hs, Bool.cond_eq_ite] at h
      split at h
      · cases h
      · split at h
        · rename_i b rs h1 h2
          cases h
          exact ⟨c, hb, rfl, h1, h2, rfl⟩
        · cases h

/-- A FUNCTION, run in the memory that it is handed. -/
theorem runF_sim {call : CallT} {K : IMap} (hcall : CallSim P K call) (hmo : P.follows .mixedOrders = true) {k i : Nat} {f : Func} {fn : IFun} (hf : P.funcs[i]? = some f) (hc : cF P an i f = some fn) {args : List AV} {S S' : Stack} {r : CR} (hS : S ≠ [])
    (h : runF k call fn args S = some (r, S')) {g : G} {w : World} {xs : List Value} (hK : KIn K g) (hr : Rel P g S w) (ha : RVs g.I args g.Ms false xs) :
    CallsIn Fence.wide 0 P i xs.toArray w fun en w' => ∃ g', Rel P g' S' w' ∧ Le S.length g g' w w' ∧ EndR g'.I g'.Ms r en := by
  obtain ⟨c, hb, _, hcc, hrs, _⟩ := cF_body hc
  unfold runF at h
  rw [Bool.cond_eq_ite] at h
  split at h
  · cases h
  · have hm0 : Marks g.B g.B ([] : List Deferred) := ⟨fun _ h => h, [], rfl, List.nodup_nil, fun _ h => by cases h⟩
    refine callsIn_of_wp_marks hf hb trivial ?_
    have hmarks : ∀ {g' : G} {w' : World} {ds : List Deferred}, Le S.length g g' w w' → Rel P g' S' w' → Marks g.B g'.B ds → ∃ bs : List Nat, ds = bs.map (fun b => { target := .collected b, args := #[] }) ∧ bs.Nodup ∧ ∀ b ∈ bs, g'.B b ∧ w.heap.size ≤ b := by
      rintro g' w' ds hl _ ⟨_, bs, q1, q2, q3⟩
      refine ⟨bs, q1, q2, fun b hb => ⟨(q3 b hb).1, ?_⟩⟩
      rcases Nat.lt_or_ge b w.heap.size with hlt | hge
      · exact absurd ((hl.oB b hlt).1 (q3 b hb).1) (q3 b hb).2
      · exact hge
    split at h
    · cases h
    · cases h
    · rename_i v e1 S1 hev
      cases h
      refine wpIn_mono (evC_sim hcall hmo c (.inl rfl) (fun _ => rfl) hcc (a := { tmps := xs.toArray ++ Array.replicate (f.ntmps - xs.toArray.size) undef, defers := [] }) hK (envR_args ha f.ntmps) hr hm0 hS hev) ?_
      rintro ex a1 w1 ⟨g1, k1, k2, k3, k4, k5⟩
      cases ex with
      | panic ch =>
        obtain ⟨x, rfl, k6⟩ := k5
        obtain ⟨bs, q1, q2, q3⟩ := hmarks k2 k1 k4
        simp only [bodyPostM]
        rw [q1]
        exact leaves_marks (by simp) bs k1 k2 q2 q3 fun B' w'' h1 h2 => ⟨_, h1, h2, x, rfl, k6⟩
      | normal => exact k5.elim
      | exit => exact k5.elim
      | goto => exact k5.elim
      | ret => exact k5.elim
      | outgrown => exact k5.elim
    · rename_i x e1 S1 hne hnp hev
      simp only [Option.map_eq_some_iff, Prod.mk.injEq] at h
      obtain ⟨v, h1, rfl, rfl⟩ := h
      refine wpIn_mono (evC_sim hcall hmo c (.inl rfl) (fun _ => rfl) hcc (a := { tmps := xs.toArray ++ Array.replicate (f.ntmps - xs.toArray.size) undef, defers := [] }) hK (envR_args ha f.ntmps) hr hm0 hS hev) ?_
      rintro ex a1 w1 ⟨g1, k1, k2, k3, k4, k5⟩
      obtain ⟨bs, q1, q2, q3⟩ := hmarks k2 k1 k4
      have hfin : LeavesInM Fence.wide 0 P f a1.tmps (fun en w' => ∃ g', Rel P g' S1 w' ∧ Le S.length g g' w w' ∧ EndR g'.I g'.Ms (.ret v) en) a1.defers .returning w1 := by
        rw [q1]
        refine leaves_marks (by simp) bs k1 k2 q2 q3 fun B' w'' j1 j2 => ?_
        obtain ⟨y, y1, y2⟩ := results_sim (g := { g1 with B := B' }) hrs k3 j1 h1
        exact ⟨y, y1, _, j1, j2, y2⟩
      cases ex with
      | normal => exact hfin
      | ret => exact hfin
      | exit =>
        cases x with
        | exit => exact (hne _ rfl).elim
        | normal => exact k5.elim
        | ret => exact k5.elim
        | panic => exact k5.elim
      | goto => cases x <;> exact k5.elim
      | panic =>
        cases x with
        | panic => exact (hnp _ rfl).elim
        | normal => exact k5.elim
        | ret => exact k5.elim
        | exit => exact k5.elim
      | outgrown => cases x <;> exact k5.elim
end
end Go.AS

/-
  What leaves a level whose memory is given up. By an AI agent.
-/
namespace Go.AS
open Go
set_option maxHeartbeats 1000000

section
variable {P : Program} {an : Ann}

/-- A CALL OF A FUNCTION of the program's. -/
theorem callFn_sim {call : CallT} {K : IMap} (hcall : CallSim P K call) (hmo : P.follows .mixedOrders = true) {k i : Nat} {f : Func} {fn : IFun} (hf : P.funcs[i]? = some f) (hc : cF P an i f = some fn) {args : List AV} {S S' : Stack} {r : CR} 
    (h : callFn k call fn args S = some (r, S')) {g : G} {w : World} {xs : List Value} (hK : KIn K g) (hr : Rel P g S w) (ha : RVs g.I args g.Ms false xs) :
    CallsIn Fence.wide 0 P i xs.toArray w fun en w' => ∃ g', Rel P g' S' w' ∧ Le S.length g g' w w' ∧ EndR g'.I g'.Ms r en := by
  unfold callFn at h
  split at h
  · rename_i hno
    cases S with
    | nil => cases h
    | cons H S => exact runF_sim hcall hmo hf hc (by simp) h hK hr ha
  · rename_i args' hargs
    have hmap : mapO upf args = some args' := by
      cases hsh : fn.shared with
      | true => rw [hsh] at hargs; cases hargs
      | false => rw [hsh] at hargs; exact hargs
    have hr1 : Rel P { g with Ms := (fun _ _ => none) :: g.Ms } ([] :: S) w :=
      ⟨⟨fun id o ho => by simp at ho, fun id lim p hp => (by cases hp), hr.rs⟩, hr.im, hr.ow, hr.bm, fun b l id hb => by have := hr.lv b l id hb; simp; omega⟩
    have ha1 : RVs g.I args' ((fun _ _ => none) :: g.Ms) false xs := RVs.mapO (fun v v' x e hx => RV.upf e hx) args hmap ha
    split at h
    · rename_i v H S1 hrun
      simp only [Option.map_eq_some_iff, Prod.mk.injEq] at h
      obtain ⟨v', hlv, rfl, rfl⟩ := h
      refine (runF_sim hcall hmo hf hc (by simp) hrun (by exact hK) hr1 ha1).mono ?_
      rintro en w' ⟨g1, k1, k2, k3⟩
      obtain ⟨g', j1, j2, j3⟩ := Rel.leave hr k2 k1
      refine ⟨g', j1, j2, ?_⟩
      cases en with
      | returned y => exact j3 k3 hlv
      | panicked ch => exact k3.elim
      | outgrown => exact k3.elim
    · rename_i v H S1 hrun
      simp only [Option.map_eq_some_iff, Prod.mk.injEq] at h
      obtain ⟨v', hlv, rfl, rfl⟩ := h
      refine (runF_sim hcall hmo hf hc (by simp) hrun (by exact hK) hr1 ha1).mono ?_
      rintro en w' ⟨g1, k1, k2, k3⟩
      obtain ⟨g', j1, j2, j3⟩ := Rel.leave hr k2 k1
      refine ⟨g', j1, j2, ?_⟩
      cases en with
      | returned y => exact k3.elim
      | panicked ch =>
        obtain ⟨y, rfl, k4⟩ := k3
        exact ⟨y, rfl, j3 k4 hlv⟩
      | outgrown => exact k3.elim
    · cases h
end
end Go.AS

/-
  Calls. By an AI agent.
-/
namespace Go.AS
open Go
set_option maxHeartbeats 1000000

section
variable {P : Program} {an : Ann}

theorem DoesCall.mono {fv : Value} {xs : Array Value} {w : World} {R R' : Ending → World → Prop} (h : DoesCall P fv xs w R) (hR : ∀ e w, R e w → R' e w) : DoesCall P fv xs w R' := by
  obtain ⟨f, first, cap, e1, h⟩ := h
  refine ⟨f, first, cap, e1, h.imp ?_ ?_⟩
  · rintro ⟨k, args, h1, h2⟩
    exact ⟨k, args, h1, h2.mono hR⟩
  · rintro ⟨l0, l, k, tmps, asg, body, h0, h1, h2⟩
    exact ⟨l0, l, k, tmps, asg, body, h0, h1, h2.mono hR⟩

theorem sets_EnvR {I : IMap} {Ms : List MMap} {n : Nat} : ∀ {ps : List Nat} {args : List AV} {xs : List Value} {e : Env} {tmps : Array Value}, RVs I args Ms false xs → (∀ t ∈ ps, t < n) → EnvR I Ms n e tmps →
    EnvR I Ms n (Env.sets e ps args) ((ps.zip xs).foldl (fun tmps (p : Nat × Value) => tmps.setIfInBounds p.1 p.2) tmps)
  | [], _, _, _, _, _, _, he => by cases ‹List AV› <;> exact he
  | p :: ps, [], xs, e, tmps, ha, _, he => by rw [show xs = [] from ha]; exact he
  | p :: ps, v :: vs, xs, e, tmps, ha, hp, he => by
    obtain ⟨x, xs', rfl, h1, _, h2⟩ := ha
    simp only [Env.sets, List.zip_cons_cons, List.foldl_cons]
    have := EnvR.put (a := { tmps := tmps, defers := [] }) (d := some p) he h1 (fun i hi => by cases hi; exact hp p (by simp))
    exact sets_EnvR h2 (fun t ht => hp t (by simp [ht])) this

theorem Rel.setLoop {g : G} {H : Heap} {S : Stack} {w : World} {M : MMap} {Ms : List MMap} (hg : g.Ms = M :: Ms) (hr : Rel P g (H :: S) w) {l blk tot : Nat} {L : ILoop} (hL : H[l]? = some (.loop L)) (hM : M l 0 = some (blk, tot)) {r : Loop} (hb : w.heap[blk]? = some (.loop r))
    (L' : ILoop) (r' : Loop) (hLR : LoopR P g.I g.Ms L' r') : Rel P g (H.set l (.loop L') :: S) (w.putObj blk (.loop r')) ∧ Le (S.length + 1) g g w (w.putObj blk (.loop r')) := by
  have hrs := hr.rs
  rw [hg] at hrs
  have hO := (hrs.2.1 _ _ _ hM).2
  have hlt := (List.getElem?_eq_some_iff.1 hL).1
  have hblt := (Array.getElem?_eq_some_iff.1 hb).1
  have := Rel.change (w' := w.putObj blk (.loop r')) hg hr l (.loop L') (H.set l (.loop L')) M g.O rfl rfl rfl (by simp)
    (fun b hb hne => World.putObj_heap_other fun hbe => hne (by rw [hbe]; exact hO))
    (fun j hj => List.getElem?_set_ne (Ne.symm hj)) (by simp [hlt]) (by simp) (fun _ _ _ => rfl) (fun _ _ h => h) (fun lim p hp => (hrs.2.1 _ _ _ hp).2) (fun _ _ => rfl)
    (fun b hb x hx => by have := (hr.ow b x hx).1; omega) ⟨blk, tot, r', hM, hO, World.putObj_heap_same hblt, hg ▸ hLR⟩
  have hgg : { g with Ms := M :: Ms, O := g.O } = g := by rw [← hg]
  rw [hgg] at this
  exact this

theorem Rel.loopAt {g : G} {H : Heap} {S : Stack} {w : World} {M : MMap} {Ms : List MMap} (hg : g.Ms = M :: Ms) (hr : Rel P g (H :: S) w) {l : Nat} {L : ILoop} (hL : H[l]? = some (.loop L)) :
    ∃ blk tot r, M l 0 = some (blk, tot) ∧ w.heap[blk]? = some (.loop r) ∧ LoopR P g.I g.Ms L r := by
  have hrs := hr.rs
  rw [hg] at hrs
  obtain ⟨blk, tot, r, h1, _, h3, h4⟩ := hrs.1 _ _ hL
  exact ⟨blk, tot, r, h1, h3, hg ▸ h4⟩

/-- A ROUND. -/
theorem round_sim {call : CallT} {K : IMap} (hcall : CallSim P K call) (hmo : P.follows .mixedOrders = true) {k l : Nat} {args : List AV} {S S' : Stack} {r : CR} (h : round k call l args S = some (r, S')) {g : G} {w : World} {fi ca : List AV} {fv : Value} {xs : List Value} (hK : KIn K g) (hr : Rel P g S w)
    (hf : RV g.I (.func (.yield l) fi ca) g.Ms fv) (ha : RVs g.I args g.Ms false xs) :
    DoesCall P fv xs.toArray w fun en w' => ∃ g', Rel P g' S' w' ∧ Le S.length g g' w w' ∧ EndR g'.I g'.Ms r en := by
  obtain ⟨M, Ms, blk, tot, hMs, hM, rfl⟩ := hf
  unfold round at h
  split at h
  · cases h
  · rename_i H S0
    split at h
    · rename_i L hL
      cases hlen : Nat.beq args.length L.params.length with
      | false => rw [hlen] at h; cases h
      | true =>
        rw [hlen] at h
        have hlen := Nat.eq_of_beq_eq_true hlen
        simp only [Bool.not_true, cond_false] at h
        split at h
        · rename_i e1 H1 S1 hev1
          split at h
          · rename_i L1 hL1
            split at h
            · rename_i hst
              obtain ⟨blk', tot', r0, m1, p1, LR⟩ := hr.loopAt hMs hL
              cases hM.symm.trans m1
              obtain ⟨n, q1, ⟨an1, fn1, all1, q2⟩, ⟨an2, fn2, all2, q3⟩, q4⟩ := LR.env
              have hxs : xs.length = args.length := RVs.length _ ha
              have hpl : r0.params.toList.length = L.params.length := by rw [LR.params]
              refine ⟨.yield blk, #[], #[], rfl, .inr ⟨blk, blk, r0.fn, (r0.params.zip xs.toArray).foldl (fun tmps (t, a) => tmps.setIfInBounds t a) r0.tmps, r0.assign, r0.body, rfl, ?_, ?_⟩⟩
              · have hsz : (#[] ++ xs.toArray).size = r0.params.size := by
                  simp only [List.size_toArray, Array.empty_append]
                  rw [hxs, hlen, ← hpl, Array.length_toList]
                have := run_yield (P := P) p1 hsz
                simp only [Array.empty_append] at this ⊢
                simp only [invoke]
                exact this
              · have htm : (r0.params.zip xs.toArray).foldl (fun tmps (t, a) => tmps.setIfInBounds t a) r0.tmps = (L.params.zip xs).foldl (fun tmps (p : Nat × Value) => tmps.setIfInBounds p.1 p.2) r0.tmps := by
                  rw [← LR.params, ← Array.foldl_toList, Array.toList_zip]
                rw [htm]
                have he1 := sets_EnvR ha q4 q1
                have hm0 : Marks g.B g.B ([] : List Deferred) := ⟨fun _ h => h, [], rfl, List.nodup_nil, fun _ h => by cases h⟩
                refine roundIn_of_wpIn trivial ?_
                refine wpIn_mono (evC_sim hcall hmo r0.assign (F := Fence.wide.inRound blk) (.inr ⟨blk, rfl⟩) (nest := true) (fun h => by cases h) q2 (a := { tmps := _, defers := [] }) hK he1 hr hm0 (by simp) hev1) ?_
                rintro ex a1 w1 ⟨g1, k1, k2, k3, k4, k5⟩
                cases ex with
                | exit => exact k5.elim
                | goto => exact k5.elim
                | ret => exact k5.elim
                | panic => exact k5.elim
                | outgrown => exact k5.elim
                | normal =>
                  have hms := k2.ms
                  rw [hMs] at hms
                  obtain ⟨N, Ns, hN, hN1, _⟩ := hms.cons_inv
                  obtain ⟨blk', tot', r1, m1, p1, LR1⟩ := k1.loopAt hN hL1
                  cases (hN1 _ _ _ hM).symm.trans m1
                  have hr1 : r1.state = .ready := by
                    have := LR1.state
                    rw [hst] at this
                    cases hs : r1.state with
                    | ready => rfl
                    | busy => rw [hs] at this; exact this.elim
                    | done => rw [hs] at this; exact this.elim
                    | exhausted => rw [hs] at this; exact this.elim
                  obtain ⟨j1, j2⟩ := Rel.setLoop hN k1 hL1 m1 p1 { L1 with state := .busy } { r1 with state := .busy } ⟨trivial, LR1.pending, LR1.env, LR1.params⟩
                  refine ⟨_, run_beginRound p1 hr1, ?_⟩
                  have hlen1 : S1.length = S0.length := by
                    have := Rel.length_eq hr k1 k2
                    simpa using this
                  have hle1 : Le (H :: S0).length g g1 w (w1.putObj blk (.loop { r1 with state := .busy })) := k2.trans (by rw [hlen1] at j2; exact j2)
                  unfold endRound at h
                  split at h
                  · rename_i x e2 H2 S2 hev2
                    split at h
                    · rename_i L2 hL2
                      refine wpIn_mono (evC_sim hcall hmo r0.body (F := Fence.wide.inRound blk) (.inr ⟨blk, rfl⟩) (nest := true) (fun h => by cases h) q3 (hK.le k2) k3 j1 k4 (by simp) hev2) ?_
                      rintro ex a2 w2 ⟨g2, i1, i2, i3, i4, i5⟩
                      have hle2 : Le (H :: S0).length g g2 w w2 := hle1.trans (by
                        have : (H1.set l (.loop { L1 with state := .busy }) :: S1).length = (H :: S0).length := by simp [hlen1]
                        rw [this] at i2; exact i2)
                      have hms := hle2.ms
                      rw [hMs] at hms
                      obtain ⟨N2, Ns2, hN2, hN21, _⟩ := hms.cons_inv
                      obtain ⟨blk', tot', r2, m2, p2, LR2⟩ := i1.loopAt hN2 hL2
                      cases (hN21 _ _ _ hM).symm.trans m2
                      have hlen2 : S2.length = S0.length := by
                        have := Rel.length_eq hr i1 hle2
                        simpa using this
                      have hfin : ∀ (st : LS) (st' : LoopState) (pd : Option IX) (pd' : Option Code), LSR st st' → PendR pd pd' →
                          Rel P g2 (H2.set l (.loop { L2 with state := st, pending := pd }) :: S2) (w2.putObj blk (.loop { r2 with state := st', pending := pd' })) ∧ Le (H :: S0).length g g2 w (w2.putObj blk (.loop { r2 with state := st', pending := pd' })) := fun st st' pd pd' h1 h2 => by
                        obtain ⟨t1, t2⟩ := Rel.setLoop hN2 i1 hL2 m2 p2 { L2 with state := st, pending := pd } { r2 with state := st', pending := pd' } ⟨h1, h2, LR2.env, LR2.params⟩
                        exact ⟨t1, hle2.trans (by rw [hlen2] at t2; exact t2)⟩
                      cases x with
                      | panic v => cases h
                      | normal =>
                        cases h
                        cases ex with
                        | normal =>
                          obtain ⟨t1, t2⟩ := hfin .ready .ready none none trivial trivial
                          exact ⟨_, _, run_endRound none p2, g2, t1, t2, rfl⟩
                        | exit => exact i5.elim
                        | goto => exact i5.elim
                        | ret => exact i5.elim
                        | panic => exact i5.elim
                        | outgrown => exact i5.elim
                      | exit id =>
                        cases h
                        cases ex with
                        | exit id' =>
                          obtain ⟨t1, t2⟩ := hfin .done .done (some (.exit id)) (some (.exit id')) trivial i5
                          exact ⟨_, _, run_endRound (some (.exit id')) p2, g2, t1, t2, rfl⟩
                        | normal => exact i5.elim
                        | goto => exact i5.elim
                        | ret => exact i5.elim
                        | panic => exact i5.elim
                        | outgrown => exact i5.elim
                      | ret =>
                        cases h
                        cases ex with
                        | ret =>
                          obtain ⟨t1, t2⟩ := hfin .done .done (some .ret) (some .ret) trivial trivial
                          exact ⟨_, _, run_endRound (some .ret) p2, g2, t1, t2, rfl⟩
                        | normal => exact i5.elim
                        | goto => exact i5.elim
                        | exit => exact i5.elim
                        | panic => exact i5.elim
                        | outgrown => exact i5.elim
                    · cases h
                  · cases h
            · cases h
          · cases h
        · cases h
    · cases h
end
end Go.AS

/-
  Calls, whole. By an AI agent.
-/
namespace Go.AS
open Go
set_option maxHeartbeats 1000000

section
variable {P : Program} {an : Ann}

/-- A call of a function value of the level below. -/
theorem ext_sim {call : CallT} {K : IMap} (hcall : CallSim P K call) {v : AV} {args args' : List AV} {H : Heap} {S S'' : Stack} {r r' : CR} (hargs : mapO down args = some args') (h : call v args' S = some (r, S''))
    (hup : match r with | .ret x => ∃ y, up x = some y ∧ r' = .ret y | .pan x => ∃ y, up x = some y ∧ r' = .pan y) {g : G} {w : World} {fv : Value} {xs : List Value} (hK : KIn K g) (hr : Rel P g (H :: S) w)
    (hf : RV g.I (.ext v) g.Ms fv) (ha : RVs g.I args g.Ms false xs) :
    DoesCall P fv xs.toArray w fun en w' => ∃ g', Rel P g' (H :: S'') w' ∧ Le (S.length + 1) g g' w w' ∧ EndR g'.I g'.Ms r' en := by
  obtain ⟨M, Ms, hMs, hf⟩ := hf
  have hrs := hr.rs
  rw [hMs] at hrs ha
  obtain ⟨h1, h2, h3⟩ := hrs
  have ha' : RVs g.I args' Ms false xs := RVs.mapO (fun v v' x e hx => RV.down e hx) args hargs ha
  let O0 : Nat → Option (Nat × Nat) := fun b => match g.O b with
    | some (l, id) => if l = S.length then none else some (l, id)
    | none => none
  have hO0 : ∀ b x, O0 b = some x → g.O b = some x ∧ x.1 ≠ S.length := fun b x hb => by
    have hb' : (match g.O b with | some (l, id) => if l = S.length then none else some (l, id) | none => none) = some x := hb
    cases hO : g.O b with
    | none => rw [hO] at hb'; cases hb'
    | some y =>
      obtain ⟨l, id⟩ := y
      rw [hO] at hb'
      by_cases hls : l = S.length
      · simp only [if_pos hls] at hb'; cases hb'
      · simp only [if_neg hls] at hb'; cases hb'; exact ⟨rfl, hls⟩
  have hO1 : ∀ b l id, l ≠ S.length → g.O b = some (l, id) → O0 b = some (l, id) := fun b l id hne hb => by
    show (match g.O b with | some (l, id) => if l = S.length then none else some (l, id) | none => none) = some (l, id)
    rw [hb]; simp only [if_neg hne]
  have hO2 : ∀ b, g.O b = none → O0 b = none := fun b hb => by
    show (match g.O b with | some (l, id) => if l = S.length then none else some (l, id) | none => none) = none
    rw [hb]
  have hO3 : ∀ b id, g.O b = some (S.length, id) → O0 b = none := fun b id hb => by
    show (match g.O b with | some (l, id) => if l = S.length then none else some (l, id) | none => none) = none
    rw [hb]; simp
  have hr0 : Rel P { g with Ms := Ms, O := O0 } S w :=
    ⟨RelS.frame (fun _ _ h => h) h3 fun b l id hb hlt => ⟨hO1 b l id (by omega) hb, rfl⟩, fun b o hb => ⟨(hr.im b o hb).1, hO2 b (hr.im b o hb).2.1, (hr.im b o hb).2.2⟩, fun b x hb => hr.ow b x (hO0 b x hb).1, hr.bm, fun b l id hb => by
      obtain ⟨q1, q2⟩ := hO0 b _ hb
      have := hr.lv b l id q1
      simp at this q2
      omega⟩
  refine (hcall h (g := { g with Ms := Ms, O := O0 }) hK hr0 hf ha').mono ?_
  rintro en w' ⟨g1, k1, k2, k3⟩
  have hlen : S''.length = S.length := Rel.length_eq hr0 k1 k2
  have hold : ∀ b x, g.O b = some x → b < w.heap.size := fun b x hb => (hr.ow b x hb).1
  have hms : MsLe (M :: Ms) (M :: g1.Ms) := ⟨fun _ _ _ h => h, k2.ms⟩
  let O' : Nat → Option (Nat × Nat) := fun b => if b < w.heap.size then g.O b else g1.O b
  have hO'o : ∀ b, b < w.heap.size → O' b = g.O b := fun b hb => if_pos hb
  have hO'n : ∀ b, w.heap.size ≤ b → O' b = g1.O b := fun b hb => if_neg (by omega)
  have hkeep : ∀ b id, g.O b = some (S.length, id) → w'.heap[b]? = w.heap[b]? := fun b id hb => k2.frame b (hold b _ hb) fun l j hj => by
    have : O0 b = some (l, j) := hj
    rw [hO3 b id hb] at this
    cases this
  refine ⟨{ Ms := M :: g1.Ms, I := g1.I, O := O', B := g1.B }, ⟨⟨fun id o ho => ?_, fun id lim p hp => ?_, ?_⟩, fun b o hb => ?_, fun b x hb => ?_, k1.bm, fun b l id hb => ?_⟩, ⟨k2.os, k2.tape, k2.output, k2.size, hMs ▸ hms, k2.im, hO'o, k2.oI, k2.oB, fun b hb ho => ?_⟩, ?_⟩
  · rw [hlen]
    refine (h1 id o ho).frame k2.im hms (fun _ => rfl) fun b hb => ⟨(hO'o b (hold b _ hb)).trans hb, hkeep b id hb⟩
  · rw [hlen]
    obtain ⟨q1, q2⟩ := h2 id lim p hp
    exact ⟨q1, (hO'o _ (hold _ _ q2)).trans q2⟩
  · refine RelS.frame (fun _ _ h => h) k1.rs fun b l id hb hlt => ⟨?_, rfl⟩
    rcases Nat.lt_or_ge b w.heap.size with hb2 | hb2
    · have := k2.oO b hb2
      have h0 : O0 b = some (l, id) := this.symm.trans hb
      exact (hO'o b hb2).trans (hO0 b _ h0).1
    · exact (hO'n b hb2).trans hb
  · obtain ⟨q1, q2, q3⟩ := k1.im b o hb
    refine ⟨q1, ?_, q3⟩
    rcases Nat.lt_or_ge b w.heap.size with hb2 | hb2
    · have : g.I b = some o := (k2.oI b hb2).symm.trans hb
      exact (hO'o b hb2).trans (hr.im b o this).2.1
    · exact (hO'n b hb2).trans q2
  · rcases Nat.lt_or_ge b w.heap.size with hb2 | hb2
    · have hb3 : g.O b = some x := (hO'o b hb2).symm.trans hb
      exact ⟨Nat.lt_of_lt_of_le hb2 k2.size, fun hB => (hr.ow b x hb3).2 ((k2.oB b hb2).1 hB)⟩
    · exact k1.ow b x ((hO'n b hb2).symm.trans hb)
  · rcases Nat.lt_or_ge b w.heap.size with hb2 | hb2
    · have := hr.lv b l id ((hO'o b hb2).symm.trans hb)
      simp at this ⊢
      omega
    · have := k1.lv b l id ((hO'n b hb2).symm.trans hb)
      simp
      omega
  · have hnone : g.O b = none := by
      cases hO : g.O b with
      | none => rfl
      | some x =>
        obtain ⟨l, id⟩ := x
        have a1 := hr.lv b l id hO
        have a2 := ho l id hO
        simp at a1
        omega
    refine k2.frame b hb fun l id hO => ?_
    have : O0 b = some (l, id) := hO
    rw [hO2 b hnone] at this
    cases this
  · cases r with
    | ret v0 =>
      obtain ⟨y, hy, rfl⟩ := hup
      cases en with
      | returned z => exact RV.up hy k3
      | panicked => exact k3.elim
      | outgrown => exact k3.elim
    | pan v0 =>
      obtain ⟨y, hy, rfl⟩ := hup
      cases en with
      | returned z => exact k3.elim
      | panicked ch =>
        obtain ⟨z, rfl, k4⟩ := k3
        exact ⟨z, rfl, RV.up hy k4⟩
      | outgrown => exact k3.elim

/-- That a function of the library does what is told of it. -/
def NatOK (P : Program) (K : IMap) (f : Nat) (nk : NatK) : Prop := ∀ (args : List AV) (S S' : Stack) (r : CR), natV nk args S = some (r, S') → ∀ (g : G) (w : World) (xs : List Value), KIn K g → Rel P g S w → RVs g.I args g.Ms false xs →
  Calls P f xs.toArray w fun en w' => ∃ g', Rel P g' S' w' ∧ Le S.length g g' w w' ∧ EndR g'.I g'.Ms r en
def NatsOK (P : Program) (K : IMap) (l : List (Nat × NatK)) : Prop := ∀ i nk, natOf i l = some nk → NatOK P K i nk
theorem NatsOK.nil {K : IMap} : NatsOK P K [] := fun _ _ h => by cases h
theorem NatsOK.cons {K : IMap} {i : Nat} {nk : NatK} {l : List (Nat × NatK)} (h : NatOK P K i nk) (t : NatsOK P K l) : NatsOK P K ((i, nk) :: l) := fun j mk hj => by
  simp only [natOf] at hj
  cases hb : Nat.beq i j with
  | false => rw [hb] at hj; exact t j mk hj
  | true =>
    rw [hb] at hj
    cases hj
    rw [← Nat.eq_of_beq_eq_true hb]
    exact h

theorem cF_nat {i : Nat} {f : Func} {fn : IFun} (h : cF P an i f = some fn) : fn.nat = none := by
  unfold cF at h
  split at h
  · cases h
  · rw [Bool.cond_eq_ite] at h
    split at h
    · cases h
    · split at h
      · cases h; rfl
      · cases h

theorem cN_cases {i : Nat} {f : Func} {fn : IFun} (h : cN P i f an = some fn) :
    (∃ c, f.body = some c) ∧ special f = false ∧ ((∃ nk, natOf i an.nat = some nk ∧ fn.nat = some nk) ∨ (fn.nat = none ∧ cF P an i f = some fn)) := by
  unfold cN at h
  split at h
  · rename_i nk hnk
    split at h
    · cases h
    · rename_i c hb
      cases hs : special f with
      | true => rw [hs] at h; cases h
      | false =>
        rw [hs] at h
        cases h
        exact ⟨⟨_, hb⟩, rfl, .inl ⟨nk, hnk, rfl⟩⟩
  · obtain ⟨c, hb, hsp, _⟩ := cF_body h
    exact ⟨⟨c, hb⟩, hsp, .inr ⟨cF_nat h, h⟩⟩

/-- A call that the evaluator makes, the model makes. -/
theorem callV_sim {K : IMap} (hmo : P.follows .mixedOrders = true) (hnat : NatsOK P K an.nat) (k : Nat) : CallSim P K (callV (funsOf P an) k) := by
  induction k with
  | zero =>
    intro f args S S' r h
    simp [callV] at h
  | succ k ih =>
    intro f args S S' r h g w fv xs hK hr hf ha
    unfold callV at h
    split at h
    · rename_i gf fi ca
      split at h
      · rename_i fn hfn
        obtain ⟨xs1, ys1, rfl, q1, q2⟩ := hf
        simp only [funsOf, Option.bind_eq_some_iff] at hfn
        obtain ⟨f, hf, hcf⟩ := hfn
        obtain ⟨⟨c, hb⟩, hsp, hcs⟩ := cN_cases hcf
        have hall : RVs g.I (fi ++ args ++ ca) g.Ms false (xs1.toList ++ xs ++ ys1.toList) := (q1.append ha).append q2
        have : CallsIn Fence.wide 0 P gf (xs1.toList ++ xs ++ ys1.toList).toArray w fun en w' => ∃ g', Rel P g' S' w' ∧ Le S.length g g' w w' ∧ EndR g'.I g'.Ms r en := by
          rcases hcs with ⟨nk, hnk, hfn⟩ | ⟨hfn, hcF⟩
          · rw [hfn] at h
            exact callsIn_wide.2 (hnat gf nk hnk _ _ _ _ h _ _ _ hK hr hall)
          · rw [hfn] at h
            exact callFn_sim ih hmo hf hcF h hK hr hall
        refine ⟨.func gf, xs1, ys1, rfl, .inl ⟨gf, (xs1.toList ++ xs ++ ys1.toList).toArray, ?_, this⟩⟩
        have he : (xs1.toList ++ xs ++ ys1.toList).toArray = xs1 ++ xs.toArray ++ ys1 := by apply Array.ext'; simp
        rw [he]
        have hname : ¬ f.name = "runtime.NumGoroutine" := by
          have : (f.name == "runtime.NumGoroutine") = false := hsp
          simpa using this
        simp [invoke, callFunc, hf, hname, hb]
      · cases h
    · rename_i l fi ca
      exact round_sim ih hmo h hK hr hf ha
    · rename_i v
      split at h
      · cases h
      · rename_i H S0
        split at h
        · cases h
        · rename_i args' hargs
          split at h
          · rename_i r0 S2 hcl
            simp only [Option.map_eq_some_iff, Prod.mk.injEq] at h
            obtain ⟨y, hy, rfl, rfl⟩ := h
            exact ext_sim ih hargs hcl ⟨y, hy, rfl⟩ hK hr hf ha
          · rename_i r0 S2 hcl
            simp only [Option.map_eq_some_iff, Prod.mk.injEq] at h
            obtain ⟨y, hy, rfl, rfl⟩ := h
            exact ext_sim ih hargs hcl ⟨y, hy, rfl⟩ hK hr hf ha
          · cases h
    · cases h

/-- WHAT THE EVALUATOR COMPUTES, THE MODEL COMPUTES: a call of function f, its arguments standing for 'args' in memory that stays as it is. -/
theorem calls_of {K : IMap} (hmo : P.follows .mixedOrders = true) (hnat : NatsOK P K an.nat) {k f : Nat} {args : List AV} {r : CR} (h : callV (funsOf P an) k (.func (.func f) [] []) args [] = some (r, [])) {w : World} {I : IMap} (hI : ∀ b o, I b = some o → w.heap[b]? = some o) (hK : ∀ b o, K b = some o → I b = some o) {xs : List Value}
    (ha : RVs I args [] false xs) :
    Calls P f xs.toArray w fun en w' => ∃ I', w'.os = w.os ∧ w'.tape = w.tape ∧ w'.output = w.output ∧ w.heap.size ≤ w'.heap.size ∧ (∀ b, b < w.heap.size → w'.heap[b]? = w.heap[b]?) ∧ (∀ b o, I b = some o → I' b = some o) ∧ (∀ b o, I' b = some o → w'.heap[b]? = some o) ∧ EndR I' [] r en := by
  have hr : Rel P ⟨[], I, fun _ => none, fun _ => False⟩ [] w := ⟨trivial, fun b o hb => ⟨hI b o hb, rfl, id⟩, fun _ _ h => (by cases h), fun _ h => h.elim, fun _ _ _ h => (by cases h)⟩
  cases k with
  | zero => simp [callV] at h
  | succ k =>
    simp only [callV] at h
    split at h
    · rename_i fn hfn
      simp only [funsOf, Option.bind_eq_some_iff] at hfn
      obtain ⟨fu, hf, hcf⟩ := hfn
      simp only [List.nil_append, List.append_nil] at h
      have hcl : CallsIn Fence.wide 0 P f xs.toArray w fun en w' => ∃ g', Rel P g' [] w' ∧ Le 0 ⟨[], I, fun _ => none, fun _ => False⟩ g' w w' ∧ EndR g'.I g'.Ms r en := by
        obtain ⟨_, _, hcs⟩ := cN_cases hcf
        rcases hcs with ⟨nk, hnk, hfn⟩ | ⟨hfn, hcF⟩
        · rw [hfn] at h
          exact callsIn_wide.2 (hnat f nk hnk _ _ _ _ h _ _ _ hK hr ha)
        · rw [hfn] at h
          exact callFn_sim (callV_sim hmo hnat k) hmo hf hcF h hK hr ha
      refine callsIn_wide.1 (hcl.mono ?_)
      rintro en w' ⟨g', k1, k2, k3⟩
      have hms : g'.Ms = [] := by
        have := k2.ms
        cases hm : g'.Ms with
        | nil => rfl
        | cons M Ms => rw [hm] at this; exact this.elim
      exact ⟨g'.I, k2.os, k2.tape, k2.output, k2.size, fun b hb => k2.frame b hb fun _ _ h => (by cases h), k2.im, fun b o hb => (k1.im b o hb).1, hms ▸ k3⟩
    · cases h
end
end Go.AS
