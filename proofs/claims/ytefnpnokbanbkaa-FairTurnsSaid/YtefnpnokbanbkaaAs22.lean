/-
  Code. By an AI agent.
-/
import Derived.Test.YtefnpnokbanbkaaAs21
import Derived.RangeFuncRecord
set_option linter.all false
namespace Go.AS
open Go
set_option maxHeartbeats 1000000

section
variable {P : Program} {an : Ann} {fn n : Nat} {B0 : Nat → Prop}

theorem mapO_get {α β : Type} {f : α → Option β} : ∀ {l : List α} {ys : List β} {i : Nat} {x : α}, mapO f l = some ys → l[i]? = some x → ∃ y, ys[i]? = some y ∧ f x = some y
  | [], _, _, _, _, h => by simp at h
  | x :: r, ys, 0, x', e, h => by
    obtain ⟨y, ys', rfl, e1, _⟩ := mapO_cons e
    simp only [List.getElem?_cons_zero, Option.some.injEq] at h
    subst h
    exact ⟨y, rfl, e1⟩
  | x :: r, ys, i + 1, x', e, h => by
    obtain ⟨y, ys', rfl, _, e2⟩ := mapO_cons e
    simp only [List.getElem?_cons_succ] at h ⊢
    exact mapO_get e2 h

/-- Operations, in whatever order they are listed. -/
theorem ops_sim {call : CallT} (hcall : CallSim P call) {F : Fence} (hF : Wide F) {ops : Array Oper} {ios : List IOper} (hc : mapO (cOper P an fn n ops.toList) ops.toList = some ios) {Q : Exit → Act → World → Prop} :
    ∀ (l : List Nat) {e : Env} {a : Act} {g : G} {S : Stack} {w : World} {out : OR}, EnvR g.I g.Ms n e a.tmps → Rel P g S w → Marks B0 g.B a.defers → evOps call (l.filterMap (ios[·]?)) e S = some out →
      (∀ e' S', out = .go e' S' → ∀ g' a' w', EnvR g'.I g'.Ms n e' a'.tmps → Rel P g' S' w' → Le S.length g g' w w' → Marks B0 g'.B a'.defers → Q .normal a' w') →
      (∀ v e' S', out = .pan v e' S' → ∀ g' a' w' x, EnvR g'.I g'.Ms n e' a'.tmps → Rel P g' S' w' → Le S.length g g' w w' → Marks B0 g'.B a'.defers → RV g'.I v g'.Ms x → Q (.panic [{ v := x, recovered := false }]) a' w') →
      wpOpsIn F 0 P ops Q l a w
  | [], e, a, g, S, w, out, he, hr, hm, hev, hgo, _ => by
    simp only [List.filterMap_nil, evOps, Option.some.injEq] at hev
    exact hgo _ _ hev.symm g a w he hr (.refl _ _ _) hm
  | i :: l, e, a, g, S, w, out, he, hr, hm, hev, hgo, hpan => by
    simp only [wpOpsIn]
    cases ho : ops[i]? with
    | none =>
      simp only
      have : ios[i]? = none := by
        rw [List.getElem?_eq_none_iff, mapO_length hc]
        simpa using ho
      rw [List.filterMap_cons, this] at hev
      exact ops_sim hcall hF hc l he hr hm hev hgo hpan
    | some o =>
      simp only
      obtain ⟨io, hio, hco⟩ := mapO_get (i := i) (x := o) hc (by rw [Array.getElem?_toList]; exact ho)
      rw [List.filterMap_cons, hio] at hev
      simp only [evOps] at hev
      have hone : ∀ out1, evOper call io e S = some out1 →
          (∀ e1 S1, out1 = .go e1 S1 → evOps call (l.filterMap (ios[·]?)) e1 S1 = some out) → (∀ v e1 S1, out1 = .pan v e1 S1 → out = .pan v e1 S1) →
          (if Region.wanted o (yielded ops a.tmps) then o.wpIn F 0 P a w (wpOpsIn F 0 P ops Q l) Q else wpOpsIn F 0 P ops Q l (a.put o.dst undef) w) := fun out1 h1 h2 h3 => by
        refine oper_sim hcall hF hco he hr hm h1 (fun e1 S1 e0 g1 a1 w1 k1 k2 k3 k4 => ?_) (fun v e1 S1 e0 g1 w1 x k1 k2 k3 k4 k5 => ?_)
        · have hlen := Rel.length_eq hr k2 k3
          refine ops_sim hcall hF hc l k1 k2 k4 (h2 _ _ e0) (fun e' S' q g' a' w' j1 j2 j3 j4 => hgo e' S' q g' a' w' j1 j2 (k3.trans (hlen ▸ j3)) j4) (fun v e' S' q g' a' w' x j1 j2 j3 j4 j5 => hpan v e' S' q g' a' w' x j1 j2 (k3.trans (hlen ▸ j3)) j4 j5)
        · exact hpan v e1 S1 (h3 v e1 S1 e0) g1 a w1 x k1 k2 k3 k4 k5
      have hmain : (if Region.wanted o (yielded ops a.tmps) then o.wpIn F 0 P a w (wpOpsIn F 0 P ops Q l) Q else wpOpsIn F 0 P ops Q l (a.put o.dst undef) w) := by
        split at hev
        · rename_i e1 S1 h1
          exact hone _ h1 (fun _ _ q => by cases q; exact hev) (fun _ _ _ q => by cases q)
        · exact hone _ hev (fun e1 S1 q => by subst q; rename_i hno; exact absurd hev (hno _ _)) (fun _ _ _ q => q)
      split
      · rename_i hw; rw [if_pos hw] at hmain; exact hmain
      · rename_i hw; rw [if_neg hw] at hmain; exact ⟨fun f _ => hF.anyFn f, hmain⟩

theorem filterMap_range {ios : List IOper} {m : Nat} (h : ios.length = m) : (List.range m).filterMap (ios[·]?) = ios := by
  subst h
  induction ios with
  | nil => rfl
  | cons x r ih =>
    rw [List.length_cons, List.range_succ_eq_map, List.filterMap_cons]
    simp only [List.getElem?_cons_zero, List.filterMap_map]
    exact congrArg (x :: ·) ih

theorem left_none (m : Nat) : left m (Array.replicate m false) = List.range m := by
  unfold left
  rw [List.filter_eq_self]
  intro x hx
  have := List.mem_range.1 hx
  simp [this]

/-- How a piece of code is left. -/
def XE (I : IMap) (Ms : List MMap) : IX → Exit → Prop
  | .normal, .normal => True
  | .exit i, .exit j => i = j
  | .ret, .ret => True
  | .panic v, .panic ch => ∃ x, ch = [{ v := x, recovered := false }] ∧ RV I v Ms x
  | _, _ => False

def PostC (P : Program) (n : Nat) (B0 : Nat → Prop) (g : G) (S : Stack) (w : World) (x : IX) (e' : Env) (S' : Stack) : Exit → Act → World → Prop := fun ex a' w' =>
  ∃ g', Rel P g' S' w' ∧ Le S.length g g' w w' ∧ EnvR g'.I g'.Ms n e' a'.tmps ∧ Marks B0 g'.B a'.defers ∧ XE g'.I g'.Ms x ex

theorem PostC.of_le {g g1 : G} {S S1 S' : Stack} {w w1 : World} {x : IX} {e' : Env} (hr : Rel P g S w) (hr1 : Rel P g1 S1 w1) (hl : Le S.length g g1 w w1) {ex : Exit} {a' : Act} {w' : World} (h : PostC P n B0 g1 S1 w1 x e' S' ex a' w') : PostC P n B0 g S w x e' S' ex a' w' := by
  obtain ⟨g', h1, h2, h3⟩ := h
  exact ⟨g', h1, hl.trans ((Rel.length_eq hr hr1 hl) ▸ h2), h3⟩

theorem region_sim {call : CallT} (hcall : CallSim P call) {F : Fence} (hF : Wide F) (hmo : P.follows .mixedOrders = true) {k : Nat} {all : List Nat} {nest : Bool} {id : Nat} {ops : Array Oper} {draw : Bool} {ir : IC} (hc : cC P an fn n all nest (.region id ops draw) = some ir)
    {e : Env} {a : Act} {g : G} {S : Stack} {w : World} (he : EnvR g.I g.Ms n e a.tmps) (hr : Rel P g S w) (hm : Marks B0 g.B a.defers) {x : IX} {e' : Env} {S' : Stack} (hS : S ≠ []) (hev : evC k call ir e S = some (x, e', S')) :
    (Code.region id ops draw).wpIn F 0 P (PostC P n B0 g S w x e' S') a w := by
  simp only [cC] at hc
  split at hc
  · rename_i ios hios
    have hlen : ios.length = ops.size := by rw [mapO_length hios]; simp
    cases draw with
    | false =>
      simp only [Bool.false_and, cond_false, Option.some.injEq] at hc
      subst hc
      simp only [evC] at hev
      refine wpIn_region ?_
      cases h1 : evOps call ios e S with
      | none => rw [h1] at hev; cases hev
      | some out =>
        rw [h1] at hev
        refine ops_sim hcall hF hios _ he hr hm (by rw [filterMap_range hlen]; exact h1) (fun e1 S1 q g' a' w' j1 j2 j3 j4 => ?_) (fun v e1 S1 q g' a' w' y j1 j2 j3 j4 j5 => ?_)
        · subst q
          simp only [Option.some.injEq, Prod.mk.injEq] at hev
          obtain ⟨rfl, rfl, rfl⟩ := hev
          exact ⟨g', j2, j3, j1.drop _, j4, trivial⟩
        · subst q
          simp only [cond_false, Option.some.injEq, Prod.mk.injEq] at hev
          obtain ⟨rfl, rfl, rfl⟩ := hev
          exact ⟨g', j2, j3, j1, j4, y, rfl, j5⟩
    | true =>
      cases hd : drawOk ops.toList ios with
      | false => rw [hd] at hc; cases hc
      | true =>
        rw [hd] at hc
        simp only [Bool.not_true, Bool.and_false, cond_false, Option.some.injEq] at hc
        subst hc
        simp only [evC] at hev
        refine wpIn_region_draw fun t => ?_
        cases h1 : evOps call ios e S with
        | none => rw [h1] at hev; cases hev
        | some out =>
          rw [h1] at hev
          cases out with
          | pan v e1 S1 => cases hev
          | go e1 S1 =>
            simp only [Option.some.injEq, Prod.mk.injEq] at hev
            obtain ⟨rfl, rfl, rfl⟩ := hev
            simp only [Region.schedule, hmo, Bool.true_or, if_true, Region.linearise]
            obtain ⟨e2, h2, h3⟩ := lin_go hlen hd ops.size t (Array.replicate ops.size false) e e1 S S1 (by simp) (by rw [left_none]; simp) hS
              (fun k qs hk hkl => by simp [hkl] at hk) (by rw [left_none, filterMap_range hlen]; exact h1)
            refine ops_sim hcall hF hios _ he (hr.drawn _) hm h2 (fun e3 S3 q g' a' w' j1 j2 j3 j4 => ?_) (fun v e1 S1 q => by cases q)
            simp only [OR.go.injEq] at q
            obtain ⟨rfl, rfl⟩ := q
            exact ⟨g', j2, (Le.drawn _ _ _ _).trans j3, EnvR.drop _ ⟨j1.1, fun i => by rw [h3 i]; exact j1.2 i⟩, j4, trivial⟩
  · cases hc
end
end Go.AS
