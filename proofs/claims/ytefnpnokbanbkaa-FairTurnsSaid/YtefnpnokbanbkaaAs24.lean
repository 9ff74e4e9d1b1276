/-
  Code, whole. By an AI agent.
-/
import Derived.Test.YtefnpnokbanbkaaAs23
set_option linter.all false
namespace Go.AS
open Go
set_option maxHeartbeats 1000000
section
variable {P : Program} {an : Ann} {fn n : Nat} {B0 : Nat → Prop}

theorem ne_nil_of {g g1 : G} {S S1 : Stack} {w w1 : World} (hS : S ≠ []) (hr : Rel P g S w) (hr1 : Rel P g1 S1 w1) (hl : Le S.length g g1 w w1) : S1 ≠ [] := by
  have := Rel.length_eq hr hr1 hl
  intro h
  subst h
  exact hS (List.length_eq_zero_iff.1 this.symm)

theorem wd_inv {call : CallT} {k : Nat} {dr : List Nat} {i : IC} {e : Env} {S : Stack} {x : IX} {e' : Env} {S' : Stack} (h : evC k call (wd dr i) e S = some (x, e', S')) : ∃ e0, evC k call i e S = some (x, e0, S') ∧ (e' = e0 ∨ e' = Env.drop e0 dr) := by
  cases dr with
  | nil => exact ⟨e', h, .inl rfl⟩
  | cons d r =>
    simp only [wd, evC, evOps] at h
    split at h
    · rename_i e1 S1 h1
      simp only [Option.some.injEq, Prod.mk.injEq] at h
      obtain ⟨rfl, rfl, rfl⟩ := h
      exact ⟨e1, h1, .inr rfl⟩
    · exact ⟨e', h, .inl rfl⟩
theorem EnvR.wd {I : IMap} {Ms : List MMap} {e0 e' : Env} {dr : List Nat} {t : Array Value} (h : EnvR I Ms n e0 t) (hd : e' = e0 ∨ e' = Env.drop e0 dr) : EnvR I Ms n e' t := by
  rcases hd with rfl | rfl
  · exact h
  · exact h.drop _
theorem PostC.wd {g : G} {S : Stack} {w : World} {x : IX} {e0 e' : Env} {dr : List Nat} {S' : Stack} {ex : Exit} {a' : Act} {w' : World} (hd : e' = e0 ∨ e' = Env.drop e0 dr) (h : PostC P n B0 g S w x e0 S' ex a' w') : PostC P n B0 g S w x e' S' ex a' w' := by
  obtain ⟨g', h1, h2, h3, h4⟩ := h
  exact ⟨g', h1, h2, h3.wd hd, h4⟩

/-- CODE. -/
theorem evC_sim {call : CallT} (hcall : CallSim P call) (hmo : P.follows .mixedOrders = true) {k : Nat} {all : List Nat} : ∀ (c : Code) {F : Fence} (_ : Wide F) {nest : Bool} (_ : nest = false → F = Fence.wide) {ir : IC} (_ : cC P an fn n all nest c = some ir)
    {e : Env} {a : Act} {g : G} {S : Stack} {w : World} (_ : EnvR g.I g.Ms n e a.tmps) (_ : Rel P g S w) (_ : Marks B0 g.B a.defers) (_ : S ≠ []) {x : IX} {e' : Env} {S' : Stack} (_ : evC k call ir e S = some (x, e', S')),
    c.wpIn F 0 P (PostC P n B0 g S w x e' S') a w := by
  intro c
  induction c with
  | skip =>
    intro F hF nest hn ir hc e a g S w he hr hm hS x e' S' hev
    simp only [cC, Option.some.injEq] at hc
    subst hc
    simp only [evC, Option.some.injEq, Prod.mk.injEq] at hev
    obtain ⟨rfl, rfl, rfl⟩ := hev
    exact wpIn_skip ⟨g, hr, .refl _ _ _, he, hm, trivial⟩
  | label l =>
    intro F hF nest hn ir hc e a g S w he hr hm hS x e' S' hev
    simp only [cC, Option.some.injEq] at hc
    subst hc
    simp only [evC, Option.some.injEq, Prod.mk.injEq] at hev
    obtain ⟨rfl, rfl, rfl⟩ := hev
    exact wpIn_label ⟨g, hr, .refl _ _ _, he, hm, trivial⟩
  | exit id =>
    intro F hF nest hn ir hc e a g S w he hr hm hS x e' S' hev
    simp only [cC, Option.some.injEq] at hc
    subst hc
    simp only [evC, Option.some.injEq, Prod.mk.injEq] at hev
    obtain ⟨rfl, rfl, rfl⟩ := hev
    exact wpIn_exit ⟨g, hr, .refl _ _ _, he, hm, rfl⟩
  | ret =>
    intro F hF nest hn ir hc e a g S w he hr hm hS x e' S' hev
    simp only [cC, Option.some.injEq] at hc
    subst hc
    simp only [evC, Option.some.injEq, Prod.mk.injEq] at hev
    obtain ⟨rfl, rfl, rfl⟩ := hev
    exact wpIn_ret ⟨g, hr, .refl _ _ _, he, hm, trivial⟩
  | region id ops draw =>
    intro F hF nest hn ir hc e a g S w he hr hm hS x e' S' hev
    exact region_sim hcall hF hmo hc he hr hm hS hev
  | rangeFunc gf ps asg body _ _ =>
    intro F hF nest hn ir hc e a g S w he hr hm hS x e' S' hev
    cases nest with
    | true => simp [cC] at hc
    | false =>
      rw [hn rfl]
      exact range_sim hcall hc he hr hm hev
  | seq c1 c2 ih1 ih2 =>
    intro F hF nest hn ir hc e a g S w he hr hm hS x e' S' hev
    simp only [cC] at hc
    split at hc
    · rename_i i1 i2 h1 h2
      cases hc
      simp only [evC] at hev
      refine wpIn_seq ?_
      split at hev
      · rename_i e1 S1 hev1
        refine wpIn_mono (ih1 hF hn h1 he hr hm hS hev1) ?_
        rintro ex a1 w1 ⟨g1, k1, k2, k3, k4, k5⟩
        cases ex with
        | normal => exact wpIn_mono (ih2 hF hn h2 k3 k1 k4 (ne_nil_of hS hr k1 k2) hev) fun _ _ _ hp => hp.of_le hr k1 k2
        | exit => exact k5.elim
        | goto => exact k5.elim
        | ret => exact k5.elim
        | panic => exact k5.elim
        | outgrown => exact k5.elim
      · rename_i hno
        refine wpIn_mono (ih1 hF hn h1 he hr hm hS hev) ?_
        rintro ex a1 w1 hp
        cases ex with
        | normal =>
          obtain ⟨_, _, _, _, _, k5⟩ := hp
          cases x with
          | normal => exact absurd hev (hno _ _)
          | exit => exact k5.elim
          | ret => exact k5.elim
          | panic => exact k5.elim
        | exit => exact hp
        | goto => exact hp
        | ret => exact hp
        | panic => exact hp
        | outgrown => exact hp
    · cases hc
  | cond c0 c1 c2 ih1 ih2 =>
    intro F hF nest hn ir hc e a g S w he hr hm hS x e' S' hev
    simp only [cC] at hc
    split at hc
    · rename_i co i1 i2 h0 h1 h2
      cases hc
      simp only [evC] at hev
      split at hev
      · rename_i t ht
        have hx := cO_RV h0 he
        rw [ht] at hx
        refine wpIn_cond (t := t) hx ?_
        cases t with
        | true => exact ih1 hF hn h1 he hr hm hS hev
        | false => exact ih2 hF hn h2 he hr hm hS hev
      · cases hev
    · cases hc
  | block id c ih =>
    intro F hF nest hn ir hc e a g S w he hr hm hS x e' S' hev
    simp only [cC, Option.map_eq_some_iff] at hc
    obtain ⟨i1, h1, rfl⟩ := hc
    obtain ⟨e0, hev0, hd0⟩ := wd_inv hev
    refine wpIn_mono ?_ (fun _ _ _ hp => PostC.wd hd0 hp)
    clear hd0 hev
    have hev := hev0
    clear hev0
    simp only [evC] at hev
    refine wpIn_block ?_
    split at hev
    · rename_i j e1 S1 hev1
      refine wpIn_mono (ih hF hn h1 he hr hm hS hev1) ?_
      rintro ex a1 w1 ⟨g1, k1, k2, k3, k4, k5⟩
      cases ex with
      | exit id' =>
        have hj : j = id' := k5
        subst hj
        simp only [Exit.inBlock]
        by_cases hji : j = id
        · subst hji
          rw [nbeq_self] at hev
          simp only [cond_true, Option.some.injEq, Prod.mk.injEq] at hev
          obtain ⟨rfl, rfl, rfl⟩ := hev
          rw [if_pos rfl]
          exact ⟨g1, k1, k2, k3, k4, trivial⟩
        · rw [nbeq_false hji] at hev
          simp only [cond_false, Option.some.injEq, Prod.mk.injEq] at hev
          obtain ⟨rfl, rfl, rfl⟩ := hev
          rw [if_neg hji]
          exact ⟨g1, k1, k2, k3, k4, rfl⟩
      | normal => exact k5.elim
      | goto => exact k5.elim
      | ret => exact k5.elim
      | panic => exact k5.elim
      | outgrown => exact k5.elim
    · rename_i hno
      refine wpIn_mono (ih hF hn h1 he hr hm hS hev) ?_
      rintro ex a1 w1 hp
      cases ex with
      | exit id' =>
        obtain ⟨_, _, _, _, _, k5⟩ := hp
        cases x with
        | exit => exact absurd hev (hno _ _ _)
        | normal => exact k5.elim
        | ret => exact k5.elim
        | panic => exact k5.elim
      | normal => exact hp
      | goto => exact hp
      | ret => exact hp
      | panic => exact hp
      | outgrown => exact hp
  | loop c ih =>
    intro F hF nest hn ir hc e a g S w he hr hm hS x e' S' hev
    simp only [cC, Option.map_eq_some_iff] at hc
    obtain ⟨i1, h1, rfl⟩ := hc
    simp only [evC] at hev
    refine wpIn_loop_n (fun j a1 w1 => ∃ g1 e1 S1, EnvR g1.I g1.Ms n e1 a1.tmps ∧ Rel P g1 S1 w1 ∧ Marks B0 g1.B a1.defers ∧ Le S.length g g1 w w1 ∧ iter (evC k call (wd (deadOf all c) i1)) j e1 S1 = some (x, e', S')) ?_ k ⟨g, e, S, he, hr, hm, .refl _ _ _, hev⟩
    rintro j a1 w1 ⟨g1, e1, S1, j1, j2, j3, j4, j5⟩
    have hS1 := ne_nil_of hS hr j2 j4
    cases j with
    | zero => simp [iter] at j5
    | succ j =>
      simp only [iter] at j5
      split at j5
      · rename_i e2 S2 hev2
        obtain ⟨e0, hev1, hd0⟩ := wd_inv hev2
        refine wpIn_mono (ih hF hn h1 j1 j2 j3 hS1 hev1) ?_
        rintro ex a2 w2 ⟨g2, k1, k2, k3, k4, k5⟩
        cases ex with
        | normal => exact ⟨j, Nat.lt_succ_self _, g2, e2, S2, k3.wd hd0, k1, k4, j4.trans ((Rel.length_eq hr j2 j4) ▸ k2), j5⟩
        | exit => exact k5.elim
        | goto => exact k5.elim
        | ret => exact k5.elim
        | panic => exact k5.elim
        | outgrown => exact k5.elim
      · rename_i hno
        obtain ⟨e0, hev1, hd0⟩ := wd_inv j5
        refine wpIn_mono (ih hF hn h1 j1 j2 j3 hS1 hev1) ?_
        rintro ex a2 w2 hp0
        have hp := PostC.wd hd0 hp0
        cases ex with
        | normal =>
          obtain ⟨_, _, _, _, _, k5⟩ := hp
          cases x with
          | normal => exact absurd j5 (hno _ _)
          | exit => exact k5.elim
          | ret => exact k5.elim
          | panic => exact k5.elim
        | exit => exact hp.of_le hr j2 j4
        | goto => exact hp.of_le hr j2 j4
        | ret => exact hp.of_le hr j2 j4
        | panic => exact hp.of_le hr j2 j4
        | outgrown => exact hp.of_le hr j2 j4
  | _ => intro F hF nest hn ir hc; simp only [cC] at hc; exact nomatch hc
end
end Go.AS
