/-
  Operations apart. By an AI agent.
-/
import Derived.Test.YtefnpnokbanbkaaAs19
set_option linter.all false
namespace Go.AS
open Go
set_option maxHeartbeats 4000000

theorem evs_env {e e' : Env} : ∀ {l : List Opd}, (∀ x ∈ l, x.ev e = x.ev e') → evs e l = evs e' l
  | [], _ => rfl
  | x :: r, h => by simp only [evs, h x (by simp), evs_env (l := r) fun y hy => h y (by simp [hy])]

theorem fillA_env {e e' : Env} : ∀ {l : List (Nat × Nat × Opd)} {cs : List AV}, (∀ x ∈ l.map (·.2.2), x.ev e = x.ev e') → fillA e cs l = fillA e' cs l
  | [], _, _ => rfl
  | (off, n, x) :: r, cs, h => by
    simp only [fillA, h x (by simp)]
    cases cellsOf (x.ev e') with
    | none => rfl
    | some vs =>
      simp only
      rw [fillA_env (l := r) fun y hy => h y (by simp only [List.map_cons, List.mem_cons]; exact .inr hy)]

theorem bnd_env {e e' : Env} {x : Opd} {m : Nat} (h : x.ev e = x.ev e') : bnd x e m = bnd x e' m := by simp only [bnd, h]
theorem cutHi_env {e e' : Env} {x : Option Opd} {m k : Nat} (h : ∀ y ∈ optO x, y.ev e = y.ev e') : cutHi x e m k = cutHi x e' m k := by
  cases x with
  | none => rfl
  | some y => exact bnd_env (h y (by simp [optO]))
theorem cutLo_env {e e' : Env} {x : Option Opd} {m : Nat} (h : ∀ y ∈ optO x, y.ev e = y.ev e') : cutLo x e m = cutLo x e' m := by
  cases x with
  | none => rfl
  | some y => exact bnd_env (h y (by simp [optO]))
theorem cut_env {e e' : Env} {x y : Option Opd} {m k : Nat} (h : ∀ z ∈ optO x, z.ev e = z.ev e') (h2 : ∀ z ∈ optO y, z.ev e = z.ev e') : cut x y e m k = cut x y e' m k := by
  simp only [cut, cutHi_env h2, cutLo_env h]
theorem cut3_env {e e' : Env} {x y : Option Opd} {z : Opd} {m : Nat} (h : ∀ z ∈ optO x, z.ev e = z.ev e') (h2 : ∀ z ∈ optO y, z.ev e = z.ev e') (h3 : z.ev e = z.ev e') : cut3 x y z e m = cut3 x y z e' m := by
  unfold cut3
  rw [bnd_env h3]
  cases bnd z e' m with
  | none => rfl
  | some k =>
    cases y with
    | none => rfl
    | some y => simp only [bnd_env (h2 y (by simp [optO])), cutLo_env h]

theorem evOp_env {e e' : Env} {H : Heap} {op : IOp} (h : ∀ x ∈ opds op, x.ev e = x.ev e') : evOp e H op = evOp e' H op := by
  cases op
  case build zero ps => simp only [evOp, fillA_env (e := e) (e' := e') (l := ps) h]
  case bsl mt es len zero ps => simp only [evOp, fillA_env (e := e) (e' := e') (l := ps) h]
  case mkfn fn xs ys => simp only [evOp, evs_env (e := e) (e' := e') (l := xs) fun x hx => h x (by simp [opds, hx]), evs_env (e := e) (e' := e') (l := ys) fun x hx => h x (by simp [opds, hx])]
  case minmax mx xs => simp only [evOp, evs_env (e := e) (e' := e') (l := xs) h]
  case sub es x a b c =>
    have h0 := h x (by simp [opds])
    have h1 : ∀ z ∈ optO a, z.ev e = z.ev e' := fun z hz => h z (by simp [opds, hz])
    have h2 : ∀ z ∈ optO b, z.ev e = z.ev e' := fun z hz => h z (by simp [opds, hz])
    have h3 : ∀ z ∈ optO c, z.ev e = z.ev e' := fun z hz => h z (by simp [opds, hz])
    cases c with
    | none => simp only [evOp, h0, cut_env h1 h2]
    | some c => simp only [evOp, h0, cut3_env h1 h2 (h3 c (by simp [optO]))]
  case suba n es x a b c =>
    have h0 := h x (by simp [opds])
    have h1 : ∀ z ∈ optO a, z.ev e = z.ev e' := fun z hz => h z (by simp [opds, hz])
    have h2 : ∀ z ∈ optO b, z.ev e = z.ev e' := fun z hz => h z (by simp [opds, hz])
    simp only [evOp, h0, cut_env h1 h2]
  case subs x a b =>
    have h0 := h x (by simp [opds])
    have h1 : ∀ z ∈ optO a, z.ev e = z.ev e' := fun z hz => h z (by simp [opds, hz])
    have h2 : ∀ z ∈ optO b, z.ev e = z.ev e' := fun z hz => h z (by simp [opds, hz])
    simp only [evOp, h0, cut_env h1 h2]
  case alloc => rfl
  case mkmap => rfl
  case panic => rfl
  case callp => rfl
  case calls => rfl
  case call => rfl
  all_goals
    simp only [opds, List.mem_cons, List.not_mem_nil, or_false, forall_eq_or_imp, forall_eq] at h
    simp only [evOp, h]

theorem mapFst {α β : Type} {x : Option α} {H H' : β} {v : α} (h : x.map (·, H) = some (v, H')) : H' = H ∧ x = some v := by
  cases x with
  | none => cases h
  | some y => cases h; exact ⟨rfl, rfl⟩

theorem evOp_0' {e : Env} {H : Heap} {op : IOp} (hc : classOf op = 0) : evOp e H op = (evOp e [] op).map fun p => (p.1, H) := by
  cases op
  case bsl mt es len zero ps =>
    cases mt with
    | true => cases hc
    | false => simp only [evOp]; cases fillA e (repl zero len) ps <;> rfl
  case sub es x a b c =>
    cases c with
    | none =>
      simp only [evOp]
      split
      · simp only [Bool.cond_eq_ite]; split <;> (try rfl); cases cut a b e _ _ <;> rfl
      · simp only [Bool.cond_eq_ite]; split <;> (try rfl); cases cut a b e _ _ <;> rfl
      · rfl
    | some c =>
      simp only [evOp]
      split
      · simp only [Bool.cond_eq_ite]; split <;> (try rfl); cases cut3 a b c e _ <;> rfl
      · simp only [Bool.cond_eq_ite]; split <;> (try rfl); cases cut3 a b c e _ <;> rfl
      · rfl
  all_goals first
    | (cases hc; done)
    | rfl
    | (simp only [evOp, Option.map_map]; rfl)
    | skip
  all_goals
    simp only [evOp, ok, Bool.cond_eq_ite]
    repeat' split
    all_goals first
      | rfl
      | (simp only [Option.map_map]; rfl)
      | (split <;> first | rfl | (simp only [Option.map_map]; rfl))
      | skip

/-- An operation that looks at no memory. -/
theorem evOp_0 {e : Env} {H H' : Heap} {op : IOp} {v : AV} (hc : classOf op = 0) (h : evOp e H op = some (v, H')) : H' = H ∧ ∀ H2, evOp e H2 op = some (v, H2) := by
  rw [evOp_0' hc] at h
  simp only [Option.map_eq_some_iff, Prod.mk.injEq] at h
  obtain ⟨p, h1, rfl, rfl⟩ := h
  exact ⟨rfl, fun H2 => by rw [evOp_0' hc, h1]; rfl⟩

theorem evOp_1 {e : Env} {H H' : Heap} {op : IOp} {v : AV} (hc : classOf op = 1) (h : evOp e H op = some (v, H')) : H' = H := by
  cases op
  case bsl mt es len zero ps => cases mt <;> cases hc
  all_goals first
    | (cases hc; done)
    | skip
  all_goals
    simp only [evOp, ok, Bool.cond_eq_ite] at h
    repeat' split at h
    all_goals first
      | (cases h; done)
      | (cases h; rfl)
      | exact (mapFst h).1
      | (simp only [Option.map_eq_some_iff, Prod.mk.injEq] at h; obtain ⟨_, _, _, rfl⟩ := h; rfl)
      | skip

/-! ### Environments that bear the same -/
def Same (e e' : Env) : Prop := ∀ i, Env.get e i = Env.get e' i

theorem Same.ev {e e' : Env} (h : Same e e') (x : Opd) : x.ev e = x.ev e' := by
  cases x with
  | t i => exact h i
  | c v => rfl

theorem ev_agree {e e' : Env} {l : List Opd} (h : ∀ t ∈ opdTs l, Env.get e t = Env.get e' t) : ∀ x ∈ l, x.ev e = x.ev e' := by
  induction l with
  | nil => intro x hx; cases hx
  | cons y r ih =>
    intro x hx
    rcases List.mem_cons.1 hx with rfl | hx
    · cases x with
      | t i => exact h i (by simp [opdTs])
      | c v => rfl
    · refine ih (fun t ht => h t ?_) x hx
      cases y with
      | t i => simp [opdTs, ht]
      | c v => exact ht

theorem get_putD (e : Env) (d : Option Nat) (v : AV) (j : Nat) : Env.get (putD e d v) j = if d = some j then v else Env.get e j := by
  cases d with
  | none => simp [putD]
  | some i =>
    simp only [putD, Env.get_set, Option.some.injEq]
    by_cases h : j = i
    · subst h; simp
    · rw [if_neg h, if_neg (Ne.symm h)]

/-- An operation that goes through puts one value, and looks at its own operands alone. -/
theorem evOper_shape {call : CallT} {io : IOper} {e e1 : Env} {S S1 : Stack} (h : evOper call io e S = some (.go e1 S1)) :
    ∃ v, e1 = putD e io.dst v ∧ (S ≠ [] → S1 ≠ []) ∧ (∀ e2, (∀ t ∈ looks io, Env.get e2 t = Env.get e t) → evOper call io e2 S = some (.go (putD e2 io.dst v) S1)) ∧
      (classOf io.op = 0 → S1 = S ∧ ∀ S2, S2 ≠ [] → evOper call io e S2 = some (.go (putD e io.dst v) S2)) ∧ (classOf io.op = 1 → S1 = S) := by
  have hg : ∀ e2, (∀ t ∈ looks io, Env.get e2 t = Env.get e t) → guardA e2 io.guard = guardA e io.guard := fun e2 h2 => by
    cases hgd : io.guard with
    | none => rfl
    | some p =>
      obtain ⟨j, want⟩ := p
      simp only [guardA, h2 j (by simp [looks, hgd, optD])]
  have ha : ∀ e2, (∀ t ∈ looks io, Env.get e2 t = Env.get e t) → ∀ x ∈ opds io.op, x.ev e2 = x.ev e := fun e2 h2 => ev_agree fun t ht => h2 t (by simp [looks, ht])
  unfold evOper at h
  split at h
  · cases h
  · rename_i hgd
    cases h
    exact ⟨.undef, rfl, id, fun e2 h2 => by unfold evOper; rw [hg e2 h2, hgd], fun _ => ⟨rfl, fun S2 _ => by unfold evOper; rw [hgd]⟩, fun _ => rfl⟩
  · rename_i hgd
    split at h
    · split at h <;> cases h
    · rename_i f as hop
      cases hf : hfrees (evs e as) with
      | false => rw [hf] at h; cases h
      | true =>
        rw [hf] at h
        simp only [cond_true] at h
        split at h
        · rename_i r hcl
          cases hr : hfree r with
          | false => rw [hr] at h; cases h
          | true =>
            rw [hr] at h
            simp only [cond_true, Option.some.injEq, OR.go.injEq] at h
            obtain ⟨rfl, rfl⟩ := h
            refine ⟨r, rfl, id, fun e2 h2 => ?_, fun _ => ⟨rfl, fun S2 _ => ?_⟩, fun hc => (by rw [hop] at hc)⟩
            · unfold evOper
              rw [hg e2 h2, hgd]
              have : evs e2 as = evs e as := evs_env fun x hx => ha e2 h2 x (by rw [hop]; exact hx)
              simp only [hop, this, hf, hcl, hr, cond_true]
            · unfold evOper
              simp only [hgd, hop, hf, hcl, hr, cond_true]
        · cases h
    · rename_i f as hop
      split at h
      · cases h
      · rename_i H S0
        split at h
        · rename_i vs hvs
          cases hf : hfrees vs with
          | false => rw [hf] at h; cases h
          | true =>
            rw [hf] at h
            simp only [cond_true] at h
            split at h
            · rename_i r hcl
              cases hr : scal r with
              | false => rw [hr] at h; cases h
              | true =>
                rw [hr] at h
                simp only [cond_true, Option.some.injEq, OR.go.injEq] at h
                obtain ⟨rfl, rfl⟩ := h
                refine ⟨r, rfl, id, fun e2 h2 => ?_, fun hc => (by rw [hop] at hc; cases hc), fun hc => (by rw [hop] at hc)⟩
                unfold evOper
                rw [hg e2 h2, hgd]
                have : evs e2 as = evs e as := evs_env fun x hx => ha e2 h2 x (by rw [hop]; exact hx)
                simp only [hop, this, hvs, hf, hcl, hr, cond_true]
            · cases h
        · cases h
    · rename_i f as hop
      have hcl' : afterCall e io.dst (call (f.ev e) (evs e as) S) = some (.go e1 S1) := h
      cases hcl : call (f.ev e) (evs e as) S with
      | none => rw [hcl] at hcl'; cases hcl'
      | some p =>
        obtain ⟨r, S'⟩ := p
        rw [hcl] at hcl'
        cases S' with
        | nil => cases r <;> cases hcl'
        | cons H' S' =>
          cases r with
          | pan v => cases hcl'
          | ret r =>
            simp only [afterCall, Option.some.injEq, OR.go.injEq] at hcl'
            obtain ⟨rfl, rfl⟩ := hcl'
            refine ⟨r, rfl, fun _ => by simp, fun e2 h2 => ?_, fun hc => (by rw [hop] at hc; cases hc), fun hc => (by rw [hop] at hc; cases hc)⟩
            unfold evOper
            rw [hg e2 h2, hgd]
            have h1 : evs e2 as = evs e as := evs_env fun x hx => ha e2 h2 x (by rw [hop]; exact List.mem_cons_of_mem _ hx)
            have h3 : f.ev e2 = f.ev e := ha e2 h2 f (by rw [hop]; exact List.mem_cons_self ..)
            simp only [hop, h1, h3, hcl, afterCall]
    · rename_i op _ _ _ _
      split at h
      · cases h
      · rename_i H S0
        split at h
        · rename_i v H' hv
          simp only [Option.some.injEq, OR.go.injEq] at h
          obtain ⟨rfl, rfl⟩ := h
          have hin : ∀ e2 H2 S2 H2', evOp e2 H2 io.op = some (v, H2') → guardA e2 io.guard = some true → evOper call io e2 (H2 :: S2) = some (.go (putD e2 io.dst v) (H2' :: S2)) := fun e2 H2 S2 H2' h1 h2 => by
            unfold evOper
            rw [h2]
            simp only [h1]
          refine ⟨v, rfl, fun _ => by simp, fun e2 h2 => ?_, fun hc => ?_, fun hc => ?_⟩
          · exact hin e2 H S0 H' ((evOp_env (ha e2 h2)).trans hv) ((hg e2 h2).trans hgd)
          · have := evOp_0 hc hv
            obtain ⟨rfl, h2⟩ := this
            refine ⟨rfl, fun S2 hS2 => ?_⟩
            cases S2 with
            | nil => exact absurd rfl hS2
            | cons H2 S2 => exact hin e H2 S2 H2 (h2 H2) hgd
          · rw [evOp_1 hc hv]
        · cases h
end Go.AS
