/-
  More steps do no harm; nor does more memory below. By an AI agent.
-/
import Derived.Test.YtefnpnokbanbkaaAs1
set_option linter.all false
namespace Go.AS
open Go

def CallLe (c c' : CallT) : Prop := ∀ f args S r S', c f args S = some (r, S') → ∀ T, c' f args (S ++ T) = some (r, S' ++ T)

def OR.ext (T : Stack) : OR → OR
  | .go e S => .go e (S ++ T)
  | .pan v e S => .pan v e (S ++ T)

def outExt (T : Stack) (r : IX × Env × Stack) : IX × Env × Stack := (r.1, r.2.1, r.2.2 ++ T)

theorem afterCall_mono {c c' : CallT} (h : CallLe c c') {e : Env} {d : Option Nat} {f : AV} {args : List AV} {S : Stack} {r : OR} (T : Stack) (hc : afterCall e d (c f args S) = some r) : afterCall e d (c' f args (S ++ T)) = some (r.ext T) := by
  cases hx : c f args S with
  | none => rw [hx] at hc; cases hc
  | some p =>
    obtain ⟨q, S'⟩ := p
    rw [h _ _ _ _ _ hx T]
    rw [hx] at hc
    cases S' with
    | nil => cases q <;> cases hc
    | cons H1 S1 => cases q <;> (cases hc; rfl)

theorem evOper_mono {c c' : CallT} (h : CallLe c c') {o : IOper} {e : Env} {S : Stack} {r : OR} (T : Stack) (hr : evOper c o e S = some r) : evOper c' o e (S ++ T) = some (r.ext T) := by
  unfold evOper at hr ⊢
  split at hr
  · cases hr
  · cases hr; rfl
  · split at hr
    · split at hr
      · cases hr; rfl
      · cases hr
    · rename_i f as _
      cases hf : hfrees (evs e as) with
      | false => rw [hf] at hr; cases hr
      | true =>
        rw [hf] at hr
        simp only [cond_true] at hr ⊢
        split at hr
        · rename_i v hv
          have := h _ _ _ _ _ hv []
          simp only [List.append_nil] at this
          rw [this]
          cases hv2 : hfree v with
          | false => rw [hv2] at hr; cases hr
          | true => rw [hv2] at hr; cases hr; simp only [hv2, cond_true]; rfl
        · cases hr
    · split at hr
      · cases hr
      · simp only [List.cons_append]
        split at hr
        · rename_i as has
          cases hf : hfrees as with
          | false => rw [hf] at hr; cases hr
          | true =>
            rw [hf] at hr
            simp only [cond_true] at hr
            split at hr
            · rename_i v hv
              have := h _ _ _ _ _ hv []
              simp only [List.append_nil] at this
              cases hv2 : scal v with
              | false => rw [hv2] at hr; cases hr
              | true =>
                rw [hv2] at hr
                cases hr
                simp only [has, hf, cond_true, this, hv2]; rfl
            · cases hr
        · cases hr
    · exact afterCall_mono h T hr
    · split at hr
      · cases hr
      · simp only [List.cons_append]
        split at hr
        · cases hr; rfl
        · cases hr

theorem evOps_mono {c c' : CallT} (h : CallLe c c') (T : Stack) : ∀ {l : List IOper} {e : Env} {S : Stack} {r : OR}, evOps c l e S = some r → evOps c' l e (S ++ T) = some (r.ext T)
  | [], _, _, _, hr => by cases hr; rfl
  | o :: l, e, S, r, hr => by
    unfold evOps at hr ⊢
    split at hr
    · rename_i e1 S1 h1
      rw [evOper_mono h T h1]
      exact evOps_mono h T hr
    · rename_i hno
      rw [evOper_mono h T hr]
      cases r with
      | go e1 S1 => exact absurd hr (hno _ _)
      | pan => rfl

theorem iter_mono {f f' : Env → Stack → Out} (T : Stack) (hf : ∀ e S r, f e S = some r → f' e (S ++ T) = some (outExt T r)) : ∀ {n n' : Nat} {e : Env} {S : Stack} {r : IX × Env × Stack}, n ≤ n' → iter f n e S = some r → iter f' n' e (S ++ T) = some (outExt T r)
  | 0, _, _, _, _, _, h => by simp [iter] at h
  | n + 1, 0, _, _, _, hn, _ => by omega
  | n + 1, n' + 1, e, S, r, hn, h => by
    simp only [iter] at h ⊢
    split at h
    · rename_i e1 S1 h1
      rw [hf _ _ _ h1]
      exact iter_mono T hf (Nat.le_of_succ_le_succ hn) h
    · rename_i hno
      rw [hf _ _ _ h]
      obtain ⟨x, e1, S1⟩ := r
      cases x with
      | normal => exact absurd h (hno _ _)
      | _ => rfl

theorem evC_mono {k k' : Nat} {c c' : CallT} (hk : k ≤ k') (h : CallLe c c') (T : Stack) : ∀ (ir : IC) {e : Env} {S : Stack} {r : IX × Env × Stack}, evC k c ir e S = some r → evC k' c' ir e (S ++ T) = some (outExt T r) := by
  intro ir
  induction ir with
  | nop => intro e S r hr; cases hr; rfl
  | exit => intro e S r hr; cases hr; rfl
  | ret => intro e S r hr; cases hr; rfl
  | ops d l dr =>
    intro e S r hr
    simp only [evC] at hr ⊢
    cases h1 : evOps c l e S with
    | none => rw [h1] at hr; cases hr
    | some o =>
      rw [evOps_mono h T h1]
      rw [h1] at hr
      cases o with
      | go e1 S1 => cases hr; rfl
      | pan v e1 S1 =>
        cases d with
        | true => cases hr
        | false => cases hr; rfl
  | seq a b iha ihb =>
    intro e S r hr
    simp only [evC] at hr ⊢
    split at hr
    · rename_i e1 S1 h1
      rw [iha h1]
      exact ihb hr
    · rename_i hno
      rw [iha hr]
      obtain ⟨x, e1, S1⟩ := r
      cases x with
      | normal => exact absurd hr (hno _ _)
      | _ => rfl
  | cond co a b iha ihb =>
    intro e S r hr
    simp only [evC] at hr ⊢
    split at hr
    · rename_i t ht
      cases t with
      | true => exact iha hr
      | false => exact ihb hr
    · cases hr
  | block id b ih =>
    intro e S r hr
    simp only [evC] at hr ⊢
    split at hr
    · rename_i j e1 S1 h1
      rw [ih h1]
      simp only [outExt]
      cases hj : Nat.beq j id with
      | true => rw [hj] at hr; cases hr; rfl
      | false => rw [hj] at hr; cases hr; rfl
    · rename_i hno
      rw [ih hr]
      obtain ⟨x, e1, S1⟩ := r
      cases x with
      | exit => exact absurd hr (hno _ _ _)
      | _ => rfl
  | loop b ih =>
    intro e S r hr
    simp only [evC] at hr ⊢
    exact iter_mono T (fun e S r hx => ih hx) hk hr
  | rangeF g ps a b _ _ =>
    intro e S r hr
    simp only [evC] at hr ⊢
    split at hr
    · cases hr
    · rename_i H S'
      simp only [List.cons_append]
      cases hg : isFnF (g.ev e) with
      | false => rw [hg] at hr; cases hr
      | true =>
        rw [hg] at hr
        simp only [Bool.not_true, cond_false] at hr ⊢
        split at hr
        · rename_i v H2 S2 h1
          have := h _ _ _ _ _ h1 T
          simp only [List.cons_append] at this
          rw [this]
          simp only
          split at hr
          · rename_i L hL
            split at hr
            · cases hr
            · cases hr; rfl
          · cases hr
        · cases hr

theorem resultsA_ext {e : Env} {S : Stack} {rs : List IRes} {v : AV} (T : Stack) (h : resultsA e S rs = some v) : resultsA e (S ++ T) rs = some v := by
  cases S with
  | nil => cases h
  | cons H S => exact h

def crExt (T : Stack) (r : CR × Stack) : CR × Stack := (r.1, r.2 ++ T)

theorem runF_mono {k k' : Nat} {c c' : CallT} (hk : k ≤ k') (h : CallLe c c') (T : Stack) {fn : IFun} {args : List AV} {S : Stack} {r : CR × Stack} (hr : runF k c fn args S = some r) : runF k' c' fn args (S ++ T) = some (crExt T r) := by
  unfold runF at hr ⊢
  cases hb : (!(Nat.beq args.length fn.nargs)) with
  | true => rw [hb] at hr; cases hr
  | false =>
    rw [hb] at hr
    simp only [cond_false] at hr ⊢
    cases h1 : evC k c fn.body (Env.ofArgs 0 args) S with
    | none => rw [h1] at hr; cases hr
    | some o =>
      rw [evC_mono hk h T fn.body h1]
      rw [h1] at hr
      obtain ⟨x, e1, S1⟩ := o
      cases x with
      | exit => cases hr
      | panic v => cases hr; rfl
      | normal =>
        simp only [Option.map_eq_some_iff] at hr
        obtain ⟨v, h2, rfl⟩ := hr
        simp only [outExt, resultsA_ext T h2, Option.map_some, crExt]
      | ret =>
        simp only [Option.map_eq_some_iff] at hr
        obtain ⟨v, h2, rfl⟩ := hr
        simp only [outExt, resultsA_ext T h2, Option.map_some, crExt]

theorem callFn_mono {k k' : Nat} {c c' : CallT} (hk : k ≤ k') (h : CallLe c c') (T : Stack) {fn : IFun} {args : List AV} {S : Stack} {r : CR × Stack} (hr : callFn k c fn args S = some r) : callFn k' c' fn args (S ++ T) = some (crExt T r) := by
  unfold callFn at hr ⊢
  split at hr
  · split at hr
    · cases hr
    · simp only [List.cons_append]
      exact runF_mono hk h T hr
  · rename_i args' hargs
    cases h1 : runF k c fn args' ([] :: S) with
    | none => rw [h1] at hr; cases hr
    | some o =>
      have := runF_mono hk h T h1
      simp only [List.cons_append] at this
      rw [this]
      rw [h1] at hr
      obtain ⟨q, S1⟩ := o
      cases S1 with
      | nil => cases q <;> cases hr
      | cons H1 S1 =>
        cases q with
        | ret v =>
          simp only [Option.map_eq_some_iff] at hr
          obtain ⟨v2, h2, rfl⟩ := hr
          simp only [crExt, List.cons_append, h2, Option.map_some]
        | pan v =>
          simp only [Option.map_eq_some_iff] at hr
          obtain ⟨v2, h2, rfl⟩ := hr
          simp only [crExt, List.cons_append, h2, Option.map_some]

theorem endRound_ext {l : Nat} {o : IX × Env × Stack} {r : CR × Stack} (T : Stack) (h : endRound l (some o) = some r) : endRound l (some (outExt T o)) = some (crExt T r) := by
  obtain ⟨x, e, S⟩ := o
  cases S with
  | nil => cases h
  | cons H2 S2 =>
    simp only [outExt, List.cons_append, endRound] at h ⊢
    split at h
    · rename_i L2 hL
      cases x with
      | panic v => cases h
      | normal => cases h; rfl
      | exit id => cases h; rfl
      | ret => cases h; rfl
    · cases h

theorem round_mono {k k' : Nat} {c c' : CallT} (hk : k ≤ k') (h : CallLe c c') (T : Stack) {l : Nat} {args : List AV} {S : Stack} {r : CR × Stack} (hr : round k c l args S = some r) : round k' c' l args (S ++ T) = some (crExt T r) := by
  unfold round at hr ⊢
  split at hr
  · cases hr
  · rename_i H S0
    simp only [List.cons_append]
    split at hr
    · rename_i L hL
      cases hb : (!(Nat.beq args.length L.params.length)) with
      | true => rw [hb] at hr; cases hr
      | false =>
        rw [hb] at hr
        simp only [cond_false] at hr ⊢
        split at hr
        · rename_i e1 H1 S1 h1
          have := evC_mono hk h T _ h1
          simp only [List.cons_append, outExt] at this
          rw [this]
          simp only
          split at hr
          · rename_i L1 hL1
            split at hr
            · rename_i hst
              cases h2 : evC k c L.body e1 (H1.set l (.loop { L1 with state := .busy }) :: S1) with
              | none => rw [h2] at hr; simp [endRound] at hr
              | some o =>
                have := evC_mono hk h T _ h2
                simp only [List.cons_append] at this
                rw [this]
                rw [h2] at hr
                exact endRound_ext T hr
            · cases hr
          · cases hr
        · cases hr
    · cases hr

theorem callV_mono (funs : Nat → Option IFun) : ∀ {k k' : Nat}, k ≤ k' → CallLe (callV funs k) (callV funs k')
  | 0, _, _ => fun f args S r S' h => by simp [callV] at h
  | k + 1, 0, hk => by omega
  | k + 1, k' + 1, hk => by
    have ih := callV_mono funs (Nat.le_of_succ_le_succ hk)
    intro v args S r S' h T
    unfold callV at h ⊢
    split at h
    · split at h
      · rename_i fn hfn
        exact callFn_mono (Nat.le_of_succ_le_succ hk) ih T h
      · cases h
    · exact round_mono (Nat.le_of_succ_le_succ hk) ih T h
    · split at h
      · cases h
      · simp only [List.cons_append]
        split at h
        · cases h
        · rename_i args' hargs
          split at h
          · rename_i v S2 h1
            rw [ih _ _ _ _ _ h1 T]
            simp only [Option.map_eq_some_iff, Prod.mk.injEq] at h
            obtain ⟨v2, h2, rfl, rfl⟩ := h
            simp only [h2, Option.map_some, List.cons_append]
          · rename_i v S2 h1
            rw [ih _ _ _ _ _ h1 T]
            simp only [Option.map_eq_some_iff, Prod.mk.injEq] at h
            obtain ⟨v2, h2, rfl, rfl⟩ := h
            simp only [h2, Option.map_some, List.cons_append]
          · cases h
    · cases h
end Go.AS
