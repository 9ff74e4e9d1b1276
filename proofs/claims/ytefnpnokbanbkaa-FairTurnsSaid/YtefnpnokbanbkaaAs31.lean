/-
  A logic of the evaluator: what code comes to, whatever number of steps it takes. By an AI agent.
-/
import Derived.Test.YtefnpnokbanbkaaAs30
set_option linter.all false
namespace Go.AS
open Go

/-- The operations that call or panic. -/
def isApart : IOp → Bool
  | .panic _ | .callp .. | .calls .. | .call .. => true
  | _ => false

section
variable {funs : Nat → Option IFun}

/-- Code c comes to an end that Q takes. -/
def Ev (funs : Nat → Option IFun) (c : IC) (e : Env) (S : Stack) (Q : IX → Env → Stack → Prop) : Prop :=
  ∃ k x e' S', evC k (callV funs k) c e S = some (x, e', S') ∧ Q x e' S'

/-- So do operations. -/
def EvO (funs : Nat → Option IFun) (l : List IOper) (e : Env) (S : Stack) (Q : Env → Stack → Prop) (N : AV → Stack → Prop) : Prop :=
  ∃ k o, evOps (callV funs k) l e S = some o ∧ (match o with | .go e' S' => Q e' S' | .pan v _ S' => N v S')

/-- So does a call. -/
def Ends (funs : Nat → Option IFun) (f : AV) (args : List AV) (S : Stack) (R : CR → Stack → Prop) : Prop :=
  ∃ k r S', callV funs k f args S = some (r, S') ∧ R r S'

/-- A function of the program's that is a function of its arguments. -/
def Gives (funs : Nat → Option IFun) (g : Nat) (args : List AV) (v : AV) : Prop :=
  ∃ k, callV funs k (.func (.func g) [] []) args [] = some (.ret v, [])

theorem Ev.mono {c : IC} {e : Env} {S : Stack} {Q Q' : IX → Env → Stack → Prop} (h : Ev funs c e S Q) (hQ : ∀ x e' S', Q x e' S' → Q' x e' S') : Ev funs c e S Q' :=
  let ⟨k, x, e', S', h1, h2⟩ := h; ⟨k, x, e', S', h1, hQ _ _ _ h2⟩

theorem outExt_nil (r : IX × Env × Stack) : outExt [] r = r := by simp [outExt]
theorem evC_up {k k' : Nat} (hk : k ≤ k') {c : IC} {e : Env} {S : Stack} {r : IX × Env × Stack} (h : evC k (callV funs k) c e S = some r) : evC k' (callV funs k') c e S = some r := by
  have := evC_mono hk (callV_mono funs hk) [] c h
  rwa [List.append_nil, outExt_nil] at this
theorem evOps_up {k k' : Nat} (hk : k ≤ k') {l : List IOper} {e : Env} {S : Stack} {r : OR} (h : evOps (callV funs k) l e S = some r) : evOps (callV funs k') l e S = some r := by
  have := evOps_mono (callV_mono funs hk) [] h
  cases r <;> simpa [OR.ext] using this
theorem callV_up {k k' : Nat} (hk : k ≤ k') {f : AV} {args : List AV} {S S' : Stack} {r : CR} (h : callV funs k f args S = some (r, S')) : callV funs k' f args S = some (r, S') := by
  simpa using callV_mono funs hk _ _ _ _ _ h []
theorem Gives.at {g : Nat} {args : List AV} {v : AV} (h : Gives funs g args v) : ∃ k, ∀ S, callV funs k (.func (.func g) [] []) args S = some (.ret v, S) :=
  let ⟨k, hk⟩ := h; ⟨k, fun S => by simpa using callV_mono funs (Nat.le_refl k) _ _ _ _ _ hk S⟩

theorem Ev.nop {e : Env} {S : Stack} {Q : IX → Env → Stack → Prop} (h : Q .normal e S) : Ev funs .nop e S Q := ⟨0, _, _, _, rfl, h⟩
theorem Ev.exit {id : Nat} {e : Env} {S : Stack} {Q : IX → Env → Stack → Prop} (h : Q (.exit id) e S) : Ev funs (.exit id) e S Q := ⟨0, _, _, _, rfl, h⟩
theorem Ev.ret {e : Env} {S : Stack} {Q : IX → Env → Stack → Prop} (h : Q .ret e S) : Ev funs .ret e S Q := ⟨0, _, _, _, rfl, h⟩

/-- On, where code ends as it ought to. -/
def onward (K : Env → Stack → Prop) (Q : IX → Env → Stack → Prop) : IX → Env → Stack → Prop
  | .normal, e, S => K e S
  | x, e, S => Q x e S

theorem Ev.seq {a b : IC} {e : Env} {S : Stack} {Q : IX → Env → Stack → Prop} (h : Ev funs a e S (onward (fun e S => Ev funs b e S Q) Q)) : Ev funs (.seq a b) e S Q := by
  obtain ⟨k, x, e1, S1, h1, h2⟩ := h
  cases x with
  | normal =>
    obtain ⟨k2, x2, e2, S2, h3, h4⟩ := h2
    refine ⟨max k k2, x2, e2, S2, ?_, h4⟩
    simp only [evC, evC_up (Nat.le_max_left k k2) h1]
    exact evC_up (Nat.le_max_right k k2) h3
  | exit id => exact ⟨k, _, _, _, by simp only [evC, h1], h2⟩
  | ret => exact ⟨k, _, _, _, by simp only [evC, h1], h2⟩
  | panic v => exact ⟨k, _, _, _, by simp only [evC, h1], h2⟩

theorem Ev.cond {c : Opd} {a b : IC} {e : Env} {S : Stack} {Q : IX → Env → Stack → Prop} {t : Bool} (hc : c.ev e = .bool t) (h1 : t = true → Ev funs a e S Q) (h2 : t = false → Ev funs b e S Q) : Ev funs (.cond c a b) e S Q := by
  cases t with
  | true =>
    obtain ⟨k, x, e1, S1, h3, h4⟩ := h1 rfl
    exact ⟨k, x, e1, S1, by simp only [evC, hc, cond_true, h3], h4⟩
  | false =>
    obtain ⟨k, x, e1, S1, h3, h4⟩ := h2 rfl
    exact ⟨k, x, e1, S1, by simp only [evC, hc, cond_false, h3], h4⟩

/-- Out of a block. -/
def outOf (id : Nat) (Q : IX → Env → Stack → Prop) : IX → Env → Stack → Prop
  | .exit j, e, S => bif Nat.beq j id then Q .normal e S else Q (.exit j) e S
  | x, e, S => Q x e S

theorem Ev.block {id : Nat} {b : IC} {e : Env} {S : Stack} {Q : IX → Env → Stack → Prop} (h : Ev funs b e S (outOf id Q)) : Ev funs (.block id b) e S Q := by
  obtain ⟨k, x, e1, S1, h1, h2⟩ := h
  cases x with
  | exit j =>
    simp only [outOf] at h2
    cases hj : Nat.beq j id with
    | true => rw [hj] at h2; exact ⟨k, _, _, _, by simp only [evC, h1, hj, cond_true], h2⟩
    | false => rw [hj] at h2; exact ⟨k, _, _, _, by simp only [evC, h1, hj, cond_false], h2⟩
  | normal => exact ⟨k, _, _, _, by simp only [evC, h1], h2⟩
  | ret => exact ⟨k, _, _, _, by simp only [evC, h1], h2⟩
  | panic v => exact ⟨k, _, _, _, by simp only [evC, h1], h2⟩

theorem iter_up {f f' : Env → Stack → Out} (hf : ∀ e S r, f e S = some r → f' e S = some r) {n n' : Nat} {e : Env} {S : Stack} {r : IX × Env × Stack} (hn : n ≤ n') (h : iter f n e S = some r) : iter f' n' e S = some r := by
  have := iter_mono (f := f) (f' := f') [] (fun e S r hx => by rw [List.append_nil, outExt_nil]; exact hf e S r hx) hn h
  rwa [List.append_nil, outExt_nil] at this

/-- A loop: an invariant that bears a number, which every round lowers. -/
theorem Ev.loop {b : IC} {Q : IX → Env → Stack → Prop} (I : Nat → Env → Stack → Prop) (hround : ∀ n e S, I n e S → Ev funs b e S (onward (fun e S => ∃ m, m < n ∧ I m e S) Q)) (n : Nat) {e : Env} {S : Stack} (h : I n e S) : Ev funs (.loop b) e S Q := by
  have key : ∀ n e S, I n e S → ∃ j k x e' S', iter (evC k (callV funs k) b) j e S = some (x, e', S') ∧ Q x e' S' := by
    intro n
    induction n using Nat.strongRecOn with
    | _ n ih =>
      intro e S hI
      obtain ⟨k, x, e1, S1, h1, h2⟩ := hround n e S hI
      cases x with
      | normal =>
        obtain ⟨m, hm, hI1⟩ := h2
        obtain ⟨j, k2, x2, e2, S2, h3, h4⟩ := ih m hm e1 S1 hI1
        refine ⟨j + 1, max k k2, x2, e2, S2, ?_, h4⟩
        simp only [iter, evC_up (Nat.le_max_left k k2) h1]
        exact iter_up (fun e S r hx => evC_up (Nat.le_max_right k k2) hx) (Nat.le_refl j) h3
      | exit id => exact ⟨1, k, _, _, _, by simp only [iter, h1], h2⟩
      | ret => exact ⟨1, k, _, _, _, by simp only [iter, h1], h2⟩
      | panic v => exact ⟨1, k, _, _, _, by simp only [iter, h1], h2⟩
  obtain ⟨j, k, x, e', S', h1, h2⟩ := key n e S h
  refine ⟨max j k, x, e', S', ?_, h2⟩
  simp only [evC]
  exact iter_up (fun e S r hx => evC_up (Nat.le_max_right j k) hx) (Nat.le_max_left j k) h1

/-- Operations. -/
theorem Ev.ops {d : Bool} {l : List IOper} {dr : List Nat} {e : Env} {S : Stack} {Q : IX → Env → Stack → Prop} (h : EvO funs l e S (fun e' S' => Q .normal (Env.drop e' dr) S') (fun v S' => d = false ∧ ∀ e', Q (.panic v) e' S')) : Ev funs (.ops d l dr) e S Q := by
  obtain ⟨k, o, h1, h2⟩ := h
  cases o with
  | go e1 S1 => exact ⟨k, _, _, _, by simp only [evC, h1], h2⟩
  | pan v e1 S1 =>
    obtain ⟨rfl, h3⟩ := h2
    exact ⟨k, .panic v, e1, S1, by simp only [evC, h1, cond_false], h3 _⟩

theorem EvO.nil {e : Env} {S : Stack} {Q : Env → Stack → Prop} {N : AV → Stack → Prop} (h : Q e S) : EvO funs [] e S Q N := ⟨0, _, rfl, h⟩

/-- An operation that calls nothing. -/
theorem EvO.op {o : IOper} {l : List IOper} {e : Env} {H : Heap} {S : Stack} {Q : Env → Stack → Prop} {N : AV → Stack → Prop} {v : AV} {H' : Heap} (hg : o.guard = none) (ha : isApart o.op = false) (hv : evOp e H o.op = some (v, H')) (h : EvO funs l (putD e o.dst v) (H' :: S) Q N) : EvO funs (o :: l) e (H :: S) Q N := by
  obtain ⟨k, r, h1, h2⟩ := h
  refine ⟨k, r, ?_, h2⟩
  have : evOper (callV funs k) o e (H :: S) = some (.go (putD e o.dst v) (H' :: S)) := by
    unfold evOper
    rw [hg]
    simp only [guardA]
    split
    · rename_i x hx; rw [hx] at ha; cases ha
    · rename_i x y hx; rw [hx] at ha; cases ha
    · rename_i x y hx; rw [hx] at ha; cases ha
    · rename_i x y hx; rw [hx] at ha; cases ha
    · simp only [hv]
  simp only [evOps, this, h1]

/-- A guarded one. -/
theorem EvO.opg {o : IOper} {l : List IOper} {e : Env} {H : Heap} {S : Stack} {Q : Env → Stack → Prop} {N : AV → Stack → Prop} {t : Bool} (hg : guardA e o.guard = some t) (ha : t = true → EvO funs ({ o with guard := none } :: l) e (H :: S) Q N) (hb : t = false → EvO funs l (putD e o.dst .undef) (H :: S) Q N) : EvO funs (o :: l) e (H :: S) Q N := by
  cases t with
  | false =>
    obtain ⟨k, r, h1, h2⟩ := hb rfl
    exact ⟨k, r, by simp only [evOps, evOper, hg, h1], h2⟩
  | true =>
    obtain ⟨k, r, h1, h2⟩ := ha rfl
    refine ⟨k, r, ?_, h2⟩
    rw [← h1]
    simp only [evOps, evOper]
    rw [hg]
    rfl

/-- A call. -/
theorem EvO.call {o : IOper} {f : Opd} {args : List Opd} {l : List IOper} {e : Env} {S : Stack} {Q : Env → Stack → Prop} {N : AV → Stack → Prop} (hg : o.guard = none) (ho : o.op = .call f args)
    (h : Ends funs (f.ev e) (evs e args) S fun r S' => S' ≠ [] ∧ match r with | .ret v => EvO funs l (putD e o.dst v) S' Q N | .pan v => N v S') : EvO funs (o :: l) e S Q N := by
  obtain ⟨k, r, S', h1, hne, h2⟩ := h
  have hS' : ∃ H1 S1, S' = H1 :: S1 := by
    cases S' with
    | nil => exact absurd rfl hne
    | cons H1 S1 => exact ⟨H1, S1, rfl⟩
  obtain ⟨H1, S1, rfl⟩ := hS'
  cases r with
  | ret v =>
    obtain ⟨k2, o2, h3, h4⟩ := h2
    refine ⟨max k k2, o2, ?_, h4⟩
    have h1' := callV_up (Nat.le_max_left k k2) h1
    have : evOper (callV funs (max k k2)) o e S = some (.go (putD e o.dst v) (H1 :: S1)) := by
      simp only [evOper, hg, guardA, ho, h1', afterCall]
    simp only [evOps, this]
    exact evOps_up (Nat.le_max_right k k2) h3
  | pan v =>
    refine ⟨k, .pan v e (H1 :: S1), ?_, h2⟩
    simp only [evOps, evOper, hg, guardA, ho, h1, afterCall]

/-- A call of a function that is a function of its arguments. -/
theorem EvO.gives {o : IOper} {g : Nat} {args : List Opd} {l : List IOper} {e : Env} {H : Heap} {S : Stack} {Q : Env → Stack → Prop} {N : AV → Stack → Prop} {v : AV} (hg : o.guard = none) (ho : o.op = .call (.c (.func (.func g) [] [])) args)
    (hc : Gives funs g (evs e args) v) (h : EvO funs l (putD e o.dst v) (H :: S) Q N) : EvO funs (o :: l) e (H :: S) Q N :=
  EvO.call hg ho (let ⟨k, hk⟩ := hc.at; ⟨k, _, _, hk _, by simp, h⟩)

/-- The same, in a region whose order is open. -/
theorem EvO.givesp {o : IOper} {g : Nat} {args : List Opd} {l : List IOper} {e : Env} {S : Stack} {Q : Env → Stack → Prop} {N : AV → Stack → Prop} {v : AV} (hg : o.guard = none) (ho : o.op = .callp g args) (hf : hfrees (evs e args) = true) (hv : hfree v = true)
    (hc : Gives funs g (evs e args) v) (h : EvO funs l (putD e o.dst v) S Q N) : EvO funs (o :: l) e S Q N := by
  obtain ⟨k, hk⟩ := hc.at
  obtain ⟨k2, o2, h3, h4⟩ := h
  refine ⟨max k k2, o2, ?_, h4⟩
  have h1' := callV_up (Nat.le_max_left k k2) (hk [])
  have : evOper (callV funs (max k k2)) o e S = some (.go (putD e o.dst v) S) := by
    simp only [evOper, hg, guardA, ho, hf, cond_true, h1', hv]
  simp only [evOps, this]
  exact evOps_up (Nat.le_max_right k k2) h3

/-- A function that runs in a memory of its own. -/
theorem Gives.intro {g : Nat} {fn : IFun} {args args' : List AV} {v : AV} (hf : funs g = some fn) (hs : fn.shared = false) (hn : Nat.beq args'.length fn.nargs = true) (hu : mapO upf args = some args')
    (h : Ev funs fn.body (Env.ofArgs 0 args') [[]] fun x e' S' => (x = .normal ∨ x = .ret) ∧ ∃ H' r, S' = [H'] ∧ resultsA e' [H'] fn.results = some r ∧ leave H' r = some v) : Gives funs g args v := by
  obtain ⟨k, x, e', S', h1, h2, H', r, rfl, h3, h4⟩ := h
  refine ⟨k + 1, ?_⟩
  simp only [callV, hf, List.nil_append, List.append_nil, callFn, hs, cond_false, hu, runF, hn, Bool.not_true, h1]
  rcases h2 with rfl | rfl <;> simp [h3, h4]
end
end Go.AS
