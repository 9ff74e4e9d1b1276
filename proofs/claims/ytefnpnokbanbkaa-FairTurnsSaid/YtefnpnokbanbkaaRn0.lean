/-
  The walk as rewriting: control is a list of frames, each step an equation for 'simp'. By an AI agent.
-/
import Derived.Test.YtefnpnokbanbkaaAs31
import Derived.IntWalk
set_option linter.all false
namespace Go.AS
open Go

inductive Fr where
  | c (c : IC)
  | b (id : Nat)

section
variable {funs : Nat → Option IFun}

/-- Control x, what is still to be run, and what is wanted at the end. -/
def Run (funs : Nat → Option IFun) (Q : IX → Env → Stack → Prop) : List Fr → IX → Env → Stack → Prop
  | [], x, e, S => Q x e S
  | .c c :: cs, .normal, e, S => Ev funs c e S (Run funs Q cs)
  | .c _ :: cs, x, e, S => Run funs Q cs x e S
  | .b id :: cs, .exit j, e, S => bif Nat.beq j id then Run funs Q cs .normal e S else Run funs Q cs (.exit j) e S
  | .b _ :: cs, x, e, S => Run funs Q cs x e S

variable {Q : IX → Env → Stack → Prop}

theorem Ev.run {c : IC} {e : Env} {S : Stack} (h : Run funs Q [.c c] .normal e S) : Ev funs c e S Q :=
  Ev.mono h fun _ _ _ hx => hx

theorem Run.unrun {c : IC} {e : Env} {S : Stack} (h : Run funs Q [.c c] .normal e S) : Ev funs c e S Q := Ev.run h

/-- Within operations. -/
def RunO (funs : Nat → Option IFun) (Q : IX → Env → Stack → Prop) (cs : List Fr) (d : Bool) (dr : List Nat) (l : List IOper) (e : Env) (S : Stack) : Prop :=
  Ev funs (.ops d l dr) e S (Run funs Q cs)
/-- An operation's answer. -/
def RunV (funs : Nat → Option IFun) (Q : IX → Env → Stack → Prop) (cs : List Fr) (d : Bool) (dr : List Nat) (l : List IOper) (e : Env) (S : Stack) (t : Option Nat) : Option (AV × Heap) → Prop
  | some (v, H) => RunO funs Q cs d dr l (putD e t v) (H :: S)
  | none => False
/-- A call. -/
def RunC (funs : Nat → Option IFun) (Q : IX → Env → Stack → Prop) (cs : List Fr) (d : Bool) (dr : List Nat) (l : List IOper) (e : Env) (S : Stack) (t : Option Nat) (f : AV) (vs : List AV) : Prop :=
  RunO funs Q cs d dr (⟨t, .call (.c f) (vs.map .c), none⟩ :: l) e S
/-- A call in a region whose order is open. -/
def RunP (funs : Nat → Option IFun) (Q : IX → Env → Stack → Prop) (cs : List Fr) (d : Bool) (dr : List Nat) (l : List IOper) (e : Env) (S : Stack) (t : Option Nat) (g : Nat) (vs : List AV) : Prop :=
  RunO funs Q cs d dr (⟨t, .callp g (vs.map .c), none⟩ :: l) e S
/-- A call that is shown what there is. -/
def RunS (funs : Nat → Option IFun) (Q : IX → Env → Stack → Prop) (cs : List Fr) (d : Bool) (dr : List Nat) (l : List IOper) (e : Env) (S : Stack) (t : Option Nat) (g : Nat) : Option (List AV) → Prop
  | some vs => ∃ v, Gives funs g vs v ∧ hfrees vs = true ∧ scal v = true ∧ RunO funs Q cs d dr l (putD e t v) S
  | none => False
/-- A guard. -/
def RunG (funs : Nat → Option IFun) (Q : IX → Env → Stack → Prop) (cs : List Fr) (d : Bool) (dr : List Nat) (l : List IOper) (e : Env) (S : Stack) (t : Option Nat) (op : IOp) (want : Bool) : AV → Prop
  | .bool b => bif b == want then RunO funs Q cs d dr (⟨t, op, none⟩ :: l) e S else RunO funs Q cs d dr l (putD e t .undef) S
  | _ => False
/-- A branch. -/
def RunB (funs : Nat → Option IFun) (Q : IX → Env → Stack → Prop) (cs : List Fr) (a b : IC) (e : Env) (S : Stack) : AV → Prop
  | .bool t => bif t then Run funs Q (.c a :: cs) .normal e S else Run funs Q (.c b :: cs) .normal e S
  | _ => False

theorem Ev_seq {a b : IC} {e : Env} {S : Stack} {P : IX → Env → Stack → Prop} : Ev funs (.seq a b) e S P ↔ Ev funs a e S (onward (fun e S => Ev funs b e S P) P) := by
  refine ⟨?_, Ev.seq⟩
  rintro ⟨k, x, e', S', h1, h2⟩
  rw [evC] at h1
  split at h1
  · rename_i e1 S1 h3
    exact ⟨k, _, _, _, h3, k, _, _, _, h1, h2⟩
  · rename_i h3
    refine ⟨k, x, e', S', h1, ?_⟩
    cases x <;> first | exact h2 | exact (h3 _ _ h1).elim

theorem onward_run {cs : List Fr} {b : IC} : onward (fun e S => Ev funs b e S (Run funs Q cs)) (Run funs Q cs) = Run funs Q (.c b :: cs) := by
  funext x e S
  cases x <;> rfl
theorem out_run {cs : List Fr} {id : Nat} : outOf id (Run funs Q cs) = Run funs Q (.b id :: cs) := by
  funext x e S
  cases x <;> rfl

theorem Run_nil {x : IX} {e : Env} {S : Stack} : Run funs Q [] x e S = Q x e S := by unfold Run; rfl
theorem Run_seq {a b : IC} {cs : List Fr} {e : Env} {S : Stack} : Run funs Q (.c (.seq a b) :: cs) .normal e S = Run funs Q (.c a :: .c b :: cs) .normal e S := by
  show Ev funs (.seq a b) e S (Run funs Q cs) = Ev funs a e S (Run funs Q (.c b :: cs))
  rw [← onward_run]; exact propext Ev_seq
theorem Run_nop {cs : List Fr} {e : Env} {S : Stack} : Run funs Q (.c .nop :: cs) .normal e S = Run funs Q cs .normal e S :=
  propext ⟨fun ⟨_, _, _, _, h1, h2⟩ => by cases h1; exact h2, Ev.nop⟩
theorem Run_exit {id : Nat} {cs : List Fr} {e : Env} {S : Stack} : Run funs Q (.c (.exit id) :: cs) .normal e S = Run funs Q cs (.exit id) e S :=
  propext ⟨fun ⟨_, _, _, _, h1, h2⟩ => by cases h1; exact h2, Ev.exit⟩
theorem Run_ret {cs : List Fr} {e : Env} {S : Stack} : Run funs Q (.c .ret :: cs) .normal e S = Run funs Q cs .ret e S :=
  propext ⟨fun ⟨_, _, _, _, h1, h2⟩ => by cases h1; exact h2, Ev.ret⟩
theorem Run_skip_exit {c : IC} {id : Nat} {cs : List Fr} {e : Env} {S : Stack} : Run funs Q (.c c :: cs) (.exit id) e S = Run funs Q cs (.exit id) e S := rfl
theorem Run_skip_ret {c : IC} {cs : List Fr} {e : Env} {S : Stack} : Run funs Q (.c c :: cs) .ret e S = Run funs Q cs .ret e S := rfl
theorem Run_skip_panic {c : IC} {cs : List Fr} {v : AV} {e : Env} {S : Stack} : Run funs Q (.c c :: cs) (.panic v) e S = Run funs Q cs (.panic v) e S := rfl
theorem Run_out_normal {id : Nat} {cs : List Fr} {e : Env} {S : Stack} : Run funs Q (.b id :: cs) .normal e S = Run funs Q cs .normal e S := rfl
theorem Run_out_exit {id j : Nat} {cs : List Fr} {e : Env} {S : Stack} : Run funs Q (.b id :: cs) (.exit j) e S = bif Nat.beq j id then Run funs Q cs .normal e S else Run funs Q cs (.exit j) e S := rfl
theorem Run_out_ret {id : Nat} {cs : List Fr} {e : Env} {S : Stack} : Run funs Q (.b id :: cs) .ret e S = Run funs Q cs .ret e S := rfl
theorem Run_out_panic {id : Nat} {cs : List Fr} {v : AV} {e : Env} {S : Stack} : Run funs Q (.b id :: cs) (.panic v) e S = Run funs Q cs (.panic v) e S := rfl
theorem Run_block {id : Nat} {b : IC} {cs : List Fr} {e : Env} {S : Stack} : Run funs Q (.c (.block id b) :: cs) .normal e S = Run funs Q (.c b :: .b id :: cs) .normal e S := by
  show Ev funs (.block id b) e S (Run funs Q cs) = Ev funs b e S (Run funs Q (.b id :: cs))
  rw [← out_run]
  refine propext ⟨?_, Ev.block⟩
  rintro ⟨k, x, e', S', h1, h2⟩
  rw [evC] at h1
  split at h1
  · rename_i j e1 S1 h3
    refine ⟨k, _, _, _, h3, ?_⟩
    cases hj : Nat.beq j id <;> rw [hj] at h1 <;> cases h1 <;> simp only [outOf, hj, cond_true, cond_false] <;> exact h2
  · rename_i h3
    refine ⟨k, x, e', S', h1, ?_⟩
    cases x <;> first | exact h2 | exact (h3 _ _ _ h1).elim
theorem Run_cond {c : Opd} {a b : IC} {cs : List Fr} {e : Env} {S : Stack} : Run funs Q (.c (.cond c a b) :: cs) .normal e S = RunB funs Q cs a b e S (c.ev e) := by
  refine propext ⟨?_, ?_⟩
  · rintro ⟨k, x, e', S', h1, h2⟩
    rw [evC] at h1
    split at h1
    · rename_i t h3
      rw [h3]
      cases t
      · exact ⟨k, x, e', S', h1, h2⟩
      · exact ⟨k, x, e', S', h1, h2⟩
    · cases h1
  · intro h
    cases hc : c.ev e with
    | bool t =>
      rw [hc] at h
      exact Ev.cond hc (fun ht => by subst ht; exact h) (fun ht => by subst ht; exact h)
    | _ => rw [hc] at h; exact h.elim
theorem Run_ops {d : Bool} {l : List IOper} {dr : List Nat} {cs : List Fr} {e : Env} {S : Stack} : Run funs Q (.c (.ops d l dr) :: cs) .normal e S = RunO funs Q cs d dr l e S := rfl

theorem RunB_t {cs : List Fr} {a b : IC} {e : Env} {S : Stack} : RunB funs Q cs a b e S (.bool true) = Run funs Q (.c a :: cs) .normal e S := rfl
theorem RunB_f {cs : List Fr} {a b : IC} {e : Env} {S : Stack} : RunB funs Q cs a b e S (.bool false) = Run funs Q (.c b :: cs) .normal e S := rfl
/-- A branch at a question. -/
theorem RunB_i {cs : List Fr} {a b : IC} {e : Env} {S : Stack} {p : Prop} [Decidable p] (h1 : p → Run funs Q (.c a :: cs) .normal e S) (h2 : ¬ p → Run funs Q (.c b :: cs) .normal e S) : RunB funs Q cs a b e S (.bool (decide p)) := by
  by_cases h : p
  · simpa only [RunB, h, decide_true, cond_true] using h1 h
  · simpa only [RunB, h, decide_false, cond_false] using h2 h
theorem RunB_ib {cs : List Fr} {a b : IC} {e : Env} {S : Stack} {p : Bool} (h1 : p = true → Run funs Q (.c a :: cs) .normal e S) (h2 : p = false → Run funs Q (.c b :: cs) .normal e S) : RunB funs Q cs a b e S (.bool p) := by
  cases p
  · exact h2 rfl
  · exact h1 rfl

/-! ### Operations -/
section
variable {cs : List Fr} {d : Bool} {dr : List Nat} {l : List IOper} {e : Env} {S : Stack} {t : Option Nat}

theorem evOps_nil (k : Nat) : evOps (callV funs k) [] e S = some (.go e S) := rfl
theorem RunO_nil : RunO funs Q cs d dr [] e S = Run funs Q cs .normal (Env.drop e dr) S := by
  refine propext ⟨?_, fun h => ⟨0, _, _, _, rfl, h⟩⟩
  rintro ⟨k, x, e', S', h1, h2⟩
  simp only [evC, evOps] at h1
  cases h1; exact h2

theorem RunO_step {o : IOper} {e1 : Env} {S1 : Stack} (h : ∀ k, evOper (callV funs k) o e S = some (.go e1 S1)) : RunO funs Q cs d dr (o :: l) e S = RunO funs Q cs d dr l e1 S1 := by
  have : ∀ k, evC k (callV funs k) (.ops d (o :: l) dr) e S = evC k (callV funs k) (.ops d l dr) e1 S1 := fun k => by
    simp only [evC, evOps, h k]
  unfold RunO Ev
  simp only [this]

theorem RunV_some {v : AV} {H : Heap} : RunV funs Q cs d dr l e S t (some (v, H)) = RunO funs Q cs d dr l (putD e t v) (H :: S) := rfl

/-- An operation's operands, as they stand. -/
def cst (e : Env) : IOp → IOp
  | .mv x => .mv (.c (x.ev e))
  | .pick c a b => .pick (.c (c.ev e)) (.c (a.ev e)) (.c (b.ev e))
  | .box n x => .box n (.c (x.ev e))
  | .load n x => .load n (.c (x.ev e))
  | .store n a x => .store n (.c (a.ev e)) (.c (x.ev e))
  | .nilck x => .nilck (.c (x.ev e))
  | .bin op x y => .bin op (.c (x.ev e)) (.c (y.ev e))
  | .eqb ng x y => .eqb ng (.c (x.ev e)) (.c (y.ev e))
  | .eqn k ng x y => .eqn k ng (.c (x.ev e)) (.c (y.ev e))
  | .eqa ng o x y => .eqa ng o (.c (x.ev e)) (.c (y.ev e))
  | .neg x => .neg (.c (x.ev e))
  | .inv x => .inv (.c (x.ev e))
  | .not x => .not (.c (x.ev e))
  | .conv k x => .conv k (.c (x.ev e))
  | .bytes x => .bytes (.c (x.ev e))
  | .text x => .text (.c (x.ev e))
  | .mvs x => .mvs (.c (x.ev e))
  | .mkif t x => .mkif t (.c (x.ev e))
  | .mksl es b z n c => .mksl es b z (.c (n.ev e)) (.c (c.ev e))
  | .sub es x lo hi mx => .sub es (.c (x.ev e)) (lo.map fun o => .c (o.ev e)) (hi.map fun o => .c (o.ev e)) (mx.map fun o => .c (o.ev e))
  | .subs x lo hi => .subs (.c (x.ev e)) (lo.map fun o => .c (o.ev e)) (hi.map fun o => .c (o.ev e))
  | .suba n es x lo hi mx => .suba n es (.c (x.ev e)) (lo.map fun o => .c (o.ev e)) (hi.map fun o => .c (o.ev e)) (mx.map fun o => .c (o.ev e))
  | .faddr o x => .faddr o (.c (x.ev e))
  | .fld o n x => .fld o n (.c (x.ev e))
  | .ixa es x i => .ixa es (.c (x.ev e)) (.c (i.ev e))
  | .ixaa n es x i => .ixaa n es (.c (x.ev e)) (.c (i.ev e))
  | .ixs x i => .ixs (.c (x.ev e)) (.c (i.ev e))
  | .ixv n es g x i => .ixv n es g (.c (x.ev e)) (.c (i.ev e))
  | .look kk z ok m k => .look kk z ok (.c (m.ev e)) (.c (k.ev e))
  | .mapup kk m k v => .mapup kk (.c (m.ev e)) (.c (k.ev e)) (.c (v.ev e))
  | .extr x i => .extr (.c (x.ev e)) i
  | .len x => .len (.c (x.ev e))
  | .lens x => .lens (.c (x.ev e))
  | .lenm x => .lenm (.c (x.ev e))
  | .cap x => .cap (.c (x.ev e))
  | .append es b s x => .append es b (.c (s.ev e)) (.c (x.ev e))
  | .copy es a s => .copy es (.c (a.ev e)) (.c (s.ev e))
  | .clearm m => .clearm (.c (m.ev e))
  | .clears es z s => .clears es z (.c (s.ev e))
  | .del kk m k => .del kk (.c (m.ev e)) (.c (k.ev e))
  | .minmax mx xs => .minmax mx ((evs e xs).map .c)
  | .build z ps => .build z (ps.map fun p => (p.1, p.2.1, .c (p.2.2.ev e)))
  | .bsl mt es n z ps => .bsl mt es n z (ps.map fun p => (p.1, p.2.1, .c (p.2.2.ev e)))
  | .mkfn fn fi ca => .mkfn fn ((evs e fi).map .c) ((evs e ca).map .c)
  | .ment kk z m k => .ment kk z (.c (m.ev e)) (.c (k.ev e))
  | .mentst m s v => .mentst (.c (m.ev e)) (.c (s.ev e)) (.c (v.ev e))
  | .alloc z => .alloc z
  | .mkmap => .mkmap
  | .panic x => .panic (.c (x.ev e))
  | .callp f as => .callp f ((evs e as).map .c)
  | .calls f as => .calls f ((evs e as).map .c)
  | .call f as => .call (.c (f.ev e)) ((evs e as).map .c)

theorem evs_c (e' : Env) (vs : List AV) : evs e' (vs.map .c) = vs := by
  induction vs with
  | nil => rfl
  | cons a r ih => simp only [List.map_cons, evs, Opd.ev, ih]
theorem fillA_c (e e' : Env) : ∀ (ps : List (Nat × Nat × Opd)) (cs : List AV), fillA e' cs (ps.map fun p => (p.1, p.2.1, Opd.c (p.2.2.ev e))) = fillA e cs ps
  | [], _ => rfl
  | (o, n, x) :: r, cs => by
    have h : ∀ cs, fillA e' cs (r.map fun p => (p.1, p.2.1, Opd.c (p.2.2.ev e))) = fillA e cs r := fillA_c e e' r
    show (match cellsOf (x.ev e) with
      | some vs => bif Nat.beq vs.length n && Nat.ble (o + n) cs.length then fillA e' (splice cs o vs) (r.map fun (p : Nat × Nat × Opd) => (p.1, p.2.1, Opd.c (p.2.2.ev e))) else none
      | none => none) = _
    simp only [h]; rfl
/-- An operation whose operands are known. -/
def opV (H : Heap) (op : IOp) : Option (AV × Heap) := evOp [] H op
theorem evc (e : Env) (v : AV) : Opd.ev e (.c v) = v := rfl
theorem cut_c (e e' : Env) (lo hi : Option Opd) (n m : Nat) : cut (lo.map fun o => Opd.c (o.ev e)) (hi.map fun o => Opd.c (o.ev e)) e' n m = cut lo hi e n m := by
  cases lo <;> cases hi <;> rfl
theorem cut3_c (e e' : Env) (lo hi : Option Opd) (x : Opd) (m : Nat) : cut3 (lo.map fun o => Opd.c (o.ev e)) (hi.map fun o => Opd.c (o.ev e)) (.c (x.ev e)) e' m = cut3 lo hi x e m := by
  have h : bnd (.c (x.ev e)) e' m = bnd x e m := rfl
  cases hi with
  | none => simp only [cut3, Option.map_none, h]; cases bnd x e m <;> rfl
  | some b =>
    simp only [cut3, Option.map_some, h]
    cases bnd x e m with
    | none => rfl
    | some k =>
      have h2 : bnd (.c (b.ev e)) e' k = bnd b e k := rfl
      simp only [h2]
      cases lo <;> rfl
theorem opV_cst (e : Env) (H : Heap) (op : IOp) : opV H (cst e op) = evOp e H op := by
  cases op with
  | sub es x lo hi mx => cases mx <;> simp only [cst, opV, evOp, evc, Option.map_some, Option.map_none, cut_c, cut3_c]
  | subs x lo hi => simp only [cst, opV, evOp, evc, cut_c]
  | suba n es x lo hi mx => cases mx <;> simp only [cst, opV, evOp, evc, Option.map_some, Option.map_none, cut_c]
  | minmax mx xs => simp only [cst, opV, evOp, evs_c]
  | build z ps => simp only [cst, opV, evOp, fillA_c]
  | bsl mt es n z ps => simp only [cst, opV, evOp, fillA_c]
  | mkfn fn fi ca => simp only [cst, opV, evOp, evs_c]
  | _ => rfl
theorem isApart_cst (e : Env) (op : IOp) : isApart (cst e op) = isApart op := by cases op <;> rfl

theorem RunO_op {op : IOp} {H : Heap} (ha : isApart op = false) : RunO funs Q cs d dr (⟨t, op, none⟩ :: l) e (H :: S) = RunV funs Q cs d dr l e S t (opV H (cst e op)) := by
  rw [opV_cst]
  cases hv : evOp e H op with
  | some p =>
    obtain ⟨v, H'⟩ := p
    refine RunO_step fun k => ?_
    unfold evOper
    simp only [guardA]
    split
    · cases ha
    · cases ha
    · cases ha
    · cases ha
    · simp only [hv]
  | none =>
    refine propext ⟨?_, fun h => h.elim⟩
    rintro ⟨k, x, e', S', h1, h2⟩
    have : evOper (callV funs k) ⟨t, op, none⟩ e (H :: S) = none := by
      unfold evOper
      simp only [guardA]
      split
      · cases ha
      · cases ha
      · cases ha
      · cases ha
      · simp only [hv]
    simp only [evC, evOps, this] at h1
    cases h1

theorem RunO_guard {op : IOp} {j : Nat} {want : Bool} : RunO funs Q cs d dr (⟨t, op, some (j, want)⟩ :: l) e S = RunG funs Q cs d dr l e S t op want (Env.get e j) := by
  cases hj : Env.get e j with
  | bool b =>
    simp only [RunG]
    cases hb : b == want with
    | true =>
      rw [cond_true]
      have : ∀ k, evOper (callV funs k) ⟨t, op, some (j, want)⟩ e S = evOper (callV funs k) ⟨t, op, none⟩ e S := fun k => by
        simp only [evOper, guardA, hj, hb]
      unfold RunO Ev
      simp only [evC, evOps, this]
    | false =>
      rw [cond_false]
      refine RunO_step fun k => ?_
      simp only [evOper, guardA, hj, hb]
  | _ =>
    refine propext ⟨?_, fun h => h.elim⟩
    rintro ⟨k, x, e', S', h1, h2⟩
    simp only [evC, evOps, evOper, guardA, hj] at h1
    cases h1

theorem RunO_call {f : Opd} {args : List Opd} : RunO funs Q cs d dr (⟨t, .call f args, none⟩ :: l) e S = RunC funs Q cs d dr l e S t (f.ev e) (evs e args) := by
  have : ∀ k, evOper (callV funs k) ⟨t, .call f args, none⟩ e S = evOper (callV funs k) ⟨t, .call (.c (f.ev e)) ((evs e args).map .c), none⟩ e S := fun k => by
    simp only [evOper, guardA, evs_c, Opd.ev]
  unfold RunC RunO Ev
  simp only [evC, evOps, this]
theorem RunO_callp {g : Nat} {args : List Opd} : RunO funs Q cs d dr (⟨t, .callp g args, none⟩ :: l) e S = RunP funs Q cs d dr l e S t g (evs e args) := by
  have : ∀ k, evOper (callV funs k) ⟨t, .callp g args, none⟩ e S = evOper (callV funs k) ⟨t, .callp g ((evs e args).map .c), none⟩ e S := fun k => by
    simp only [evOper, guardA, evs_c]
  unfold RunP RunO Ev
  simp only [evC, evOps, this]

/-- On, behind a call that is known. -/
theorem RunC_i {g : Nat} {vs : List AV} {H : Heap} {v : AV} (hc : Gives funs g vs v) (h : RunO funs Q cs d dr l (putD e t v) (H :: S)) : RunC funs Q cs d dr l e (H :: S) t (.func (.func g) [] []) vs := by
  obtain ⟨k, x, e', S', h1, h2⟩ := h
  obtain ⟨k0, hk⟩ := hc.at
  refine ⟨max k k0, x, e', S', ?_, h2⟩
  have h3 := callV_up (Nat.le_max_right k k0) (hk (H :: S))
  have h4 : evOper (callV funs (max k k0)) ⟨t, .call (.c (.func (.func g) [] [])) (vs.map .c), none⟩ e (H :: S) = some (.go (putD e t v) (H :: S)) := by
    simp only [evOper, guardA, evs_c, Opd.ev, h3, afterCall]
  have h5 := evC_up (Nat.le_max_left k k0) h1
  simp only [evC] at h5
  simp only [evC, evOps, h4]
  exact h5

/-- A call's rule, as an equation. -/
abbrev CallIs (funs : Nat → Option IFun) (g : Nat) (vs : List AV) (v : AV) : Prop :=
  ∀ (Q : IX → Env → Stack → Prop) (cs : List Fr) (d : Bool) (dr : List Nat) (l : List IOper) (e : Env) (H : Heap) (S : Stack) (t : Option Nat),
    RunC funs Q cs d dr l e (H :: S) t (.func (.func g) [] []) vs = RunO funs Q cs d dr l (putD e t v) (H :: S)
theorem Gives.is {g : Nat} {vs : List AV} {v : AV} (hc : Gives funs g vs v) : CallIs funs g vs v := by
  intro Q cs d dr l e H S t
  refine propext ⟨?_, RunC_i hc⟩
  rintro ⟨k, x, e', S', h1, h2⟩
  obtain ⟨k0, hk⟩ := hc.at
  refine ⟨max k k0, x, e', S', ?_, h2⟩
  have h3 := callV_up (Nat.le_max_right k k0) (hk (H :: S))
  have h4 : evOper (callV funs (max k k0)) ⟨t, .call (.c (.func (.func g) [] [])) (vs.map .c), none⟩ e (H :: S) = some (.go (putD e t v) (H :: S)) := by
    simp only [evOper, guardA, evs_c, Opd.ev, h3, afterCall]
  have h5 := evC_up (Nat.le_max_left k k0) h1
  simp only [evC, evOps, h4] at h5
  simp only [evC]
  exact h5

theorem RunP_i {g : Nat} {vs : List AV} {v : AV} (hf : hfrees vs = true) (hv : hfree v = true) (hc : Gives funs g vs v) (h : RunO funs Q cs d dr l (putD e t v) S) : RunP funs Q cs d dr l e S t g vs := by
  obtain ⟨k, x, e', S', h1, h2⟩ := h
  obtain ⟨k0, hk⟩ := hc
  refine ⟨max k k0, x, e', S', ?_, h2⟩
  have h3 := callV_up (Nat.le_max_right k k0) hk
  have h4 : evOper (callV funs (max k k0)) ⟨t, .callp g (vs.map .c), none⟩ e S = some (.go (putD e t v) S) := by
    simp only [evOper, guardA, evs_c, hf, cond_true, h3, hv]
  have h5 := evC_up (Nat.le_max_left k k0) h1
  simp only [evC] at h5
  simp only [evC, evOps, h4]
  exact h5
abbrev CallpIs (funs : Nat → Option IFun) (g : Nat) (vs : List AV) (v : AV) : Prop :=
  ∀ (Q : IX → Env → Stack → Prop) (cs : List Fr) (d : Bool) (dr : List Nat) (l : List IOper) (e : Env) (S : Stack) (t : Option Nat),
    RunP funs Q cs d dr l e S t g vs = RunO funs Q cs d dr l (putD e t v) S
theorem Gives.isp {g : Nat} {vs : List AV} {v : AV} (hc : Gives funs g vs v) (hf : hfrees vs = true) (hv : hfree v = true) : CallpIs funs g vs v := by
  intro Q cs d dr l e S t
  refine propext ⟨?_, RunP_i hf hv hc⟩
  rintro ⟨k, x, e', S', h1, h2⟩
  obtain ⟨k0, hk⟩ := hc
  refine ⟨max k k0, x, e', S', ?_, h2⟩
  have h3 := callV_up (Nat.le_max_right k k0) hk
  have h4 : evOper (callV funs (max k k0)) ⟨t, .callp g (vs.map .c), none⟩ e S = some (.go (putD e t v) S) := by
    simp only [evOper, guardA, evs_c, hf, cond_true, h3, hv]
  have h5 := evC_up (Nat.le_max_left k k0) h1
  simp only [evC, evOps, h4] at h5
  simp only [evC]
  exact h5
end

section
variable {cs : List Fr} {d : Bool} {dr : List Nat} {l : List IOper} {e : Env} {S : Stack} {t : Option Nat}
theorem RunO_calls {g : Nat} {args : List Opd} {H : Heap} : RunO funs Q cs d dr (⟨t, .calls g args, none⟩ :: l) e (H :: S) = RunS funs Q cs d dr l e (H :: S) t g (mapO (leave H) (evs e args)) := by
  refine propext ⟨?_, ?_⟩
  · rintro ⟨k, x, e', S', h1, h2⟩
    simp only [evC, evOps, evOper, guardA] at h1
    cases hm : mapO (leave H) (evs e args) with
    | none => rw [hm] at h1; cases h1
    | some vs =>
      rw [hm] at h1
      simp only at h1
      cases hf : hfrees vs with
      | false => rw [hf] at h1; cases h1
      | true =>
        rw [hf] at h1
        simp only [cond_true] at h1
        cases hc : callV funs k (.func (.func g) [] []) vs [] with
        | none => rw [hc] at h1; cases h1
        | some p =>
          obtain ⟨r, S2⟩ := p
          cases r with
          | pan v => rw [hc] at h1; cases h1
          | ret v =>
            cases S2 with
            | cons a b => rw [hc] at h1; cases h1
            | nil =>
              rw [hc] at h1
              simp only at h1
              cases hs : scal v with
              | false => rw [hs] at h1; cases h1
              | true =>
                rw [hs] at h1
                simp only [cond_true] at h1
                exact ⟨v, ⟨k, hc⟩, hf, hs, k, x, e', S', by simp only [evC]; exact h1, h2⟩
  · intro h
    cases hm : mapO (leave H) (evs e args) with
    | none => rw [hm] at h; exact h.elim
    | some vs =>
      rw [hm] at h
      obtain ⟨v, ⟨k0, hk⟩, hf, hs, k, x, e', S', h1, h2⟩ := h
      refine ⟨max k k0, x, e', S', ?_, h2⟩
      have h3 := callV_up (Nat.le_max_right k k0) hk
      have h4 : evOper (callV funs (max k k0)) ⟨t, .calls g args, none⟩ e (H :: S) = some (.go (putD e t v) (H :: S)) := by
        simp only [evOper, guardA, hm, hf, cond_true, h3, hs]
      have h5 := evC_up (Nat.le_max_left k k0) h1
      simp only [evC] at h5
      simp only [evC, evOps, h4]
      exact h5
abbrev CallsIs (funs : Nat → Option IFun) (g : Nat) (vs : List AV) (v : AV) : Prop :=
  ∀ (Q : IX → Env → Stack → Prop) (cs : List Fr) (d : Bool) (dr : List Nat) (l : List IOper) (e : Env) (S : Stack) (t : Option Nat),
    RunS funs Q cs d dr l e S t g (some vs) = RunO funs Q cs d dr l (putD e t v) S
theorem Gives.uniq {g : Nat} {vs : List AV} {v w : AV} (h1 : Gives funs g vs v) (h2 : Gives funs g vs w) : v = w := by
  obtain ⟨k, hk⟩ := h1
  obtain ⟨k2, hk2⟩ := h2
  have a := callV_up (Nat.le_max_left k k2) hk
  have b := callV_up (Nat.le_max_right k k2) hk2
  rw [a] at b
  cases b; rfl
theorem Gives.iss {g : Nat} {vs : List AV} {v : AV} (hc : Gives funs g vs v) (hf : hfrees vs = true) (hv : scal v = true) : CallsIs funs g vs v := by
  intro Q cs d dr l e S t
  refine propext ⟨?_, fun h => ⟨v, hc, hf, hv, h⟩⟩
  rintro ⟨w, h1, _, _, h2⟩
  rw [← hc.uniq h1] at h2
  exact h2
end

/-! ### Loops -/
/-- Behind a round. -/
def Rnd (N : Env → Stack → Prop) (R : IX → Env → Stack → Prop) : IX → Env → Stack → Prop
  | .normal, e, S => N e S
  | x, e, S => R x e S
theorem Rnd_normal {N : Env → Stack → Prop} {R : IX → Env → Stack → Prop} {e : Env} {S : Stack} : Rnd N R .normal e S = N e S := rfl
theorem Rnd_exit {N : Env → Stack → Prop} {R : IX → Env → Stack → Prop} {j : Nat} {e : Env} {S : Stack} : Rnd N R (.exit j) e S = R (.exit j) e S := rfl
theorem Rnd_ret {N : Env → Stack → Prop} {R : IX → Env → Stack → Prop} {e : Env} {S : Stack} : Rnd N R .ret e S = R .ret e S := rfl
theorem Rnd_panic {N : Env → Stack → Prop} {R : IX → Env → Stack → Prop} {v : AV} {e : Env} {S : Stack} : Rnd N R (.panic v) e S = R (.panic v) e S := rfl
/-- The next state of a loop. -/
def Next {σ : Type} (E : σ → Env) (T : σ → Stack) (P : σ → Prop) (m : σ → Nat) (n : Nat) (e : Env) (S : Stack) : Prop := ∃ s, P s ∧ m s < n ∧ e = E s ∧ S = T s
theorem Next.i {σ : Type} {E : σ → Env} {T : σ → Stack} {P : σ → Prop} {m : σ → Nat} {n : Nat} {e : Env} {S : Stack} (s : σ) (he : e = E s) (hS : S = T s) (hP : P s) (hm : m s < n) : Next E T P m n e S := ⟨s, hP, hm, he, hS⟩
theorem Run_loop {σ : Type} (E : σ → Env) (T : σ → Stack) (P : σ → Prop) (m : σ → Nat) {b : IC} {cs : List Fr} {e : Env} {S : Stack} (s : σ) (he : e = E s) (hS : S = T s) (hP : P s)
    (hr : ∀ s, P s → Run funs (Rnd (Next E T P m (m s)) (Run funs Q cs)) [.c b] .normal (E s) (T s)) : Run funs Q (.c (.loop b) :: cs) .normal e S := by
  subst he hS
  refine Ev.loop (fun n e S => ∃ s, P s ∧ n = m s ∧ e = E s ∧ S = T s) ?_ (m s) ⟨s, hP, rfl, rfl, rfl⟩
  rintro n e S ⟨s, hP, rfl, rfl, rfl⟩
  refine Ev.mono (hr s hP).unrun ?_
  intro x e' S' h
  cases x with
  | normal =>
    obtain ⟨s', h1, h2, h3, h4⟩ := h
    exact ⟨m s', h2, s', h1, rfl, h3, h4⟩
  | _ => exact h
def Nx (a : Prop) (e e' : Env) (S S' : Stack) (P : Prop) : Prop := a ∧ e = e' ∧ S = S' ∧ P
theorem Nx.i {a : Prop} {e e' : Env} {S S' : Stack} {P : Prop} (h1 : a) (h2 : e = e') (h3 : S = S') (h4 : P) : Nx a e e' S S' P := ⟨h1, h2, h3, h4⟩
/-- Over the numbers below N. -/
theorem Run_upto (N : Nat) (E : Nat → Env) (T : Nat → Stack) (P : Nat → Prop) {b : IC} {cs : List Fr} {e : Env} {S : Stack} (he : e = E 0) (hS : S = T 0) (hP : P 0)
    (hr : ∀ i, i ≤ N → P i → Run funs (Rnd (fun e S => Nx (i < N) e (E (i + 1)) S (T (i + 1)) (P (i + 1))) (Run funs Q cs)) [.c b] .normal (E i) (T i)) : Run funs Q (.c (.loop b) :: cs) .normal e S := by
  refine Run_loop E T (fun i => i ≤ N ∧ P i) (fun i => N - i) 0 he hS ⟨Nat.zero_le _, hP⟩ ?_
  intro i hi
  refine Ev.mono (hr i hi.1 hi.2).unrun ?_
  intro x e' S' h
  cases x with
  | normal =>
    obtain ⟨h1, h2, h3, h4⟩ := h
    exact ⟨i + 1, ⟨h1, h4⟩, by show N - (i + 1) < N - i; omega, h2, h3⟩
  | _ => exact h

/-- A function that runs in a memory of its own. -/
theorem Gives.by {g : Nat} {fn : IFun} {args args' : List AV} {v : AV} (hf : funs g = some fn) (hs : fn.shared = false) (hn : Nat.beq args'.length fn.nargs = true) (hu : mapO upf args = some args')
    (h : Run funs (fun x e' S' => (x = .normal ∨ x = .ret) ∧ ∃ H' r, S' = [H'] ∧ resultsA e' [H'] fn.results = some r ∧ leave H' r = some v) [.c fn.body] .normal (Env.ofArgs 0 args') [[]]) : Gives funs g args v :=
  Gives.intro hf hs hn hu h.unrun
end
end Go.AS
