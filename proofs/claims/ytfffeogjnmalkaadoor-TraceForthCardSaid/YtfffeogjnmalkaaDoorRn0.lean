import Derived.IntWalk
import Derived.Test.YtfffeogjnmalkaaDoorTr0
set_option linter.all false
/-
  The walk as rewriting: control is a list of frames, each step an equation for 'simp'. By an AI agent.
-/
namespace Go.AS
open Go

inductive Fr where
  | c (c : IC)
  | b (id : Nat)

/-! ### What a call gives back -/
mutual
theorem fg_fg : ∀ v : AV, fg (fg v) = fg v
  | .undef | .bool _ | .int .. | .str _ | .nilptr | .ptr .. | .ref .. | .nilmap | .map _ | .nilFunc | .nilIface | .ext _ => rfl
  | .iptr row o => by simp only [fg, fgs_fgs row]
  | .imm n es l c cs => by
    simp only [fg]
    cases h : Nat.beq l 0 with
    | true => rfl
    | false => simp only [cond_false, fg, h, fgs_fgs cs]
  | .func fn fi ca => by simp only [fg, fgs_fgs fi, fgs_fgs ca]
  | .iface t v => by simp only [fg, fg_fg v]
  | .agg cs => by simp only [fg, fgs_fgs cs]
  | .tuple vs => by simp only [fg, fgs_fgs vs]
theorem fgs_fgs : ∀ l : List AV, fgs (fgs l) = fgs l
  | [] => rfl
  | v :: r => by simp only [fgs, fg_fg v, fgs_fgs r]
end
theorem leave_free {H : Heap} {v : AV} (h : hfree v = true) : leave H v = some (fg v) := by
  have h1 : frz H 1000 v = some v := by unfold frz; rw [h]; rfl
  have h2 : down v = some v := by unfold down; rw [h]; rfl
  unfold leave
  rw [h1]
  simp only [h2, Option.map_some]
theorem leave_fg {H : Heap} {r v : AV} (h : leave H r = some v) : fg v = v := by
  unfold leave at h
  split at h
  · rw [Option.map_eq_some_iff] at h
    obtain ⟨u, _, rfl⟩ := h
    exact fg_fg u
  · cases h
theorem fgs_str (l : List (List UInt8)) : fgs (l.map AV.str) = l.map AV.str := by
  induction l with
  | nil => rfl
  | cons a l ih => simp only [List.map_cons, fgs, ih, Go.AS.fg]
theorem splitL_ne (c : UInt8) (s : List UInt8) : splitL c s ≠ [] := by
  cases s with
  | nil => simp [splitL]
  | cons a l =>
    unfold splitL
    cases a == c
    · simp only [cond_false]; split <;> simp
    · simp
theorem natS_fg {k : NatK} {args : List AV} {v : AV} (h : natS k args = some v) : Go.AS.fg v = v := by
  have imm : ∀ l : List (List UInt8), l ≠ [] → Go.AS.fg (immS l) = immS l := fun l hl => by
    cases l with
    | nil => exact absurd rfl hl
    | cons a l =>
      have : Nat.beq (a :: l).length 0 = false := rfl
      simp only [immS, Go.AS.fg, this, cond_false, fgs_str]
  unfold natS at h
  split at h
  · rw [Bool.cond_eq_ite] at h
    split at h
    · cases h; rfl
    · cases h
  · rw [Bool.cond_eq_ite] at h
    split at h
    · rename_i hc
      cases h
      refine imm _ ?_
      simp only [Bool.and_eq_true, Bool.not_eq_true', List.isEmpty_eq_false_iff] at hc
      exact hc.1.2
    · cases h
  · rw [Bool.cond_eq_ite] at h
    split at h
    · cases h; rfl
    · cases h
  · split at h
    · rw [Bool.cond_eq_ite] at h
      split at h
      · cases h; rfl
      · cases h
    · cases h
  · rw [Bool.cond_eq_ite] at h
    split at h
    · cases h
      exact imm _ (splitL_ne _ _)
    · cases h
  · rw [Bool.cond_eq_ite] at h
    split at h
    · cases h; rfl
    · cases h
  · cases h
theorem Gives.fg {funs : Nat → Option IFun} {g : Nat} {vs : List AV} {v : AV} (h : Gives funs g vs v) : Go.AS.fg v = v := by
  obtain ⟨k, hk⟩ := h
  cases k with
  | zero => simp [callV] at hk
  | succ k =>
    simp only [callV] at hk
    split at hk
    · rename_i fn hf
      split at hk
      · unfold natV at hk
        split at hk
        · cases ‹([] : Stack) = _ :: _›
        · cases ‹([] : Stack) = _ :: _›
        · cases ‹([] : Stack) = _ :: _›
        · split at hk
          · rename_i v hv
            cases hk
            exact natS_fg hv
          · cases hk
      unfold callFn at hk
      split at hk
      · cases hk
      · split at hk
        · rename_i r H S' _
          simp only [Option.map_eq_some_iff, Prod.mk.injEq, CR.ret.injEq] at hk
          obtain ⟨u, hu, rfl, _⟩ := hk
          exact leave_fg hu
        · simp at hk
        · cases hk
    · cases hk

section
variable {funs : Nat → Option IFun}

/-- Control x, what is still to be run, and what is wanted at the end. -/
def Run (funs : Nat → Option IFun) (Q : IX → Env → Stack → Prop) : List Fr → IX → Env → Stack → Prop
  | [], x, e, S => Q x e S
  | .c c :: cs, .normal, e, S => Ev funs c e S (Run funs Q cs)
  | .c _ :: cs, x, e, S => Run funs Q cs x e S
  | .b id :: cs, .exit j, e, S => bif Nat.beq j id then Run funs Q cs .normal e S else Run funs Q cs (.exit j) e S
  | .b _ :: cs, x, e, S => Run funs Q cs x e S

variable {Q : IX → Env → Stack → Prop}

theorem Ev.run {c : IC} {e : Env} {S : Stack} (h : Run funs Q [.c c] .normal e S) : Ev funs c e S Q :=
  Ev.mono h fun _ _ _ hx => hx

theorem Run.unrun {c : IC} {e : Env} {S : Stack} (h : Run funs Q [.c c] .normal e S) : Ev funs c e S Q := Ev.run h

/-- Within operations. -/
def RunO (funs : Nat → Option IFun) (Q : IX → Env → Stack → Prop) (cs : List Fr) (d : Bool) (dr : List Nat) (l : List IOper) (e : Env) (S : Stack) : Prop :=
  Ev funs (.ops d l dr) e S (Run funs Q cs)
/-- An operation's answer. -/
def RunV (funs : Nat → Option IFun) (Q : IX → Env → Stack → Prop) (cs : List Fr) (d : Bool) (dr : List Nat) (l : List IOper) (e : Env) (S : Stack) (t : Option Nat) : Option (AV × Heap) → Prop
  | some (v, H) => RunO funs Q cs d dr l (putD e t v) (H :: S)
  | none => False
/-- A call. -/
def RunC (funs : Nat → Option IFun) (Q : IX → Env → Stack → Prop) (cs : List Fr) (d : Bool) (dr : List Nat) (l : List IOper) (e : Env) (S : Stack) (t : Option Nat) (f : AV) (vs : List AV) : Prop :=
  RunO funs Q cs d dr (⟨t, .call (.c f) (vs.map .c), none⟩ :: l) e S
/-- A call in a region whose order is open. -/
def RunP (funs : Nat → Option IFun) (Q : IX → Env → Stack → Prop) (cs : List Fr) (d : Bool) (dr : List Nat) (l : List IOper) (e : Env) (S : Stack) (t : Option Nat) (g : Nat) (vs : List AV) : Prop :=
  RunO funs Q cs d dr (⟨t, .callp g (vs.map .c), none⟩ :: l) e S
/-- A call that is shown what there is. -/
def RunS (funs : Nat → Option IFun) (Q : IX → Env → Stack → Prop) (cs : List Fr) (d : Bool) (dr : List Nat) (l : List IOper) (e : Env) (S : Stack) (t : Option Nat) (g : Nat) : Option (List AV) → Prop
  | some vs => ∃ v, Gives funs g vs v ∧ hfrees vs = true ∧ scal v = true ∧ RunO funs Q cs d dr l (putD e t v) S
  | none => False
/-- A guard. -/
def RunG (funs : Nat → Option IFun) (Q : IX → Env → Stack → Prop) (cs : List Fr) (d : Bool) (dr : List Nat) (l : List IOper) (e : Env) (S : Stack) (t : Option Nat) (op : IOp) (want : Bool) : AV → Prop
  | .bool b => bif b == want then RunO funs Q cs d dr (⟨t, op, none⟩ :: l) e S else RunO funs Q cs d dr l (putD e t (.tuple [])) S
  | .tuple [] => RunO funs Q cs d dr l (putD e t (.tuple [])) S
  | _ => False
/-- A branch. -/
def RunB (funs : Nat → Option IFun) (Q : IX → Env → Stack → Prop) (cs : List Fr) (a b : IC) (e : Env) (S : Stack) : AV → Prop
  | .bool t => bif t then Run funs Q (.c a :: cs) .normal e S else Run funs Q (.c b :: cs) .normal e S
  | _ => False

theorem Ev_seq {a b : IC} {e : Env} {S : Stack} {P : IX → Env → Stack → Prop} : Ev funs (.seq a b) e S P ↔ Ev funs a e S (onward (fun e S => Ev funs b e S P) P) := by
  refine ⟨?_, Ev.seq⟩
  rintro ⟨k, x, e', S', h1, h2⟩
  rw [evC] at h1
  split at h1
  · rename_i e1 S1 h3
    exact ⟨k, _, _, _, h3, k, _, _, _, h1, h2⟩
  · rename_i h3
    refine ⟨k, x, e', S', h1, ?_⟩
    cases x <;> first | exact h2 | exact (h3 _ _ h1).elim

theorem onward_run {cs : List Fr} {b : IC} : onward (fun e S => Ev funs b e S (Run funs Q cs)) (Run funs Q cs) = Run funs Q (.c b :: cs) := by
  funext x e S
  cases x <;> rfl
theorem out_run {cs : List Fr} {id : Nat} : outOf id (Run funs Q cs) = Run funs Q (.b id :: cs) := by
  funext x e S
  cases x <;> rfl

theorem Run_nil {x : IX} {e : Env} {S : Stack} : Run funs Q [] x e S = Q x e S := by unfold Run; rfl
theorem Run_seq {a b : IC} {cs : List Fr} {e : Env} {S : Stack} : Run funs Q (.c (.seq a b) :: cs) .normal e S = Run funs Q (.c a :: .c b :: cs) .normal e S := by
  show Ev funs (.seq a b) e S (Run funs Q cs) = Ev funs a e S (Run funs Q (.c b :: cs))
  rw [← onward_run]; exact propext Ev_seq
theorem Run_nop {cs : List Fr} {e : Env} {S : Stack} : Run funs Q (.c .nop :: cs) .normal e S = Run funs Q cs .normal e S :=
  propext ⟨fun ⟨_, _, _, _, h1, h2⟩ => by cases h1; exact h2, Ev.nop⟩
theorem Run_exit {id : Nat} {cs : List Fr} {e : Env} {S : Stack} : Run funs Q (.c (.exit id) :: cs) .normal e S = Run funs Q cs (.exit id) e S :=
  propext ⟨fun ⟨_, _, _, _, h1, h2⟩ => by cases h1; exact h2, Ev.exit⟩
theorem Run_ret {cs : List Fr} {e : Env} {S : Stack} : Run funs Q (.c .ret :: cs) .normal e S = Run funs Q cs .ret e S :=
  propext ⟨fun ⟨_, _, _, _, h1, h2⟩ => by cases h1; exact h2, Ev.ret⟩
theorem Run_skip_exit {c : IC} {id : Nat} {cs : List Fr} {e : Env} {S : Stack} : Run funs Q (.c c :: cs) (.exit id) e S = Run funs Q cs (.exit id) e S := rfl
theorem Run_skip_ret {c : IC} {cs : List Fr} {e : Env} {S : Stack} : Run funs Q (.c c :: cs) .ret e S = Run funs Q cs .ret e S := rfl
theorem Run_skip_panic {c : IC} {cs : List Fr} {v : AV} {e : Env} {S : Stack} : Run funs Q (.c c :: cs) (.panic v) e S = Run funs Q cs (.panic v) e S := rfl
theorem Run_out_normal {id : Nat} {cs : List Fr} {e : Env} {S : Stack} : Run funs Q (.b id :: cs) .normal e S = Run funs Q cs .normal e S := rfl
theorem Run_out_exit {id j : Nat} {cs : List Fr} {e : Env} {S : Stack} : Run funs Q (.b id :: cs) (.exit j) e S = bif Nat.beq j id then Run funs Q cs .normal e S else Run funs Q cs (.exit j) e S := rfl
theorem Run_out_ret {id : Nat} {cs : List Fr} {e : Env} {S : Stack} : Run funs Q (.b id :: cs) .ret e S = Run funs Q cs .ret e S := rfl
theorem Run_out_panic {id : Nat} {cs : List Fr} {v : AV} {e : Env} {S : Stack} : Run funs Q (.b id :: cs) (.panic v) e S = Run funs Q cs (.panic v) e S := rfl
theorem Run_block {id : Nat} {b : IC} {cs : List Fr} {e : Env} {S : Stack} : Run funs Q (.c (.block id b) :: cs) .normal e S = Run funs Q (.c b :: .b id :: cs) .normal e S := by
  show Ev funs (.block id b) e S (Run funs Q cs) = Ev funs b e S (Run funs Q (.b id :: cs))
  rw [← out_run]
  refine propext ⟨?_, Ev.block⟩
  rintro ⟨k, x, e', S', h1, h2⟩
  rw [evC] at h1
  split at h1
  · rename_i j e1 S1 h3
    refine ⟨k, _, _, _, h3, ?_⟩
    cases hj : Nat.beq j id <;> rw [hj] at h1 <;> cases h1 <;> simp only [outOf, hj, cond_true, cond_false] <;> exact h2
  · rename_i h3
    refine ⟨k, x, e', S', h1, ?_⟩
    cases x <;> first | exact h2 | exact (h3 _ _ _ h1).elim
theorem Run_cond {c : Opd} {a b : IC} {cs : List Fr} {e : Env} {S : Stack} : Run funs Q (.c (.cond c a b) :: cs) .normal e S = RunB funs Q cs a b e S (c.ev e) := by
  refine propext ⟨?_, ?_⟩
  · rintro ⟨k, x, e', S', h1, h2⟩
    rw [evC] at h1
    split at h1
    · rename_i t h3
      rw [h3]
      cases t
      · exact ⟨k, x, e', S', h1, h2⟩
      · exact ⟨k, x, e', S', h1, h2⟩
    · cases h1
  · intro h
    cases hc : c.ev e with
    | bool t =>
      rw [hc] at h
      exact Ev.cond hc (fun ht => by subst ht; exact h) (fun ht => by subst ht; exact h)
    | _ => rw [hc] at h; exact h.elim
theorem Run_ops {d : Bool} {l : List IOper} {dr : List Nat} {cs : List Fr} {e : Env} {S : Stack} : Run funs Q (.c (.ops d l dr) :: cs) .normal e S = RunO funs Q cs d dr l e S := rfl

theorem RunB_t {cs : List Fr} {a b : IC} {e : Env} {S : Stack} : RunB funs Q cs a b e S (.bool true) = Run funs Q (.c a :: cs) .normal e S := rfl
theorem RunB_f {cs : List Fr} {a b : IC} {e : Env} {S : Stack} : RunB funs Q cs a b e S (.bool false) = Run funs Q (.c b :: cs) .normal e S := rfl
/-- A branch at a question. -/
theorem RunB_i {cs : List Fr} {a b : IC} {e : Env} {S : Stack} {p : Prop} [Decidable p] (h1 : p → Run funs Q (.c a :: cs) .normal e S) (h2 : ¬ p → Run funs Q (.c b :: cs) .normal e S) : RunB funs Q cs a b e S (.bool (decide p)) := by
  by_cases h : p
  · simpa only [RunB, h, decide_true, cond_true] using h1 h
  · simpa only [RunB, h, decide_false, cond_false] using h2 h
theorem RunB_ib {cs : List Fr} {a b : IC} {e : Env} {S : Stack} {p : Bool} (h1 : p = true → Run funs Q (.c a :: cs) .normal e S) (h2 : p = false → Run funs Q (.c b :: cs) .normal e S) : RunB funs Q cs a b e S (.bool p) := by
  cases p
  · exact h2 rfl
  · exact h1 rfl

/-! ### Operations -/
section
variable {cs : List Fr} {d : Bool} {dr : List Nat} {l : List IOper} {e : Env} {S : Stack} {t : Option Nat}

theorem evOps_nil (k : Nat) : evOps (callV funs k) [] e S = some (.go e S) := rfl
theorem RunO_nil : RunO funs Q cs d dr [] e S = Run funs Q cs .normal (Env.drop e dr) S := by
  refine propext ⟨?_, fun h => ⟨0, _, _, _, rfl, h⟩⟩
  rintro ⟨k, x, e', S', h1, h2⟩
  simp only [evC, evOps] at h1
  cases h1; exact h2

theorem RunO_step {o : IOper} {e1 : Env} {S1 : Stack} (h : ∀ k, evOper (callV funs k) o e S = some (.go e1 S1)) : RunO funs Q cs d dr (o :: l) e S = RunO funs Q cs d dr l e1 S1 := by
  have : ∀ k, evC k (callV funs k) (.ops d (o :: l) dr) e S = evC k (callV funs k) (.ops d l dr) e1 S1 := fun k => by
    simp only [evC, evOps, h k]
  unfold RunO Ev
  simp only [this]

theorem RunV_some {v : AV} {H : Heap} : RunV funs Q cs d dr l e S t (some (v, H)) = RunO funs Q cs d dr l (putD e t v) (H :: S) := rfl

/-- An operation's operands, as they stand. -/
def cst (e : Env) : IOp → IOp
  | .mv x => .mv (.c (x.ev e))
  | .pick c a b => .pick (.c (c.ev e)) (.c (a.ev e)) (.c (b.ev e))
  | .box n x => .box n (.c (x.ev e))
  | .load n x => .load n (.c (x.ev e))
  | .store n a x => .store n (.c (a.ev e)) (.c (x.ev e))
  | .nilck x => .nilck (.c (x.ev e))
  | .bin op x y => .bin op (.c (x.ev e)) (.c (y.ev e))
  | .eqb ng x y => .eqb ng (.c (x.ev e)) (.c (y.ev e))
  | .eqn k ng x y => .eqn k ng (.c (x.ev e)) (.c (y.ev e))
  | .eqa ng o x y => .eqa ng o (.c (x.ev e)) (.c (y.ev e))
  | .neg x => .neg (.c (x.ev e))
  | .inv x => .inv (.c (x.ev e))
  | .not x => .not (.c (x.ev e))
  | .conv k x => .conv k (.c (x.ev e))
  | .bytes x => .bytes (.c (x.ev e))
  | .text x => .text (.c (x.ev e))
  | .mvs x => .mvs (.c (x.ev e))
  | .mkif t x => .mkif t (.c (x.ev e))
  | .mksl es b z n c => .mksl es b z (.c (n.ev e)) (.c (c.ev e))
  | .sub es x lo hi mx => .sub es (.c (x.ev e)) (lo.map fun o => .c (o.ev e)) (hi.map fun o => .c (o.ev e)) (mx.map fun o => .c (o.ev e))
  | .subs x lo hi => .subs (.c (x.ev e)) (lo.map fun o => .c (o.ev e)) (hi.map fun o => .c (o.ev e))
  | .suba n es x lo hi mx => .suba n es (.c (x.ev e)) (lo.map fun o => .c (o.ev e)) (hi.map fun o => .c (o.ev e)) (mx.map fun o => .c (o.ev e))
  | .faddr o x => .faddr o (.c (x.ev e))
  | .fld o n x => .fld o n (.c (x.ev e))
  | .ixa es x i => .ixa es (.c (x.ev e)) (.c (i.ev e))
  | .ixaa n es x i => .ixaa n es (.c (x.ev e)) (.c (i.ev e))
  | .ixs x i => .ixs (.c (x.ev e)) (.c (i.ev e))
  | .ixv n es g x i => .ixv n es g (.c (x.ev e)) (.c (i.ev e))
  | .look kk z ok m k => .look kk z ok (.c (m.ev e)) (.c (k.ev e))
  | .mapup kk m k v => .mapup kk (.c (m.ev e)) (.c (k.ev e)) (.c (v.ev e))
  | .extr x i => .extr (.c (x.ev e)) i
  | .len x => .len (.c (x.ev e))
  | .lens x => .lens (.c (x.ev e))
  | .lenm x => .lenm (.c (x.ev e))
  | .cap x => .cap (.c (x.ev e))
  | .append es b s x => .append es b (.c (s.ev e)) (.c (x.ev e))
  | .appi es b s x => .appi es b (.c (s.ev e)) (.c (x.ev e))
  | .appz es b z s x => .appz es b z (.c (s.ev e)) (.c (x.ev e))
  | .copy es a s => .copy es (.c (a.ev e)) (.c (s.ev e))
  | .clearm m => .clearm (.c (m.ev e))
  | .clears es z s => .clears es z (.c (s.ev e))
  | .del kk m k => .del kk (.c (m.ev e)) (.c (k.ev e))
  | .minmax mx xs => .minmax mx ((evs e xs).map .c)
  | .build z ps => .build z (ps.map fun p => (p.1, p.2.1, .c (p.2.2.ev e)))
  | .bsl mt es n z ps => .bsl mt es n z (ps.map fun p => (p.1, p.2.1, .c (p.2.2.ev e)))
  | .mkfn fn fi ca => .mkfn fn ((evs e fi).map .c) ((evs e ca).map .c)
  | .ment kk z m k => .ment kk z (.c (m.ev e)) (.c (k.ev e))
  | .mentst m s v => .mentst (.c (m.ev e)) (.c (s.ev e)) (.c (v.ev e))
  | .alloc z => .alloc z
  | .slots k => .slots k
  | .allocA d z => .allocA d z
  | .diff x y => .diff (.c (x.ev e)) (.c (y.ev e))
  | .cmps x y => .cmps (.c (x.ev e)) (.c (y.ev e))
  | .mkmap => .mkmap
  | .newb t el => .newb t el
  | .mapA d => .mapA d
  | .allocAt d z => .allocAt d z
  | .mapAt d => .mapAt d
  | .rng m => .rng (.c (m.ev e))
  | .nxt x => .nxt (.c (x.ev e))
  | .panic x => .panic (.c (x.ev e))
  | .callp f azs => .callp f ((evs e azs).map .c)
  | .callf f azs => .callf f ((evs e azs).map .c)
  | .calls f azs => .calls f ((evs e azs).map .c)
  | .call f azs => .call (.c (f.ev e)) ((evs e azs).map .c)

theorem evs_c (e' : Env) (vs : List AV) : evs e' (vs.map .c) = vs := by
  induction vs with
  | nil => rfl
  | cons a r ih => simp only [List.map_cons, evs, Opd.ev, ih]
theorem fillA_c (e e' : Env) : ∀ (ps : List (Nat × Nat × Opd)) (cs : List AV), fillA e' cs (ps.map fun p => (p.1, p.2.1, Opd.c (p.2.2.ev e))) = fillA e cs ps
  | [], _ => rfl
  | (o, n, x) :: r, cs => by
    have h : ∀ cs, fillA e' cs (r.map fun p => (p.1, p.2.1, Opd.c (p.2.2.ev e))) = fillA e cs r := fillA_c e e' r
    show (match cellsOf (x.ev e) with
      | some vs => bif Nat.beq vs.length n && Nat.ble (o + n) cs.length then fillA e' (splice cs o vs) (r.map fun (p : Nat × Nat × Opd) => (p.1, p.2.1, Opd.c (p.2.2.ev e))) else none
      | none => none) = _
    simp only [h]; rfl
/-- An operation whose operands are known. -/
def opV (H : Heap) (op : IOp) : Option (AV × Heap) := evOp [] H op
theorem evc (e : Env) (v : AV) : Opd.ev e (.c v) = v := rfl
theorem cut_c (e e' : Env) (lo hi : Option Opd) (n m : Nat) : cut (lo.map fun o => Opd.c (o.ev e)) (hi.map fun o => Opd.c (o.ev e)) e' n m = cut lo hi e n m := by
  cases lo <;> cases hi <;> rfl
theorem cut3_c (e e' : Env) (lo hi : Option Opd) (x : Opd) (m : Nat) : cut3 (lo.map fun o => Opd.c (o.ev e)) (hi.map fun o => Opd.c (o.ev e)) (.c (x.ev e)) e' m = cut3 lo hi x e m := by
  have h : bnd (.c (x.ev e)) e' m = bnd x e m := rfl
  cases hi with
  | none => simp only [cut3, Option.map_none, h]; cases bnd x e m <;> rfl
  | some b =>
    simp only [cut3, Option.map_some, h]
    cases bnd x e m with
    | none => rfl
    | some k =>
      have h2 : bnd (.c (b.ev e)) e' k = bnd b e k := rfl
      simp only [h2]
      cases lo <;> rfl
theorem opV_cst (e : Env) (H : Heap) (op : IOp) : opV H (cst e op) = evOp e H op := by
  cases op with
  | sub es x lo hi mx => cases mx <;> simp only [cst, opV, evOp, evc, Option.map_some, Option.map_none, cut_c, cut3_c]
  | subs x lo hi => simp only [cst, opV, evOp, evc, cut_c]
  | suba n es x lo hi mx => cases mx <;> simp only [cst, opV, evOp, evc, Option.map_some, Option.map_none, cut_c]
  | minmax mx xs => simp only [cst, opV, evOp, evs_c]
  | build z ps => simp only [cst, opV, evOp, fillA_c]
  | bsl mt es n z ps => simp only [cst, opV, evOp, fillA_c]
  | mkfn fn fi ca => simp only [cst, opV, evOp, evs_c]
  | _ => rfl
theorem isApart_cst (e : Env) (op : IOp) : isApart (cst e op) = isApart op := by cases op <;> rfl

theorem RunO_op {op : IOp} {H : Heap} (ha : isApart op = false) : RunO funs Q cs d dr (⟨t, op, none⟩ :: l) e (H :: S) = RunV funs Q cs d dr l e S t (opV H (cst e op)) := by
  rw [opV_cst]
  cases hv : evOp e H op with
  | some p =>
    obtain ⟨v, H'⟩ := p
    refine RunO_step fun k => ?_
    unfold evOper
    simp only [guardA]
    split
    · cases ha
    · cases ha
    · cases ha
    · cases ha
    · cases ha
    · simp only [hv]
  | none =>
    refine propext ⟨?_, fun h => h.elim⟩
    rintro ⟨k, x, e', S', h1, h2⟩
    have : evOper (callV funs k) ⟨t, op, none⟩ e (H :: S) = none := by
      unfold evOper
      simp only [guardA]
      split
      · cases ha
      · cases ha
      · cases ha
      · cases ha
      · cases ha
      · simp only [hv]
    simp only [evC, evOps, this] at h1
    cases h1

theorem RunO_guard {op : IOp} {j : Nat} {want : Bool} : RunO funs Q cs d dr (⟨t, op, some (j, want)⟩ :: l) e S = RunG funs Q cs d dr l e S t op want (Env.get e j) := by
  cases hj : Env.get e j with
  | bool b =>
    simp only [RunG]
    cases hb : b == want with
    | true =>
      rw [cond_true]
      have : ∀ k, evOper (callV funs k) ⟨t, op, some (j, want)⟩ e S = evOper (callV funs k) ⟨t, op, none⟩ e S := fun k => by
        simp only [evOper, guardA, hj, hb]
      unfold RunO Ev
      simp only [evC, evOps, this]
    | false =>
      rw [cond_false]
      refine RunO_step fun k => ?_
      simp only [evOper, guardA, hj, hb]
  | tuple vs =>
    cases vs with
    | nil =>
      simp only [RunG]
      refine RunO_step fun k => ?_
      simp only [evOper, guardA, hj]
    | cons a r =>
      refine propext ⟨?_, fun h => h.elim⟩
      rintro ⟨k, x, e', S', h1, h2⟩
      simp only [evC, evOps, evOper, guardA, hj] at h1
      cases h1
  | _ =>
    refine propext ⟨?_, fun h => h.elim⟩
    rintro ⟨k, x, e', S', h1, h2⟩
    simp only [evC, evOps, evOper, guardA, hj] at h1
    cases h1

theorem RunO_call {f : Opd} {args : List Opd} : RunO funs Q cs d dr (⟨t, .call f args, none⟩ :: l) e S = RunC funs Q cs d dr l e S t (f.ev e) (evs e args) := by
  have : ∀ k, evOper (callV funs k) ⟨t, .call f args, none⟩ e S = evOper (callV funs k) ⟨t, .call (.c (f.ev e)) ((evs e args).map .c), none⟩ e S := fun k => by
    simp only [evOper, guardA, evs_c, Opd.ev]
  unfold RunC RunO Ev
  simp only [evC, evOps, this]
theorem RunO_callp {g : Nat} {args : List Opd} : RunO funs Q cs d dr (⟨t, .callp g args, none⟩ :: l) e S = RunP funs Q cs d dr l e S t g (evs e args) := by
  have : ∀ k, evOper (callV funs k) ⟨t, .callp g args, none⟩ e S = evOper (callV funs k) ⟨t, .callp g ((evs e args).map .c), none⟩ e S := fun k => by
    simp only [evOper, guardA, evs_c]
  unfold RunP RunO Ev
  simp only [evC, evOps, this]

/-- On, behind a call that is known. -/
theorem RunC_i {g : Nat} {vs : List AV} {H : Heap} {v : AV} (hc : Gives funs g vs v) (h : RunO funs Q cs d dr l (putD e t v) (H :: S)) : RunC funs Q cs d dr l e (H :: S) t (.func (.func g) [] []) vs := by
  obtain ⟨k, x, e', S', h1, h2⟩ := h
  obtain ⟨k0, hk⟩ := hc.at
  refine ⟨max k k0, x, e', S', ?_, h2⟩
  have h3 := callV_up (Nat.le_max_right k k0) (hk (H :: S))
  have h4 : evOper (callV funs (max k k0)) ⟨t, .call (.c (.func (.func g) [] [])) (vs.map .c), none⟩ e (H :: S) = some (.go (putD e t v) (H :: S)) := by
    simp only [evOper, guardA, evs_c, Opd.ev, h3, afterCall]
  have h5 := evC_up (Nat.le_max_left k k0) h1
  simp only [evC] at h5
  simp only [evC, evOps, h4]
  exact h5

/-- A call's rule, as an equation. -/
abbrev CallIs (funs : Nat → Option IFun) (g : Nat) (vs : List AV) (v : AV) : Prop :=
  ∀ (Q : IX → Env → Stack → Prop) (cs : List Fr) (d : Bool) (dr : List Nat) (l : List IOper) (e : Env) (H : Heap) (S : Stack) (t : Option Nat),
    RunC funs Q cs d dr l e (H :: S) t (.func (.func g) [] []) vs = RunO funs Q cs d dr l (putD e t v) (H :: S)
theorem Gives.is {g : Nat} {vs : List AV} {v : AV} (hc : Gives funs g vs v) : CallIs funs g vs v := by
  intro Q cs d dr l e H S t
  refine propext ⟨?_, RunC_i hc⟩
  rintro ⟨k, x, e', S', h1, h2⟩
  obtain ⟨k0, hk⟩ := hc.at
  refine ⟨max k k0, x, e', S', ?_, h2⟩
  have h3 := callV_up (Nat.le_max_right k k0) (hk (H :: S))
  have h4 : evOper (callV funs (max k k0)) ⟨t, .call (.c (.func (.func g) [] [])) (vs.map .c), none⟩ e (H :: S) = some (.go (putD e t v) (H :: S)) := by
    simp only [evOper, guardA, evs_c, Opd.ev, h3, afterCall]
  have h5 := evC_up (Nat.le_max_left k k0) h1
  simp only [evC, evOps, h4] at h5
  simp only [evC]
  exact h5

/-- What is seen of a function's result by who calls it in a memory of its own. -/
def Sees (funs : Nat → Option IFun) (g : Nat) (vs : List AV) (v : AV) : Prop := ∃ k r H', callV funs k (.func (.func g) [] []) vs [[]] = some (.ret r, [H']) ∧ leave H' r = some v
theorem Gives.sees {g : Nat} {vs : List AV} {v : AV} (hc : Gives funs g vs v) (hv : hfree v = true) : Sees funs g vs v := by
  obtain ⟨k, hk⟩ := hc.at
  refine ⟨k, v, [], hk [[]], ?_⟩
  rw [leave_free hv, hc.fg]
theorem evOper_callp {k : Nat} {g : Nat} {vs : List AV} {r v : AV} {H' : Heap} (hf : hfrees vs = true) (hv : hfree v = true) (h1 : callV funs k (.func (.func g) [] []) vs [[]] = some (.ret r, [H'])) (h2 : leave H' r = some v) :
    evOper (callV funs k) ⟨t, .callp g (vs.map .c), none⟩ e S = some (.go (putD e t v) S) := by
  simp only [evOper, guardA, evs_c, hf, cond_true, h1, h2, hv]
theorem RunP_s {g : Nat} {vs : List AV} {v : AV} (hf : hfrees vs = true) (hv : hfree v = true) (hc : Sees funs g vs v) (h : RunO funs Q cs d dr l (putD e t v) S) : RunP funs Q cs d dr l e S t g vs := by
  obtain ⟨k, x, e', S', h1, h2⟩ := h
  obtain ⟨k0, r, H', hk, hl⟩ := hc
  refine ⟨max k k0, x, e', S', ?_, h2⟩
  have h4 := evOper_callp (e := e) (S := S) (t := t) hf hv (callV_up (Nat.le_max_right k k0) hk) hl
  have h5 := evC_up (Nat.le_max_left k k0) h1
  simp only [evC] at h5
  simp only [evC, evOps, h4]
  exact h5
theorem RunP_i {g : Nat} {vs : List AV} {v : AV} (hf : hfrees vs = true) (hv : hfree v = true) (hc : Gives funs g vs v) (h : RunO funs Q cs d dr l (putD e t v) S) : RunP funs Q cs d dr l e S t g vs := RunP_s hf hv (hc.sees hv) h
abbrev CallpIs (funs : Nat → Option IFun) (g : Nat) (vs : List AV) (v : AV) : Prop :=
  ∀ (Q : IX → Env → Stack → Prop) (cs : List Fr) (d : Bool) (dr : List Nat) (l : List IOper) (e : Env) (S : Stack) (t : Option Nat),
    RunP funs Q cs d dr l e S t g vs = RunO funs Q cs d dr l (putD e t v) S
theorem Sees.isp {g : Nat} {vs : List AV} {v : AV} (hc : Sees funs g vs v) (hf : hfrees vs = true) (hv : hfree v = true) : CallpIs funs g vs v := by
  intro Q cs d dr l e S t
  refine propext ⟨?_, RunP_s hf hv hc⟩
  rintro ⟨k, x, e', S', h1, h2⟩
  obtain ⟨k0, r, H', hk, hl⟩ := hc
  refine ⟨max k k0, x, e', S', ?_, h2⟩
  have h4 := evOper_callp (e := e) (S := S) (t := t) hf hv (callV_up (Nat.le_max_right k k0) hk) hl
  have h5 := evC_up (Nat.le_max_left k k0) h1
  simp only [evC, evOps, h4] at h5
  simp only [evC]
  exact h5
theorem Gives.isp {g : Nat} {vs : List AV} {v : AV} (hc : Gives funs g vs v) (hf : hfrees vs = true) (hv : hfree v = true) : CallpIs funs g vs v := (hc.sees hv).isp hf hv
/-- A call whose row goes on. -/
def RunFr (funs : Nat → Option IFun) (Q : IX → Env → Stack → Prop) (cs : List Fr) (d : Bool) (dr : List Nat) (l : List IOper) (e : Env) (S : Stack) (t : Option Nat) (g : Nat) (vs : List AV) : Prop :=
  RunO funs Q cs d dr (⟨t, .callf g (vs.map .c), none⟩ :: l) e S
theorem RunO_callf {g : Nat} {args : List Opd} : RunO funs Q cs d dr (⟨t, .callf g args, none⟩ :: l) e S = RunFr funs Q cs d dr l e S t g (evs e args) := by
  have : ∀ k, evOper (callV funs k) ⟨t, .callf g args, none⟩ e S = evOper (callV funs k) ⟨t, .callf g ((evs e args).map .c), none⟩ e S := fun k => by
    simp only [evOper, guardA, evs_c]
  unfold RunFr RunO Ev
  simp only [evC, evOps, this]
/-- A row that a function makes. -/
def Makes (funs : Nat → Option IFun) (g : Nat) (vs : List AV) (f : Heap → AV × Heap) : Prop := ∃ k r H', callV funs k (.func (.func g) [] []) vs [[]] = some (.ret r, [H']) ∧ ∀ H, fresh H' H r = some (f H)
abbrev CallfIs (funs : Nat → Option IFun) (g : Nat) (vs : List AV) (f : Heap → AV × Heap) : Prop :=
  ∀ (Q : IX → Env → Stack → Prop) (cs : List Fr) (d : Bool) (dr : List Nat) (l : List IOper) (e : Env) (H : Heap) (S : Stack) (t : Option Nat),
    RunFr funs Q cs d dr l e (H :: S) t g vs = RunO funs Q cs d dr l (putD e t (f H).1) ((f H).2 :: S)
theorem Makes.isf {g : Nat} {vs : List AV} {f : Heap → AV × Heap} (hc : Makes funs g vs f) (hf : hfrees vs = true) : CallfIs funs g vs f := by
  intro Q cs d dr l e H S t
  obtain ⟨k0, r, H', hk, hl⟩ := hc
  have h4 : ∀ k, k0 ≤ k → evOper (callV funs k) ⟨t, .callf g (vs.map .c), none⟩ e (H :: S) = some (.go (putD e t (f H).1) ((f H).2 :: S)) := fun k hk2 => by
    simp only [evOper, guardA, evs_c, hf, cond_true, callV_up hk2 hk, hl]
  refine propext ⟨?_, ?_⟩
  · rintro ⟨k, x, e', S', h1, h2⟩
    refine ⟨max k k0, x, e', S', ?_, h2⟩
    have h5 := evC_up (Nat.le_max_left k k0) h1
    simp only [evC, evOps, h4 _ (Nat.le_max_right k k0)] at h5
    simp only [evC]
    exact h5
  · rintro ⟨k, x, e', S', h1, h2⟩
    refine ⟨max k k0, x, e', S', ?_, h2⟩
    have h5 := evC_up (Nat.le_max_left k k0) h1
    simp only [evC] at h5
    simp only [evC, evOps, h4 _ (Nat.le_max_right k k0)]
    exact h5
end

section
variable {cs : List Fr} {d : Bool} {dr : List Nat} {l : List IOper} {e : Env} {S : Stack} {t : Option Nat}
theorem RunO_calls {g : Nat} {args : List Opd} {H : Heap} : RunO funs Q cs d dr (⟨t, .calls g args, none⟩ :: l) e (H :: S) = RunS funs Q cs d dr l e (H :: S) t g (mapO (leave H) (evs e args)) := by
  refine propext ⟨?_, ?_⟩
  · rintro ⟨k, x, e', S', h1, h2⟩
    simp only [evC, evOps, evOper, guardA] at h1
    cases hm : mapO (leave H) (evs e args) with
    | none => rw [hm] at h1; cases h1
    | some vs =>
      rw [hm] at h1
      simp only at h1
      cases hf : hfrees vs with
      | false => rw [hf] at h1; cases h1
      | true =>
        rw [hf] at h1
        simp only [cond_true] at h1
        cases hc : callV funs k (.func (.func g) [] []) vs [] with
        | none => rw [hc] at h1; cases h1
        | some p =>
          obtain ⟨r, S2⟩ := p
          cases r with
          | pan v => rw [hc] at h1; cases h1
          | ret v =>
            cases S2 with
            | cons a b => rw [hc] at h1; cases h1
            | nil =>
              rw [hc] at h1
              simp only at h1
              cases hs : scal v with
              | false => rw [hs] at h1; cases h1
              | true =>
                rw [hs] at h1
                simp only [cond_true] at h1
                exact ⟨v, ⟨k, hc⟩, hf, hs, k, x, e', S', by simp only [evC]; exact h1, h2⟩
  · intro h
    cases hm : mapO (leave H) (evs e args) with
    | none => rw [hm] at h; exact h.elim
    | some vs =>
      rw [hm] at h
      obtain ⟨v, ⟨k0, hk⟩, hf, hs, k, x, e', S', h1, h2⟩ := h
      refine ⟨max k k0, x, e', S', ?_, h2⟩
      have h3 := callV_up (Nat.le_max_right k k0) hk
      have h4 : evOper (callV funs (max k k0)) ⟨t, .calls g args, none⟩ e (H :: S) = some (.go (putD e t v) (H :: S)) := by
        simp only [evOper, guardA, hm, hf, cond_true, h3, hs]
      have h5 := evC_up (Nat.le_max_left k k0) h1
      simp only [evC] at h5
      simp only [evC, evOps, h4]
      exact h5
abbrev CallsIs (funs : Nat → Option IFun) (g : Nat) (vs : List AV) (v : AV) : Prop :=
  ∀ (Q : IX → Env → Stack → Prop) (cs : List Fr) (d : Bool) (dr : List Nat) (l : List IOper) (e : Env) (S : Stack) (t : Option Nat),
    RunS funs Q cs d dr l e S t g (some vs) = RunO funs Q cs d dr l (putD e t v) S
theorem Gives.uniq {g : Nat} {vs : List AV} {v w : AV} (h1 : Gives funs g vs v) (h2 : Gives funs g vs w) : v = w := by
  obtain ⟨k, hk⟩ := h1
  obtain ⟨k2, hk2⟩ := h2
  have a := callV_up (Nat.le_max_left k k2) hk
  have b := callV_up (Nat.le_max_right k k2) hk2
  rw [a] at b
  cases b; rfl
theorem Gives.iss {g : Nat} {vs : List AV} {v : AV} (hc : Gives funs g vs v) (hf : hfrees vs = true) (hv : scal v = true) : CallsIs funs g vs v := by
  intro Q cs d dr l e S t
  refine propext ⟨?_, fun h => ⟨v, hc, hf, hv, h⟩⟩
  rintro ⟨w, h1, _, _, h2⟩
  rw [← hc.uniq h1] at h2
  exact h2
end

/-! ### Loops -/
/-- Behind a round. -/
def Rnd (N : Env → Stack → Prop) (R : IX → Env → Stack → Prop) : IX → Env → Stack → Prop
  | .normal, e, S => N e S
  | x, e, S => R x e S
theorem Rnd_normal {N : Env → Stack → Prop} {R : IX → Env → Stack → Prop} {e : Env} {S : Stack} : Rnd N R .normal e S = N e S := rfl
theorem Rnd_exit {N : Env → Stack → Prop} {R : IX → Env → Stack → Prop} {j : Nat} {e : Env} {S : Stack} : Rnd N R (.exit j) e S = R (.exit j) e S := rfl
theorem Rnd_ret {N : Env → Stack → Prop} {R : IX → Env → Stack → Prop} {e : Env} {S : Stack} : Rnd N R .ret e S = R .ret e S := rfl
theorem Rnd_panic {N : Env → Stack → Prop} {R : IX → Env → Stack → Prop} {v : AV} {e : Env} {S : Stack} : Rnd N R (.panic v) e S = R (.panic v) e S := rfl
/-- The next state of a loop. -/
def Next {σ : Type} (E : σ → Env) (T : σ → Stack) (P : σ → Prop) (m : σ → Nat) (n : Nat) (e : Env) (S : Stack) : Prop := ∃ s, P s ∧ m s < n ∧ e = E s ∧ S = T s
theorem Next.i {σ : Type} {E : σ → Env} {T : σ → Stack} {P : σ → Prop} {m : σ → Nat} {n : Nat} {e : Env} {S : Stack} (s : σ) (he : e = E s) (hS : S = T s) (hP : P s) (hm : m s < n) : Next E T P m n e S := ⟨s, hP, hm, he, hS⟩
theorem Run_loop {σ : Type} (E : σ → Env) (T : σ → Stack) (P : σ → Prop) (m : σ → Nat) {b : IC} {cs : List Fr} {e : Env} {S : Stack} (s : σ) (he : e = E s) (hS : S = T s) (hP : P s)
    (hr : ∀ s, P s → Run funs (Rnd (Next E T P m (m s)) (Run funs Q cs)) [.c b] .normal (E s) (T s)) : Run funs Q (.c (.loop b) :: cs) .normal e S := by
  subst he hS
  refine Ev.loop (fun n e S => ∃ s, P s ∧ n = m s ∧ e = E s ∧ S = T s) ?_ (m s) ⟨s, hP, rfl, rfl, rfl⟩
  rintro n e S ⟨s, hP, rfl, rfl, rfl⟩
  refine Ev.mono (hr s hP).unrun ?_
  intro x e' S' h
  cases x with
  | normal =>
    obtain ⟨s', h1, h2, h3, h4⟩ := h
    exact ⟨m s', h2, s', h1, rfl, h3, h4⟩
  | _ => exact h
def Nx (a : Prop) (e e' : Env) (S S' : Stack) (P : Prop) : Prop := a ∧ e = e' ∧ S = S' ∧ P
theorem Nx.i {a : Prop} {e e' : Env} {S S' : Stack} {P : Prop} (h1 : a) (h2 : e = e') (h3 : S = S') (h4 : P) : Nx a e e' S S' P := ⟨h1, h2, h3, h4⟩
/-- Over the numbers below N. -/
theorem Run_upto (N : Nat) (E : Nat → Env) (T : Nat → Stack) (P : Nat → Prop) {b : IC} {cs : List Fr} {e : Env} {S : Stack} (he : e = E 0) (hS : S = T 0) (hP : P 0)
    (hr : ∀ i, i ≤ N → P i → Run funs (Rnd (fun e S => Nx (i < N) e (E (i + 1)) S (T (i + 1)) (P (i + 1))) (Run funs Q cs)) [.c b] .normal (E i) (T i)) : Run funs Q (.c (.loop b) :: cs) .normal e S := by
  refine Run_loop E T (fun i => i ≤ N ∧ P i) (fun i => N - i) 0 he hS ⟨Nat.zero_le _, hP⟩ ?_
  intro i hi
  refine Ev.mono (hr i hi.1 hi.2).unrun ?_
  intro x e' S' h
  cases x with
  | normal =>
    obtain ⟨h1, h2, h3, h4⟩ := h
    exact ⟨i + 1, ⟨h1, h4⟩, by show N - (i + 1) < N - i; omega, h2, h3⟩
  | _ => exact h

/-- A function that runs in a memory of its own. -/
theorem Gives.by {g : Nat} {fn : IFun} {args args' : List AV} {v : AV} (hf : funs g = some fn) (hs : fn.shared = false) (hn : Nat.beq args'.length fn.nargs = true) (hu : mapO upf args = some args')
    (h : Run funs (fun x e' S' => (x = .normal ∨ x = .ret) ∧ ∃ H' r, S' = [H'] ∧ resultsA e' [H'] fn.results = some r ∧ leave H' r = some v) [.c fn.body] .normal (Env.ofArgs 0 args') [[]]) (hnn : fn.nat = none := by rfl) : Gives funs g args v :=
  Gives.intro hf hs hn hu h.unrun hnn
end
end Go.AS

/-
  Typed values, and what operations answer at them. By an AI agent.
-/
namespace Go.AS
open Go

section
variable {funs : Nat → Option IFun} {Q : IX → Env → Stack → Prop} {cs : List Fr} {d : Bool} {dr : List Nat} {l : List IOper} {e : Env} {S : Stack} {t : Option Nat}
theorem RunO_mv (x : Opd) {H : Heap} : RunO funs Q cs d dr (⟨t, .mv x, none⟩ :: l) e (H :: S) = RunV funs Q cs d dr l e S t (opV H (.mv (.c (x.ev e)))) := RunO_op rfl
theorem RunO_pick (c a b : Opd) {H : Heap} : RunO funs Q cs d dr (⟨t, .pick c a b, none⟩ :: l) e (H :: S) = RunV funs Q cs d dr l e S t (opV H (.pick (.c (c.ev e)) (.c (a.ev e)) (.c (b.ev e)))) := RunO_op rfl
theorem RunO_box (n : Nat) (x : Opd) {H : Heap} : RunO funs Q cs d dr (⟨t, .box n x, none⟩ :: l) e (H :: S) = RunV funs Q cs d dr l e S t (opV H (.box n (.c (x.ev e)))) := RunO_op rfl
theorem RunO_load (n : Option Nat) (x : Opd) {H : Heap} : RunO funs Q cs d dr (⟨t, .load n x, none⟩ :: l) e (H :: S) = RunV funs Q cs d dr l e S t (opV H (.load n (.c (x.ev e)))) := RunO_op rfl
theorem RunO_store (n : Nat) (a x : Opd) {H : Heap} : RunO funs Q cs d dr (⟨t, .store n a x, none⟩ :: l) e (H :: S) = RunV funs Q cs d dr l e S t (opV H (.store n (.c (a.ev e)) (.c (x.ev e)))) := RunO_op rfl
theorem RunO_nilck (x : Opd) {H : Heap} : RunO funs Q cs d dr (⟨t, .nilck x, none⟩ :: l) e (H :: S) = RunV funs Q cs d dr l e S t (opV H (.nilck (.c (x.ev e)))) := RunO_op rfl
theorem RunO_bin (op : BinOp) (x y : Opd) {H : Heap} : RunO funs Q cs d dr (⟨t, .bin op x y, none⟩ :: l) e (H :: S) = RunV funs Q cs d dr l e S t (opV H (.bin op (.c (x.ev e)) (.c (y.ev e)))) := RunO_op rfl
theorem RunO_eqb (ng : Bool) (x y : Opd) {H : Heap} : RunO funs Q cs d dr (⟨t, .eqb ng x y, none⟩ :: l) e (H :: S) = RunV funs Q cs d dr l e S t (opV H (.eqb ng (.c (x.ev e)) (.c (y.ev e)))) := RunO_op rfl
theorem RunO_eqn (k : Nat) (ng : Bool) (x y : Opd) {H : Heap} : RunO funs Q cs d dr (⟨t, .eqn k ng x y, none⟩ :: l) e (H :: S) = RunV funs Q cs d dr l e S t (opV H (.eqn k ng (.c (x.ev e)) (.c (y.ev e)))) := RunO_op rfl
theorem RunO_eqa (ng : Bool) (o : List (Nat × Nat)) (x y : Opd) {H : Heap} : RunO funs Q cs d dr (⟨t, .eqa ng o x y, none⟩ :: l) e (H :: S) = RunV funs Q cs d dr l e S t (opV H (.eqa ng o (.c (x.ev e)) (.c (y.ev e)))) := RunO_op rfl
theorem RunO_neg (x : Opd) {H : Heap} : RunO funs Q cs d dr (⟨t, .neg x, none⟩ :: l) e (H :: S) = RunV funs Q cs d dr l e S t (opV H (.neg (.c (x.ev e)))) := RunO_op rfl
theorem RunO_inv (x : Opd) {H : Heap} : RunO funs Q cs d dr (⟨t, .inv x, none⟩ :: l) e (H :: S) = RunV funs Q cs d dr l e S t (opV H (.inv (.c (x.ev e)))) := RunO_op rfl
theorem RunO_not (x : Opd) {H : Heap} : RunO funs Q cs d dr (⟨t, .not x, none⟩ :: l) e (H :: S) = RunV funs Q cs d dr l e S t (opV H (.not (.c (x.ev e)))) := RunO_op rfl
theorem RunO_conv (k : IntKind) (x : Opd) {H : Heap} : RunO funs Q cs d dr (⟨t, .conv k x, none⟩ :: l) e (H :: S) = RunV funs Q cs d dr l e S t (opV H (.conv k (.c (x.ev e)))) := RunO_op rfl
theorem RunO_bytes (x : Opd) {H : Heap} : RunO funs Q cs d dr (⟨t, .bytes x, none⟩ :: l) e (H :: S) = RunV funs Q cs d dr l e S t (opV H (.bytes (.c (x.ev e)))) := RunO_op rfl
theorem RunO_text (x : Opd) {H : Heap} : RunO funs Q cs d dr (⟨t, .text x, none⟩ :: l) e (H :: S) = RunV funs Q cs d dr l e S t (opV H (.text (.c (x.ev e)))) := RunO_op rfl
theorem RunO_mvs (x : Opd) {H : Heap} : RunO funs Q cs d dr (⟨t, .mvs x, none⟩ :: l) e (H :: S) = RunV funs Q cs d dr l e S t (opV H (.mvs (.c (x.ev e)))) := RunO_op rfl
theorem RunO_mkif (ti : TypeId) (x : Opd) {H : Heap} : RunO funs Q cs d dr (⟨t, .mkif ti x, none⟩ :: l) e (H :: S) = RunV funs Q cs d dr l e S t (opV H (.mkif ti (.c (x.ev e)))) := RunO_op rfl
theorem RunO_mksl (es b : Nat) (z : List AV) (n c : Opd) {H : Heap} : RunO funs Q cs d dr (⟨t, .mksl es b z n c, none⟩ :: l) e (H :: S) = RunV funs Q cs d dr l e S t (opV H (.mksl es b z (.c (n.ev e)) (.c (c.ev e)))) := RunO_op rfl
theorem RunO_sub (es : Nat) (x : Opd) (lo hi mx : Option Opd) {H : Heap} : RunO funs Q cs d dr (⟨t, .sub es x lo hi mx, none⟩ :: l) e (H :: S) = RunV funs Q cs d dr l e S t (opV H (.sub es (.c (x.ev e)) (lo.map fun o => .c (o.ev e)) (hi.map fun o => .c (o.ev e)) (mx.map fun o => .c (o.ev e)))) := RunO_op rfl
theorem RunO_subs (x : Opd) (lo hi : Option Opd) {H : Heap} : RunO funs Q cs d dr (⟨t, .subs x lo hi, none⟩ :: l) e (H :: S) = RunV funs Q cs d dr l e S t (opV H (.subs (.c (x.ev e)) (lo.map fun o => .c (o.ev e)) (hi.map fun o => .c (o.ev e)))) := RunO_op rfl
theorem RunO_suba (n es : Nat) (x : Opd) (lo hi mx : Option Opd) {H : Heap} : RunO funs Q cs d dr (⟨t, .suba n es x lo hi mx, none⟩ :: l) e (H :: S) = RunV funs Q cs d dr l e S t (opV H (.suba n es (.c (x.ev e)) (lo.map fun o => .c (o.ev e)) (hi.map fun o => .c (o.ev e)) (mx.map fun o => .c (o.ev e)))) := RunO_op rfl
theorem RunO_faddr (o : Nat) (x : Opd) {H : Heap} : RunO funs Q cs d dr (⟨t, .faddr o x, none⟩ :: l) e (H :: S) = RunV funs Q cs d dr l e S t (opV H (.faddr o (.c (x.ev e)))) := RunO_op rfl
theorem RunO_fld (o : Nat) (n : Option Nat) (x : Opd) {H : Heap} : RunO funs Q cs d dr (⟨t, .fld o n x, none⟩ :: l) e (H :: S) = RunV funs Q cs d dr l e S t (opV H (.fld o n (.c (x.ev e)))) := RunO_op rfl
theorem RunO_ixa (es : Nat) (x i : Opd) {H : Heap} : RunO funs Q cs d dr (⟨t, .ixa es x i, none⟩ :: l) e (H :: S) = RunV funs Q cs d dr l e S t (opV H (.ixa es (.c (x.ev e)) (.c (i.ev e)))) := RunO_op rfl
theorem RunO_ixaa (n es : Nat) (x i : Opd) {H : Heap} : RunO funs Q cs d dr (⟨t, .ixaa n es x i, none⟩ :: l) e (H :: S) = RunV funs Q cs d dr l e S t (opV H (.ixaa n es (.c (x.ev e)) (.c (i.ev e)))) := RunO_op rfl
theorem RunO_ixs (x i : Opd) {H : Heap} : RunO funs Q cs d dr (⟨t, .ixs x i, none⟩ :: l) e (H :: S) = RunV funs Q cs d dr l e S t (opV H (.ixs (.c (x.ev e)) (.c (i.ev e)))) := RunO_op rfl
theorem RunO_ixv (n es : Nat) (g : Bool) (x i : Opd) {H : Heap} : RunO funs Q cs d dr (⟨t, .ixv n es g x i, none⟩ :: l) e (H :: S) = RunV funs Q cs d dr l e S t (opV H (.ixv n es g (.c (x.ev e)) (.c (i.ev e)))) := RunO_op rfl
theorem RunO_look (kk : Nat) (z : AV) (ok : Bool) (m k : Opd) {H : Heap} : RunO funs Q cs d dr (⟨t, .look kk z ok m k, none⟩ :: l) e (H :: S) = RunV funs Q cs d dr l e S t (opV H (.look kk z ok (.c (m.ev e)) (.c (k.ev e)))) := RunO_op rfl
theorem RunO_mapup (kk : Nat) (m k v : Opd) {H : Heap} : RunO funs Q cs d dr (⟨t, .mapup kk m k v, none⟩ :: l) e (H :: S) = RunV funs Q cs d dr l e S t (opV H (.mapup kk (.c (m.ev e)) (.c (k.ev e)) (.c (v.ev e)))) := RunO_op rfl
theorem RunO_extr (x : Opd) (i : Nat) {H : Heap} : RunO funs Q cs d dr (⟨t, .extr x i, none⟩ :: l) e (H :: S) = RunV funs Q cs d dr l e S t (opV H (.extr (.c (x.ev e)) i)) := RunO_op rfl
theorem RunO_len (x : Opd) {H : Heap} : RunO funs Q cs d dr (⟨t, .len x, none⟩ :: l) e (H :: S) = RunV funs Q cs d dr l e S t (opV H (.len (.c (x.ev e)))) := RunO_op rfl
theorem RunO_lens (x : Opd) {H : Heap} : RunO funs Q cs d dr (⟨t, .lens x, none⟩ :: l) e (H :: S) = RunV funs Q cs d dr l e S t (opV H (.lens (.c (x.ev e)))) := RunO_op rfl
theorem RunO_lenm (x : Opd) {H : Heap} : RunO funs Q cs d dr (⟨t, .lenm x, none⟩ :: l) e (H :: S) = RunV funs Q cs d dr l e S t (opV H (.lenm (.c (x.ev e)))) := RunO_op rfl
theorem RunO_cap (x : Opd) {H : Heap} : RunO funs Q cs d dr (⟨t, .cap x, none⟩ :: l) e (H :: S) = RunV funs Q cs d dr l e S t (opV H (.cap (.c (x.ev e)))) := RunO_op rfl
theorem RunO_append (es b : Nat) (s x : Opd) {H : Heap} : RunO funs Q cs d dr (⟨t, .append es b s x, none⟩ :: l) e (H :: S) = RunV funs Q cs d dr l e S t (opV H (.append es b (.c (s.ev e)) (.c (x.ev e)))) := RunO_op rfl
theorem RunO_appi (es b : Nat) (s x : Opd) {H : Heap} : RunO funs Q cs d dr (⟨t, .appi es b s x, none⟩ :: l) e (H :: S) = RunV funs Q cs d dr l e S t (opV H (.appi es b (.c (s.ev e)) (.c (x.ev e)))) := RunO_op rfl
theorem RunO_appz (es b : Nat) (z : List AV) (s x : Opd) {H : Heap} : RunO funs Q cs d dr (⟨t, .appz es b z s x, none⟩ :: l) e (H :: S) = RunV funs Q cs d dr l e S t (opV H (.appz es b z (.c (s.ev e)) (.c (x.ev e)))) := RunO_op rfl
theorem RunO_diff (x y : Opd) {H : Heap} : RunO funs Q cs d dr (⟨t, .diff x y, none⟩ :: l) e (H :: S) = RunV funs Q cs d dr l e S t (opV H (.diff (.c (x.ev e)) (.c (y.ev e)))) := RunO_op rfl
theorem RunO_cmps (x y : Opd) {H : Heap} : RunO funs Q cs d dr (⟨t, .cmps x y, none⟩ :: l) e (H :: S) = RunV funs Q cs d dr l e S t (opV H (.cmps (.c (x.ev e)) (.c (y.ev e)))) := RunO_op rfl
theorem RunO_copy (es : Nat) (a s : Opd) {H : Heap} : RunO funs Q cs d dr (⟨t, .copy es a s, none⟩ :: l) e (H :: S) = RunV funs Q cs d dr l e S t (opV H (.copy es (.c (a.ev e)) (.c (s.ev e)))) := RunO_op rfl
theorem RunO_clearm (m : Opd) {H : Heap} : RunO funs Q cs d dr (⟨t, .clearm m, none⟩ :: l) e (H :: S) = RunV funs Q cs d dr l e S t (opV H (.clearm (.c (m.ev e)))) := RunO_op rfl
theorem RunO_clears (es : Nat) (z : List AV) (s : Opd) {H : Heap} : RunO funs Q cs d dr (⟨t, .clears es z s, none⟩ :: l) e (H :: S) = RunV funs Q cs d dr l e S t (opV H (.clears es z (.c (s.ev e)))) := RunO_op rfl
theorem RunO_del (kk : Nat) (m k : Opd) {H : Heap} : RunO funs Q cs d dr (⟨t, .del kk m k, none⟩ :: l) e (H :: S) = RunV funs Q cs d dr l e S t (opV H (.del kk (.c (m.ev e)) (.c (k.ev e)))) := RunO_op rfl
theorem RunO_minmax (mx : Bool) (xs : List Opd) {H : Heap} : RunO funs Q cs d dr (⟨t, .minmax mx xs, none⟩ :: l) e (H :: S) = RunV funs Q cs d dr l e S t (opV H (.minmax mx ((evs e xs).map .c))) := RunO_op rfl
theorem RunO_build (z : List AV) (ps : List (Nat × Nat × Opd)) {H : Heap} : RunO funs Q cs d dr (⟨t, .build z ps, none⟩ :: l) e (H :: S) = RunV funs Q cs d dr l e S t (opV H (.build z (ps.map fun p => (p.1, p.2.1, .c (p.2.2.ev e))))) := RunO_op rfl
theorem RunO_bsl (mt : Bool) (es n : Nat) (z : List AV) (ps : List (Nat × Nat × Opd)) {H : Heap} : RunO funs Q cs d dr (⟨t, .bsl mt es n z ps, none⟩ :: l) e (H :: S) = RunV funs Q cs d dr l e S t (opV H (.bsl mt es n z (ps.map fun p => (p.1, p.2.1, .c (p.2.2.ev e))))) := RunO_op rfl
theorem RunO_mkfn (fn : Fn) (fi ca : List Opd) {H : Heap} : RunO funs Q cs d dr (⟨t, .mkfn fn fi ca, none⟩ :: l) e (H :: S) = RunV funs Q cs d dr l e S t (opV H (.mkfn fn ((evs e fi).map .c) ((evs e ca).map .c))) := RunO_op rfl
theorem RunO_ment (kk : Nat) (z : AV) (m k : Opd) {H : Heap} : RunO funs Q cs d dr (⟨t, .ment kk z m k, none⟩ :: l) e (H :: S) = RunV funs Q cs d dr l e S t (opV H (.ment kk z (.c (m.ev e)) (.c (k.ev e)))) := RunO_op rfl
theorem RunO_mentst (m s v : Opd) {H : Heap} : RunO funs Q cs d dr (⟨t, .mentst m s v, none⟩ :: l) e (H :: S) = RunV funs Q cs d dr l e S t (opV H (.mentst (.c (m.ev e)) (.c (s.ev e)) (.c (v.ev e)))) := RunO_op rfl
theorem RunO_alloc (z : List AV) {H : Heap} : RunO funs Q cs d dr (⟨t, .alloc z, none⟩ :: l) e (H :: S) = RunV funs Q cs d dr l e S t (opV H (.alloc z)) := RunO_op rfl
theorem RunO_slots (k : Nat) {H : Heap} : RunO funs Q cs d dr (⟨t, .slots k, none⟩ :: l) e (H :: S) = RunV funs Q cs d dr l e S t (opV H (.slots k)) := RunO_op rfl
theorem RunO_allocA (dd : Nat) (z : List AV) {H : Heap} : RunO funs Q cs d dr (⟨t, .allocA dd z, none⟩ :: l) e (H :: S) = RunV funs Q cs d dr l e S t (opV H (.allocA dd z)) := RunO_op rfl
theorem RunO_newb {t1 el : Nat} {H : Heap} : RunO funs Q cs d dr (⟨t, .newb t1 el, none⟩ :: l) e (H :: S) = RunV funs Q cs d dr l e S t (opV H (.newb t1 el)) := RunO_op rfl
theorem RunO_mkmap  {H : Heap} : RunO funs Q cs d dr (⟨t, .mkmap , none⟩ :: l) e (H :: S) = RunV funs Q cs d dr l e S t (opV H (.mkmap)) := RunO_op rfl
end

/-! ### Kinds of data, as cells -/
class Cel (α : Type) where
  n : Nat
  enc : α → List AV
  len : ∀ a, (enc a).length = n
  free : ∀ a, hfrees (enc a) = true
  canon : ∀ a, fgs (enc a) = enc a

/-- Of one cell. -/
class One (α : Type) where
  v : α → AV
  free : ∀ a, hfree (v a) = true
  canon : ∀ a, fg (v a) = v a
  one : ∀ a, cellsOf (v a) = some [v a]

instance (priority := 100) One.cel {α : Type} [One α] : Cel α where
  n := 1
  enc a := [One.v a]
  len _ := rfl
  free a := by simp [hfrees, One.free]
  canon a := by simp [fgs, One.canon]

abbrev Str := List UInt8
instance oneInt : One Int := ⟨fun x => .int .i64 x, fun _ => rfl, fun _ => rfl, fun _ => rfl⟩
instance oneU8 : One UInt8 := ⟨fun x => .int .u8 x.toNat, fun _ => rfl, fun _ => rfl, fun _ => rfl⟩
instance oneU64 : One UInt64 := ⟨fun x => .int .u64 x.toNat, fun _ => rfl, fun _ => rfl, fun _ => rfl⟩
instance oneBool : One Bool := ⟨fun x => .bool x, fun _ => rfl, fun _ => rfl, fun _ => rfl⟩
instance oneStr : One Str := ⟨fun x => .str x, fun _ => rfl, fun _ => rfl, fun _ => rfl⟩

section
variable {α : Type} [Cel α]

def cellsL (l : List α) : List AV := l.flatMap Cel.enc
theorem cellsL_nil : cellsL ([] : List α) = [] := rfl
theorem cellsL_cons (a : α) (l : List α) : cellsL (a :: l) = Cel.enc a ++ cellsL l := rfl
theorem cellsL_append (a b : List α) : cellsL (a ++ b) = cellsL a ++ cellsL b := by simp [cellsL]
theorem cellsL_length (l : List α) : (cellsL l).length = l.length * Cel.n α := by
  induction l with
  | nil => simp [cellsL]
  | cons a r ih => simp [cellsL_cons, ih, Cel.len, Nat.add_mul]; omega
theorem hfrees_append (a b : List AV) : hfrees (a ++ b) = (hfrees a && hfrees b) := by
  induction a with
  | nil => rfl
  | cons x r ih => simp [hfrees, ih, Bool.and_assoc]
theorem fgs_append (a b : List AV) : fgs (a ++ b) = fgs a ++ fgs b := by
  induction a with
  | nil => rfl
  | cons x r ih => simp [fgs, ih]
theorem hfrees_cellsL (l : List α) : hfrees (cellsL l) = true := by
  induction l with
  | nil => rfl
  | cons a r ih => simp [cellsL_cons, hfrees_append, ih, Cel.free]
theorem fgs_cellsL (l : List α) : fgs (cellsL l) = cellsL l := by
  induction l with
  | nil => rfl
  | cons a r ih => simp [cellsL_cons, fgs_append, ih, Cel.canon]
theorem cellsL_at : ∀ (l : List α) (i : Nat) (h : i < l.length), ((cellsL l).drop (i * Cel.n α)).take (Cel.n α) = Cel.enc l[i]
  | a :: r, 0, _ => by simp [cellsL_cons, ← Cel.len a]
  | a :: r, i + 1, h => by
    have : (i + 1) * Cel.n α = (Cel.enc a).length + i * Cel.n α := by rw [Cel.len, Nat.add_mul]; omega
    rw [cellsL_cons, this, ← List.drop_drop, List.drop_left, cellsL_at r i (by simpa using h)]
    rfl
theorem cellsL_drop (l : List α) (i : Nat) : (cellsL l).drop (i * Cel.n α) = cellsL (l.drop i) := by
  induction l generalizing i with
  | nil => simp [cellsL]
  | cons a r ih =>
    cases i with
    | zero => simp
    | succ i =>
      have : (i + 1) * Cel.n α = (Cel.enc a).length + i * Cel.n α := by rw [Cel.len, Nat.add_mul]; omega
      rw [cellsL_cons, this, ← List.drop_drop, List.drop_left, ih]; rfl
theorem cellsL_take (l : List α) (i : Nat) : (cellsL l).take (i * Cel.n α) = cellsL (l.take i) := by
  induction l generalizing i with
  | nil => simp [cellsL]
  | cons a r ih =>
    cases i with
    | zero => simp [cellsL]
    | succ i =>
      have : (i + 1) * Cel.n α = (Cel.enc a).length + i * Cel.n α := by rw [Cel.len, Nat.add_mul]; omega
      rw [cellsL_cons, this, List.take_length_add_append, ih]; rfl

/-- A slice that nobody writes. -/
def sl (nl : Bool) (l : List α) : AV := imm0 nl (Cel.n α) l.length none (cellsL l)
theorem sl_free (nl : Bool) (l : List α) : hfree (sl nl l) = true := hfrees_cellsL l
theorem sl_canon (nl : Bool) (l : List α) : fg (sl nl l) = sl nl l := by
  unfold sl imm0
  cases l with
  | nil => rfl
  | cons a r =>
    have : Nat.beq (a :: r).length 0 = false := rfl
    rw [this]
    simp only [cond_false, fg, this, fgs_cellsL]
/-- A place in it. -/
def elp (l : List α) (i : Nat) : AV := .iptr (cellsL l) (i * Cel.n α)
/-- A field's place in it. -/
def flp (l : List α) (i off : Nat) : AV := .iptr (cellsL l) (i * Cel.n α + off)
end

structure Sl (α : Type) where
  nil : Bool
  l : List α
instance oneSl {α : Type} [Cel α] : One (Sl α) := ⟨fun s => sl s.nil s.l, fun _ => sl_free _ _, fun _ => sl_canon _ _, fun s => by unfold sl imm0; rfl⟩

/-! ### Operations at known operands -/
section
variable {H : Heap}

theorem opV_mv {v : AV} : opV H (.mv (.c v)) = some (v, H) := rfl
theorem opV_nilck_iptr {a : List AV} {b : Nat} : opV H (.nilck (.c (.iptr a b))) = some (.iptr a b, H) := rfl
theorem opV_nilck_ptr {a b c : Nat} : opV H (.nilck (.c (.ptr a b c))) = some (.ptr a b c, H) := rfl
theorem opV_pick {t : Bool} {a b : AV} : opV H (.pick (.c (.bool t)) (.c a) (.c b)) = some (bif t then a else b, H) := rfl
theorem opV_pick_and {p q : Prop} [Decidable p] [Decidable q] : opV H (.pick (.c (.bool (decide p))) (.c (.bool (decide q))) (.c (.bool false))) = some (.bool (decide (p ∧ q)), H) := by
  by_cases h : p <;> simp [opV, evOp, Opd.ev, ok, h]
theorem opV_pick_or {p q : Prop} [Decidable p] [Decidable q] : opV H (.pick (.c (.bool (decide p))) (.c (.bool true)) (.c (.bool (decide q)))) = some (.bool (decide (p ∨ q)), H) := by
  by_cases h : p <;> simp [opV, evOp, Opd.ev, ok, h]
theorem opV_diff {i a b j c d : Nat} : opV H (.diff (.c (.ptr i a b)) (.c (.ptr j c d))) = bif Nat.beq i j then none else some (.undef, H) := rfl
theorem opV_diffi {r : List AV} {o j c d : Nat} : opV H (.diff (.c (.iptr r o)) (.c (.ptr j c d))) = some (.undef, H) := rfl
theorem opV_not {b : Bool} : opV H (.not (.c (.bool b))) = some (.bool (!b), H) := rfl
theorem opV_extr {vs : List AV} {i : Nat} : opV H (.extr (.c (.tuple vs)) i) = (vs[i]?).map (·, H) := rfl
theorem opV_newb {t el : Nat} : opV H (.newb t el) = some (.ptr H.length 0 0, H ++ [.bld t el []]) := rfl
theorem opV_mkmap : opV H .mkmap = some (.map H.length, H ++ [.map [] 0]) := rfl
theorem opV_alloc {z : List AV} : opV H (.alloc z) = some (.ptr H.length z.length 0, H ++ [.cells z]) := rfl
theorem opV_mkif {t : TypeId} {v : AV} : opV H (.mkif t (.c v)) = some (.iface t v, H) := rfl
theorem opV_mkfn {fn : Fn} {fi ca : List AV} : opV H (.mkfn fn (fi.map .c) (ca.map .c)) = some (.func fn fi ca, H) := by
  simp only [opV, evOp, evs_c, ok]

theorem ikEq_self (k : IntKind) : ikEq k k = true := by cases k <;> rfl
theorem opV_add {k : IntKind} {a b : Int} : opV H (.bin .add (.c (.int k a)) (.c (.int k b))) = some (.int k (k.wrap (a + b)), H) := by simp [opV, evOp, Opd.ev, binA, ikEq_self]
theorem opV_minus {k : IntKind} {a b : Int} : opV H (.bin .sub (.c (.int k a)) (.c (.int k b))) = some (.int k (k.wrap (a - b)), H) := by simp [opV, evOp, Opd.ev, binA, ikEq_self]
theorem opV_mul {k : IntKind} {a b : Int} : opV H (.bin .mul (.c (.int k a)) (.c (.int k b))) = some (.int k (k.wrap (a * b)), H) := by simp [opV, evOp, Opd.ev, binA, ikEq_self]
theorem opV_quo {k : IntKind} {a b : Int} (h : b ≠ 0) : opV H (.bin .quo (.c (.int k a)) (.c (.int k b))) = some (.int k (k.wrap (a.tdiv b)), H) := by
  have h2 : (b == 0) = false := by simpa using h
  simp [opV, evOp, Opd.ev, binA, ikEq_self, h2]
theorem opV_rem {k : IntKind} {a b : Int} (h : b ≠ 0) : opV H (.bin .rem (.c (.int k a)) (.c (.int k b))) = some (.int k (a.tmod b), H) := by
  have h2 : (b == 0) = false := by simpa using h
  simp [opV, evOp, Opd.ev, binA, ikEq_self, h2]
theorem opV_eql {k : IntKind} {a b : Int} : opV H (.bin .eql (.c (.int k a)) (.c (.int k b))) = some (.bool (decide (a = b)), H) := by simp [opV, evOp, Opd.ev, binA, ikEq_self]; rfl
theorem opV_neq {k : IntKind} {a b : Int} : opV H (.bin .neq (.c (.int k a)) (.c (.int k b))) = some (.bool (decide (¬ a = b)), H) := by
  have : (a != b) = decide (¬ a = b) := by by_cases h : a = b <;> simp [h]
  simp [opV, evOp, Opd.ev, binA, ikEq_self, this]
theorem opV_lss {k : IntKind} {a b : Int} : opV H (.bin .lss (.c (.int k a)) (.c (.int k b))) = some (.bool (decide (a < b)), H) := by simp [opV, evOp, Opd.ev, binA, ikEq_self]
theorem opV_leq {k : IntKind} {a b : Int} : opV H (.bin .leq (.c (.int k a)) (.c (.int k b))) = some (.bool (decide (a ≤ b)), H) := by simp [opV, evOp, Opd.ev, binA, ikEq_self]
theorem opV_gtr {k : IntKind} {a b : Int} : opV H (.bin .gtr (.c (.int k a)) (.c (.int k b))) = some (.bool (decide (b < a)), H) := by simp [opV, evOp, Opd.ev, binA, ikEq_self]
theorem opV_geq {k : IntKind} {a b : Int} : opV H (.bin .geq (.c (.int k a)) (.c (.int k b))) = some (.bool (decide (b ≤ a)), H) := by simp [opV, evOp, Opd.ev, binA, ikEq_self]
theorem opV_shl {k k' : IntKind} {a b : Int} (h : 0 ≤ b) : opV H (.bin .shl (.c (.int k a)) (.c (.int k' b))) = some (.int k (k.wrap (a * 2 ^ (min b.toNat k.bits))), H) := by
  have : decide (b < 0) = false := by simp; omega
  simp [opV, evOp, Opd.ev, binA, this]
theorem opV_shr {k k' : IntKind} {a b : Int} (h : 0 ≤ b) : opV H (.bin .shr (.c (.int k a)) (.c (.int k' b))) = some (.int k (a.fdiv (2 ^ (min b.toNat k.bits))), H) := by
  have : decide (b < 0) = false := by simp; omega
  simp [opV, evOp, Opd.ev, binA, this]
theorem opV_xor {k : IntKind} {a b : Int} : opV H (.bin .xor (.c (.int k a)) (.c (.int k b))) = some (.int k (bitop .xor k a b), H) := by simp [opV, evOp, Opd.ev, binA, ikEq_self]
theorem opV_and {k : IntKind} {a b : Int} : opV H (.bin .and (.c (.int k a)) (.c (.int k b))) = some (.int k (bitop .and k a b), H) := by simp [opV, evOp, Opd.ev, binA, ikEq_self]
theorem opV_or {k : IntKind} {a b : Int} : opV H (.bin .or (.c (.int k a)) (.c (.int k b))) = some (.int k (bitop .or k a b), H) := by simp [opV, evOp, Opd.ev, binA, ikEq_self]
theorem opV_adds {a b : Str} (h : a.length + b.length ≤ 9223372036854775807) : opV H (.bin .add (.c (.str a)) (.c (.str b))) = some (.str (a ++ b), H) := by
  have : Nat.ble (a.length + b.length) 9223372036854775807 = true := Nat.ble_eq_true_of_le h
  simp only [opV, evOp, Opd.ev, binA, this, cond_true, Option.map_some]
theorem opV_eqls {a b : Str} : opV H (.bin .eql (.c (.str a)) (.c (.str b))) = some (.bool (decide (a = b)), H) := by
  have : (a == b) = decide (a = b) := by by_cases h : a = b <;> simp [h]
  simp [opV, evOp, Opd.ev, binA, this]
theorem opV_neqs {a b : Str} : opV H (.bin .neq (.c (.str a)) (.c (.str b))) = some (.bool (decide (¬ a = b)), H) := by
  have : (a == b) = decide (a = b) := by by_cases h : a = b <;> simp [h]
  simp [opV, evOp, Opd.ev, binA, this]
def slt (a b : Str) : Prop := bytesLt a b = true
instance (a b : Str) : Decidable (slt a b) := by unfold slt; infer_instance
theorem opV_lsss {a b : Str} : opV H (.bin .lss (.c (.str a)) (.c (.str b))) = some (.bool (decide (slt a b)), H) := by cases h : bytesLt a b <;> simp [opV, evOp, Opd.ev, binA, slt, h]
theorem opV_geqs {a b : Str} : opV H (.bin .geq (.c (.str a)) (.c (.str b))) = some (.bool (decide (¬ slt a b)), H) := by cases h : bytesLt a b <;> simp [opV, evOp, Opd.ev, binA, slt, h]
theorem opV_leqs {a b : Str} : opV H (.bin .leq (.c (.str a)) (.c (.str b))) = some (.bool (decide (slt a b ∨ a = b)), H) := by
  have : (a == b) = decide (a = b) := by by_cases h : a = b <;> simp [h]
  cases h : bytesLt a b <;> simp [opV, evOp, Opd.ev, binA, slt, this, h]
theorem opV_gtrs {a b : Str} : opV H (.bin .gtr (.c (.str a)) (.c (.str b))) = some (.bool (decide (¬ (slt a b ∨ a = b))), H) := by
  have : (a == b) = decide (a = b) := by by_cases h : a = b <;> simp [h]
  cases h : bytesLt a b <;> simp [opV, evOp, Opd.ev, binA, slt, this, h]
theorem opV_eqb_f {a b : Bool} : opV H (.eqb false (.c (.bool a)) (.c (.bool b))) = some (.bool (decide (a = b)), H) := by cases a <;> cases b <;> rfl
theorem opV_eqb_t {a b : Bool} : opV H (.eqb true (.c (.bool a)) (.c (.bool b))) = some (.bool (decide (¬ a = b)), H) := by cases a <;> cases b <;> rfl
theorem opV_neg {k : IntKind} {a : Int} : opV H (.neg (.c (.int k a))) = some (.int k (k.wrap (0 - a)), H) := rfl
theorem opV_conv {k k' : IntKind} {a : Int} : opV H (.conv k (.c (.int k' a))) = some (.int k (k.wrap a), H) := rfl
theorem opV_mvs {s : Str} : opV H (.mvs (.c (.str s))) = some (.str s, H) := rfl
theorem opV_lens {s : Str} : opV H (.lens (.c (.str s))) = some (.int .i64 s.length, H) := rfl
theorem opV_max {k : IntKind} {a b : Int} : opV H (.minmax true [.c (.int k a), .c (.int k b)]) = some (.int k (max a b), H) := by
  have : (bif decide (a < b) then b else a) = max a b := by rw [Bool.cond_eq_ite]; split <;> simp_all <;> omega
  simp [opV, evOp, evs, Opd.ev, minmaxA, intsMM, ikEq_self, this]
theorem opV_min {k : IntKind} {a b : Int} : opV H (.minmax false [.c (.int k a), .c (.int k b)]) = some (.int k (min a b), H) := by
  have : (bif decide (b < a) then b else a) = min a b := by rw [Bool.cond_eq_ite]; split <;> simp_all <;> omega
  simp [opV, evOp, evs, Opd.ev, minmaxA, intsMM, ikEq_self, this]
theorem opV_ixs {s : Str} {k : IntKind} {j : Int} (h0 : 0 ≤ j) (h1 : j < s.length) : opV H (.ixs (.c (.str s)) (.c (.int k j))) = some (.int .u8 (s[j.toNat]'(by omega)).toNat, H) := by
  have h2 : j.toNat < s.length := by omega
  simp [opV, evOp, Opd.ev, h0, List.getElem?_eq_getElem h2, ok]
theorem opV_subs {s : Str} {k k' : IntKind} {a b : Int} (h0 : 0 ≤ a) (h1 : a ≤ b) (h2 : b ≤ s.length) : opV H (.subs (.c (.str s)) (some (.c (.int k a))) (some (.c (.int k' b)))) = some (.str ((s.drop a.toNat).take (b.toNat - a.toNat)), H) := by
  have c1 : decide (0 ≤ b) = true := by simp; omega
  have c2 : decide (b ≤ (s.length : Int)) = true := by simpa using h2
  have c3 : decide (0 ≤ a) = true := by simpa using h0
  have c4 : decide (a ≤ ((b.toNat : Nat) : Int)) = true := by simp; omega
  simp only [opV, evOp, Opd.ev, cut, cutHi, cutLo, bnd, c1, c2, c3, c4, Bool.and_self, cond_true, Option.map_some, ok]
theorem opV_subs_lo {s : Str} {k : IntKind} {a : Int} (h0 : 0 ≤ a) (h1 : a ≤ s.length) : opV H (.subs (.c (.str s)) (some (.c (.int k a))) none) = some (.str (s.drop a.toNat), H) := by
  have c3 : decide (0 ≤ a) = true := by simpa using h0
  have c4 : decide (a ≤ (s.length : Int)) = true := by simpa using h1
  simp only [opV, evOp, Opd.ev, cut, cutHi, cutLo, bnd, c3, c4, Bool.and_self, cond_true, Option.map_some, ok]
  rw [List.take_of_length_le (by simp)]
theorem opV_subs_hi {s : Str} {k : IntKind} {b : Int} (h1 : 0 ≤ b) (h2 : b ≤ s.length) : opV H (.subs (.c (.str s)) none (some (.c (.int k b)))) = some (.str (s.take b.toNat), H) := by
  have c3 : decide (0 ≤ b) = true := by simpa using h1
  have c4 : decide (b ≤ (s.length : Int)) = true := by simpa using h2
  simp only [opV, evOp, Opd.ev, cut, cutHi, cutLo, bnd, c3, c4, Bool.and_self, cond_true, Option.map_some, ok, List.drop_zero, Nat.sub_zero]

section
variable {α : Type}
theorem opV_len [Cel α] {nl : Bool} {l : List α} : opV H (.len (.c (sl nl l))) = some (.int .i64 l.length, H) := rfl
theorem opV_len_imm {nl : Bool} {es n : Nat} {c : Option Nat} {cs : List AV} : opV H (.len (.c (.imm nl es n c cs))) = some (.int .i64 n, H) := rfl
theorem opV_isnil [Cel α] {nl : Bool} {l : List α} : opV H (.eqn 1 false (.c (sl nl l)) (.c (.imm true 0 0 (some 0) []))) = some (.bool nl, H) := by
  unfold sl imm0; cases nl <;> rfl
theorem opV_notnil [Cel α] {nl : Bool} {l : List α} : opV H (.eqn 1 true (.c (sl nl l)) (.c (.imm true 0 0 (some 0) []))) = some (.bool (!nl), H) := by
  unfold sl imm0; cases nl <;> rfl
theorem opV_ixa [Cel α] {nl : Bool} {l : List α} {k : IntKind} {j : Int} {es : Nat} (h0 : 0 ≤ j) (h1 : j < l.length) (he : Nat.beq es (Cel.n α) = true) : opV H (.ixa es (.c (sl nl l)) (.c (.int k j))) = some (elp l j.toNat, H) := by
  have he := Nat.eq_of_beq_eq_true he
  subst he
  have h2 : Nat.beq l.length 0 = false := by
    cases l with
    | nil => simp at h1; omega
    | cons a r => rfl
  have c1 : decide (0 ≤ j) = true := by simpa using h0
  have c2 : decide (j < (l.length : Int)) = true := by simpa using h1
  have c3 : ∀ n, Nat.beq n n = true := fun n => by simp
  simp only [opV, evOp, Opd.ev, sl, imm0, h2, cond_false, c1, c2, c3, Bool.and_self, cond_true, ok, elp]
theorem opV_load [One α] {l : List α} {i : Nat} (h : i < l.length) : opV H (.load none (.c (elp l i))) = some (One.v l[i], H) := by
  have := cellsL_at l i h
  have h2 : (cellsL l)[i * Cel.n α]? = some (One.v l[i]) := by
    have h3 : (((cellsL l).drop (i * Cel.n α)).take (Cel.n α))[0]? = (Cel.enc l[i])[0]? := by rw [this]
    rw [List.getElem?_take, if_pos (by exact Nat.one_pos), List.getElem?_drop, Nat.add_zero] at h3
    exact h3
  simp only [opV, evOp, Opd.ev, elp, one, h2, Option.map_some]
theorem opV_loadn [Cel α] {l : List α} {i m : Nat} (h : i < l.length) (hm : Nat.beq m (Cel.n α) = true) : opV H (.load (some m) (.c (elp l i))) = some (.agg (Cel.enc l[i]), H) := by
  have hm := Nat.eq_of_beq_eq_true hm
  subst hm
  have h2 : Nat.ble (i * Cel.n α + Cel.n α) (cellsL l).length = true := by
    rw [cellsL_length]
    apply Nat.ble_eq_true_of_le
    have : (i + 1) * Cel.n α ≤ l.length * Cel.n α := Nat.mul_le_mul_right _ h
    rw [Nat.add_mul] at this; omega
  simp only [opV, evOp, Opd.ev, elp, one, h2, cond_true, Option.map_some, cellsL_at l i h]
theorem opV_faddr [Cel α] {l : List α} {i off : Nat} : opV H (.faddr off (.c (elp l i))) = some (flp l i off, H) := rfl
theorem opV_load_f [Cel α] {l : List α} {i off : Nat} (h : i < l.length) (ho : Nat.blt off (Cel.n α) = true) : opV H (.load none (.c (flp l i off))) = (one none (Cel.enc l[i]) off).map (·, H) := by
  have ho : off < Cel.n α := Nat.le_of_ble_eq_true ho
  have := cellsL_at l i h
  have h2 : (cellsL l)[i * Cel.n α + off]? = (Cel.enc l[i])[off]? := by
    rw [← this, List.getElem?_take, if_pos ho, List.getElem?_drop]
  simp only [opV, evOp, Opd.ev, flp, one, h2]
theorem opV_loadn_f [Cel α] {l : List α} {i off m : Nat} (h : i < l.length) (ho : Nat.ble (off + m) (Cel.n α) = true) : opV H (.load (some m) (.c (flp l i off))) = some (.agg (((Cel.enc l[i]).drop off).take m), H) := by
  have ho : off + m ≤ Cel.n α := Nat.le_of_ble_eq_true ho
  have h1 := cellsL_at l i h
  have h2 : Nat.ble (i * Cel.n α + off + m) (cellsL l).length = true := by
    rw [cellsL_length]
    apply Nat.ble_eq_true_of_le
    have : (i + 1) * Cel.n α ≤ l.length * Cel.n α := Nat.mul_le_mul_right _ h
    rw [Nat.add_mul] at this; omega
  have h3 : ((cellsL l).drop (i * Cel.n α + off)).take m = ((Cel.enc l[i]).drop off).take m := by
    rw [← h1, ← List.drop_drop, List.drop_take, List.take_take, Nat.min_eq_left (by omega)]
  simp only [opV, evOp, Opd.ev, flp, one, h2, cond_true, Option.map_some, h3]
theorem opV_fld {cs : List AV} {off : Nat} {m : Option Nat} : opV H (.fld off m (.c (.agg cs))) = (one m cs off).map (·, H) := rfl
theorem sub_sl [Cel α] {nl : Bool} {l : List α} {a b es : Nat} (he : es = Cel.n α) (h1 : a ≤ b) (h2 : b ≤ l.length) : imm0 nl es (b - a) none (((cellsL l).drop (a * es)).take ((b - a) * es)) = sl nl ((l.drop a).take (b - a)) := by
  subst he
  rw [cellsL_drop, cellsL_take]
  unfold sl
  rw [List.length_take, List.length_drop, Nat.min_eq_left (by omega)]
theorem sl_es [Cel α] {nl : Bool} {l : List α} : ∃ es, sl nl l = .imm nl es l.length none (cellsL l) ∧ (Nat.beq (Cel.n α) es || Nat.beq l.length 0) = true := by
  refine ⟨_, rfl, ?_⟩
  cases h : Nat.beq l.length 0 <;> simp
theorem opV_sub [Cel α] {nl : Bool} {l : List α} {k k' : IntKind} {a b : Int} {es : Nat} (h0 : 0 ≤ a) (h1 : a ≤ b) (h2 : b ≤ l.length) (he : Nat.beq es (Cel.n α) = true) :
    opV H (.sub es (.c (sl nl l)) (some (.c (.int k a))) (some (.c (.int k' b))) none) = some (sl nl ((l.drop a.toNat).take (b.toNat - a.toNat)), H) := by
  have he := Nat.eq_of_beq_eq_true he
  obtain ⟨es', e1, e2⟩ := sl_es (nl := nl) (l := l)
  have c1 : decide (0 ≤ b) = true := by simp; omega
  have c2 : decide (b ≤ (l.length : Int)) = true := by simpa using h2
  have c3 : decide (0 ≤ a) = true := by simpa using h0
  have c4 : decide (a ≤ ((b.toNat : Nat) : Int)) = true := by simp; omega
  rw [← he] at e2
  simp only [opV, evOp, Opd.ev, e1, e2, Bool.not_true, cond_false, cut, cutHi, cutLo, bnd, c1, c2, c3, c4, Bool.and_self, cond_true, Option.map_some, Option.map_none, ok]
  rw [sub_sl he (by omega) (by omega)]
theorem opV_sub_lo [Cel α] {nl : Bool} {l : List α} {k : IntKind} {a : Int} {es : Nat} (h0 : 0 ≤ a) (h1 : a ≤ l.length) (he : Nat.beq es (Cel.n α) = true) :
    opV H (.sub es (.c (sl nl l)) (some (.c (.int k a))) none none) = some (sl nl (l.drop a.toNat), H) := by
  have he := Nat.eq_of_beq_eq_true he
  obtain ⟨es', e1, e2⟩ := sl_es (nl := nl) (l := l)
  have c3 : decide (0 ≤ a) = true := by simpa using h0
  have c4 : decide (a ≤ (l.length : Int)) = true := by simpa using h1
  rw [← he] at e2
  simp only [opV, evOp, Opd.ev, e1, e2, Bool.not_true, cond_false, cut, cutHi, cutLo, bnd, c3, c4, Bool.and_self, cond_true, Option.map_some, Option.map_none, ok]
  rw [sub_sl he (by omega) (Nat.le_refl _), List.take_of_length_le (by simp)]
theorem opV_sub_hi [Cel α] {nl : Bool} {l : List α} {k : IntKind} {b : Int} {es : Nat} (h0 : 0 ≤ b) (h1 : b ≤ l.length) (he : Nat.beq es (Cel.n α) = true) :
    opV H (.sub es (.c (sl nl l)) none (some (.c (.int k b))) none) = some (sl nl (l.take b.toNat), H) := by
  have he := Nat.eq_of_beq_eq_true he
  obtain ⟨es', e1, e2⟩ := sl_es (nl := nl) (l := l)
  have c3 : decide (0 ≤ b) = true := by simpa using h0
  have c4 : decide (b ≤ (l.length : Int)) = true := by simpa using h1
  rw [← he] at e2
  simp only [opV, evOp, Opd.ev, e1, e2, Bool.not_true, cond_false, cut, cutHi, cutLo, bnd, c3, c4, Bool.and_self, cond_true, Option.map_some, Option.map_none, ok]
  rw [sub_sl he (by omega) (by omega)]
  simp
theorem opV_sub_all [Cel α] {nl : Bool} {l : List α} {es : Nat} (he : Nat.beq es (Cel.n α) = true) :
    opV H (.sub es (.c (sl nl l)) none none none) = some (sl nl l, H) := by
  have he := Nat.eq_of_beq_eq_true he
  obtain ⟨es', e1, e2⟩ := sl_es (nl := nl) (l := l)
  rw [← he] at e2
  simp only [opV, evOp, Opd.ev, e1, e2, Bool.not_true, cond_false, cut, cutHi, cutLo, Option.map_some, Option.map_none, ok]
  rw [sub_sl he (by omega) (Nat.le_refl _)]
  simp [e1]
end

/-- A slice with no room behind it. -/
def slc {α : Type} [Cel α] (nl : Bool) (l : List α) : AV := imm0 nl (Cel.n α) l.length (some l.length) (cellsL l)
theorem opV_sub_clip {α : Type} [Cel α] {nl : Bool} {l : List α} {k k' : IntKind} {a b : Int} {es : Nat} (h1 : a = l.length) (h2 : b = l.length) (he : Nat.beq es (Cel.n α) = true) :
    opV H (.sub es (.c (sl nl l)) none (some (.c (.int k a))) (some (.c (.int k' b)))) = some (slc nl l, H) := by
  have he := Nat.eq_of_beq_eq_true he
  subst h1 h2 he
  obtain ⟨es', e1, e2⟩ := sl_es (nl := nl) (l := l)
  have c1 : decide (0 ≤ (l.length : Int)) = true := by simp
  have c2 : decide ((l.length : Int) ≤ (l.length : Int)) = true := by simp
  simp only [opV, evOp, Opd.ev, e1, e2, Bool.not_true, cond_false, cut3, cutLo, bnd, c1, c2, Bool.and_self, cond_true, Option.map_some, ok, Int.toNat_natCast]
  simp only [slc, Nat.zero_mul, List.drop_zero, Nat.sub_zero]
  rw [← cellsL_length, List.take_length]
theorem appI_slc {α : Type} [Cel α] {nl : Bool} {l : List α} {es bytes : Nat} {x : α} (he : Nat.beq es (Cel.n α) = true) (hr : room bytes (l.length + 1) = true) :
    opV H (.appi es bytes (.c (slc nl l)) (.c (.imm false es 1 (some 1) (Cel.enc x)))) = some (sl false (l ++ [x]), H) := by
  have he := Nat.eq_of_beq_eq_true he
  subst he
  have h0 : ∀ n, Nat.beq n n = true := fun n => by simp
  have h1 : (Nat.beq (Cel.n α) (bif Nat.beq l.length 0 then 0 else Cel.n α) || Nat.beq l.length 0) = true := by cases Nat.beq l.length 0 <;> simp
  have h2 : Nat.ble (l.length + 1) l.length = false := by
    cases h : Nat.ble (l.length + 1) l.length with
    | false => rfl
    | true => have := Nat.le_of_ble_eq_true h; omega
  have h3 : srcCells (.imm false (Cel.n α) 1 (some 1) (Cel.enc x)) H (Cel.n α) = some (Cel.enc x) := by
    show (bif Nat.beq (Cel.n α) (Cel.n α) || Nat.beq 1 0 then some (Cel.enc x) else none) = _
    rw [h0]; rfl
  have h4 : Nat.beq 1 0 = false := rfl
  have h5 : Nat.beq (l ++ [x]).length 0 = false := by
    have : (l ++ [x]).length = l.length + 1 := by simp
    rw [this]; rfl
  simp only [opV, evOp, Opd.ev, appI, srcLen, h3, slc, imm0, h1, Bool.not_true, cond_false, h4, h2, hr, Bool.or_self, Option.map_some]
  simp only [sl, imm0, h5, cond_false]
  simp only [List.length_append, List.length_cons, List.length_nil, Nat.zero_add, cellsL_append, cellsL_cons, cellsL_nil, List.append_nil]
theorem appI_int {nl : Bool} {l : List Int} {bytes : Nat} {x : Int} (hr : room bytes (l.length + 1) = true) :
    opV H (.appi 1 bytes (.c (slc nl l)) (.c (.imm false 1 1 (some 1) [.int .i64 x]))) = some (sl false (l ++ [x]), H) := appI_slc (x := x) rfl hr

/-! ### Building -/
theorem opV_bsl0 {es : Nat} {z : List AV} : opV H (.bsl false es 0 z []) = some (.imm false 0 0 (some 0) [], H) := rfl
theorem opV_bsl1n {es m : Nat} {z cs : List AV} (h1 : cs.length = m) (h2 : z.length = m) : opV H (.bsl false es 1 z [(0, m, .c (.agg cs))]) = some (.imm false es 1 (some 1) cs, H) := by
  subst h1
  have h3 : Nat.ble cs.length cs.length = true := by simp
  have h4 : Nat.beq 1 0 = false := rfl
  have h5 : z.drop cs.length = [] := by simp [h2]
  simp [opV, evOp, fillA, Opd.ev, cellsOf, splice, repl, h2, ok, imm0, h3, h4, h5]
theorem opV_bsl1 {es : Nat} {z : List AV} {v : AV} (h1 : cellsOf v = some [v]) (h2 : z.length = 1) : opV H (.bsl false es 1 z [(0, 1, .c v)]) = some (.imm false es 1 (some 1) [v], H) := by
  have h3 : Nat.ble 1 1 = true := rfl
  have h4 : Nat.beq 1 0 = false := rfl
  have h5 : z.tail = [] := by
    cases z with
    | nil => rfl
    | cons a r => simpa using h2
  simp [opV, evOp, fillA, Opd.ev, h1, splice, repl, h2, ok, imm0, h3, h4, h5]
end

/-! ### A slice that is being built at the memory's end -/
section
variable {α : Type} [Cel α]
def bv (n : Nat) (nl : Bool) (l : List α) : AV := match l with
  | [] => .imm nl 0 0 (some 0) []
  | l => .ref n (l.length * Cel.n α) 0 (Cel.n α) l.length l.length false
def bh (H : Heap) (l : List α) : Heap := match l with
  | [] => H
  | l => H ++ [.cells (cellsL l)]
theorem bv_nil (n : Nat) (nl : Bool) : bv n nl ([] : List α) = .imm nl 0 0 (some 0) [] := rfl
theorem bh_nil (H : Heap) : bh H ([] : List α) = H := rfl
theorem bh_len (H : Heap) (l : List α) (id : Nat) (h : id < H.length) : (bh H l)[id]? = H[id]? := by
  cases l with
  | nil => rfl
  | cons a r => simp [bh, List.getElem?_append_left h]

theorem room_i (b n : Nat) (h1 : (2 * n + 200) * b ≤ 281474976710656) (h2 : n ≤ 4611686018427387904) : room b n = true := by
  simp [room, roomMost, h1, h2]

theorem append_bv {H : Heap} {nl : Bool} {l new : List α} {es bytes : Nat} {x : AV} (he : es = Cel.n α) (hp : 0 < Cel.n α) (hx : srcLen x = some new.length) (hx2 : srcCells x (bh H l) es = some (cellsL new))
    (hr : room bytes (l.length + new.length) = true) : appendA es bytes (bv H.length nl l) x (bh H l) = some (bv H.length nl (l ++ new), bh H (l ++ new)) := by
  subst he
  cases l with
  | nil =>
    cases new with
    | nil =>
      rw [bh_nil] at hx2 ⊢
      have hor : ((Cel.n α).beq 0 || Nat.beq 0 0) = true := by simp
      simp only [appendA, hx, hx2, bv, hor]; rfl
    | cons a r =>
      have hb : Nat.ble (r.length + 1) 0 = false := rfl
      have hb2 : Nat.beq (r.length + 1) 0 = false := rfl
      have hb3 : Nat.beq 0 0 = true := rfl
      simp only [List.length_nil, Nat.zero_add, List.length_cons] at hr
      rw [bh_nil] at hx2 ⊢
      simp only [appendA, hx, hx2, bv, List.length_cons, hb, hb2, hb3, Nat.zero_add, hr, Bool.or_true, Bool.not_true, cond_false, Bool.or_self]
      rfl
  | cons a r =>
    have hlen : (cellsL (a :: r)).length = (r.length + 1) * Cel.n α := by rw [cellsL_length]; rfl
    have hget : (bh H (a :: r))[H.length]? = some (.cells (cellsL (a :: r))) := by simp [bh]
    simp only [appendA, hx, hx2]
    simp only [bv, hget]
    rw [hlen]
    simp only [List.length_cons, cond_false]
    have h0 : ∀ n, Nat.beq n n = true := fun n => by simp
    simp only [h0, Bool.not_true, Bool.or_self, cond_false]
    cases new with
    | nil =>
      have h1 : Nat.ble (r.length + 1 + 0) (r.length + 1) = true := by simp
      have h2 : Nat.ble (0 + (r.length + 1 + 0) * Cel.n α) ((r.length + 1) * Cel.n α) = true := by simp
      simp only [List.length_nil, h1, h2, cond_true]
      simp [bh, splice, cellsL_nil]
    | cons b s =>
      have h1 : Nat.ble (r.length + 1 + (s.length + 1)) (r.length + 1) = false := by
        cases h : Nat.ble (r.length + 1 + (s.length + 1)) (r.length + 1) with
        | false => rfl
        | true => have := Nat.le_of_ble_eq_true h; omega
      simp only [List.length_cons, h1, cond_false] at hr ⊢
      have h3 : Nat.blt 0 (Cel.n α) = true := Nat.ble_eq_true_of_le hp
      simp only [hr, h3, Bool.not_true, cond_false, Bool.and_self, cond_true]
      have hN : r.length + 1 + (s.length + 1) = (r ++ b :: s).length + 1 := by simp; omega
      rw [hN]
      refine congrArg some (Prod.ext rfl ?_)
      simp only [List.cons_append, bh]
      rw [List.set_append_right _ _ (Nat.le_refl _), Nat.sub_self]
      simp only [List.set_cons_zero]
      rw [List.take_of_length_le (by rw [hlen]; simp), ← cellsL_append]
      rfl
theorem leave_bv {H : Heap} {nl : Bool} {l : List α} : leave (bh H l) (bv H.length nl l) = some (sl (nl && l.isEmpty) l) := by
  cases l with
  | nil => cases nl <;> rfl
  | cons a r =>
    have hget : (bh H (a :: r))[H.length]? = some (.cells (cellsL (a :: r))) := by simp [bh]
    have hlen : (cellsL (a :: r)).length = (r.length + 1) * Cel.n α := by rw [cellsL_length]; rfl
    have hm : ∀ (cs : List AV), hfrees cs = true → mapO (frz (bh H (a :: r)) 999) cs = some cs := by
      intro cs
      induction cs with
      | nil => intro _; rfl
      | cons c cs ih =>
        intro hf
        simp only [hfrees, Bool.and_eq_true] at hf
        have : frz (bh H (a :: r)) 999 c = some c := by unfold frz; rw [hf.1]; rfl
        simp only [mapO, this, ih hf.2]
    have h0 : ∀ n, Nat.beq n n = true := fun n => by simp
    have hbv : bv H.length nl (a :: r) = .ref H.length ((r.length + 1) * Cel.n α) 0 (Cel.n α) (r.length + 1) (r.length + 1) false := rfl
    have h2 : Nat.ble (0 + (r.length + 1) * Cel.n α) ((r.length + 1) * Cel.n α) = true := by simp
    have hf : frz (bh H (a :: r)) 1000 (bv H.length nl (a :: r)) = some (.imm false (Cel.n α) (r.length + 1) none (cellsL (a :: r))) := by
      rw [hbv, show (1000 : Nat) = 999 + 1 from rfl, frz]
      simp only [hfree, cond_false, hget, hlen, h0, h2, Bool.and_self, cond_true, List.drop_zero]
      rw [← hlen, List.take_length, hm _ (hfrees_cellsL _)]
      rfl
    unfold leave
    rw [hf]
    have hd : down (.imm false (Cel.n α) (r.length + 1) none (cellsL (a :: r))) = some (.imm false (Cel.n α) (r.length + 1) none (cellsL (a :: r))) := by
      have : hfree (.imm false (Cel.n α) (r.length + 1) none (cellsL (a :: r))) = true := hfrees_cellsL _
      simp only [down, this, cond_true]
    simp only [hd, Option.map_some]
    have h4 : Nat.beq (r.length + 1) 0 = false := rfl
    simp [fg, sl, imm0, h4, fgs_cellsL]
end
end Go.AS

/-
  The walk's words, in one bundle. By an AI agent.
-/
namespace Go.AS
open Go

/-- A question between numerals. -/
def litd (p : Prop) [Decidable p] : Bool := decide p
theorem litd_t : litd True = true := rfl
theorem litd_f : litd False = false := rfl
theorem nbeq (a b : Nat) : Nat.beq a b = litd (a = b) := by
  unfold litd
  by_cases h : a = b
  · subst h; simp
  · have : Nat.beq a b = false := by
      cases h2 : Nat.beq a b with
      | false => rfl
      | true => exact absurd (Nat.eq_of_beq_eq_true h2) h
    rw [this]; simp [h]
theorem nble (a b : Nat) : Nat.ble a b = litd (a ≤ b) := by
  unfold litd
  by_cases h : a ≤ b
  · rw [Nat.ble_eq_true_of_le h]; simp [h]
  · have : Nat.ble a b = false := by
      cases h2 : Nat.ble a b with
      | false => rfl
      | true => exact absurd (Nat.le_of_ble_eq_true h2) h
    rw [this]; simp [h]
theorem nblt (a b : Nat) : Nat.blt a b = litd (a < b) := nble (a + 1) b
theorem getc (j i : Nat) (v : AV) (r : Env) : Env.get ((j, v) :: r) i = bif Nat.beq i j then v else Env.get r i := rfl
theorem getn (i : Nat) : Env.get [] i = .undef := rfl
theorem setc (j i : Nat) (u v : AV) (r : Env) : Env.set ((j, u) :: r) i v = bif Nat.blt i j then (i, v) :: (j, u) :: r else bif Nat.beq i j then (i, v) :: r else (j, u) :: Env.set r i v := rfl
theorem setn (i : Nat) (v : AV) : Env.set [] i v = [(i, v)] := rfl
theorem delc (j i : Nat) (u : AV) (r : Env) : Env.del ((j, u) :: r) i = bif Nat.beq i j then Env.del r i else (j, u) :: Env.del r i := rfl
theorem deln (i : Nat) : Env.del [] i = [] := rfl
theorem dropn (e : Env) : Env.drop e [] = e := by cases e <;> rfl
theorem dropc (e : Env) (i : Nat) (r : List Nat) : Env.drop e (i :: r) = Env.drop (Env.del e i) r := by cases e <;> rfl
theorem putD_some (e : Env) (i : Nat) (v : AV) : putD e (some i) v = Env.set e i v := rfl
theorem putD_none (e : Env) (v : AV) : putD e none v = e := rfl
theorem ev_t (e : Env) (i : Nat) : Opd.ev e (.t i) = Env.get e i := rfl
theorem ev_c (e : Env) (v : AV) : Opd.ev e (.c v) = v := rfl
theorem evs_nil (e : Env) : evs e [] = [] := rfl
theorem evs_cons (e : Env) (x : Opd) (r : List Opd) : evs e (x :: r) = x.ev e :: evs e r := rfl
theorem ofArgs_nil (i : Nat) : Env.ofArgs i [] = [] := rfl
theorem ofArgs_cons (i : Nat) (v : AV) (r : List AV) : Env.ofArgs i (v :: r) = (i, v) :: Env.ofArgs (i + 1) r := rfl

theorem dec_t {p : Prop} [Decidable p] (h : p) : decide p = true := by simp [h]
theorem dec_f {p : Prop} [Decidable p] (h : ¬ p) : decide p = false := by simp [h]
theorem not_dec {p : Prop} [Decidable p] : (!decide p) = decide (¬ p) := by by_cases h : p <;> simp [h]
theorem and_dec {p q : Prop} [Decidable p] [Decidable q] : (decide p && decide q) = decide (p ∧ q) := by by_cases h : p <;> simp [h]
theorem or_dec {p q : Prop} [Decidable p] [Decidable q] : (decide p || decide q) = decide (p ∨ q) := by by_cases h : p <;> simp [h]
theorem wrap_i64 {n : Int} (h1 : -9223372036854775808 ≤ n) (h2 : n ≤ 9223372036854775807) : IntKind.i64.wrap n = n := IntWalk.i64_in _ (by omega)
theorem wrap_u64 {n : Int} (h1 : 0 ≤ n) (h2 : n < 18446744073709551616) : IntKind.u64.wrap n = n := by
  have : IntKind.u64.wrap n = n % 18446744073709551616 := rfl
  rw [this]; omega
theorem wrap_u8 {n : Int} (h1 : 0 ≤ n) (h2 : n < 256) : IntKind.u8.wrap n = n := by
  have : IntKind.u8.wrap n = n % 256 := rfl
  rw [this]; omega

theorem RunG_t {funs : Nat → Option IFun} {Q : IX → Env → Stack → Prop} {cs : List Fr} {d : Bool} {dr : List Nat} {l : List IOper} {e : Env} {S : Stack} {t : Option Nat} {op : IOp} :
    RunG funs Q cs d dr l e S t op true (.bool true) = RunO funs Q cs d dr (⟨t, op, none⟩ :: l) e S := rfl
theorem RunG_f {funs : Nat → Option IFun} {Q : IX → Env → Stack → Prop} {cs : List Fr} {d : Bool} {dr : List Nat} {l : List IOper} {e : Env} {S : Stack} {t : Option Nat} {op : IOp} :
    RunG funs Q cs d dr l e S t op true (.bool false) = RunO funs Q cs d dr l (putD e t (.tuple [])) S := rfl
theorem RunG_ff {funs : Nat → Option IFun} {Q : IX → Env → Stack → Prop} {cs : List Fr} {d : Bool} {dr : List Nat} {l : List IOper} {e : Env} {S : Stack} {t : Option Nat} {op : IOp} :
    RunG funs Q cs d dr l e S t op false (.bool false) = RunO funs Q cs d dr (⟨t, op, none⟩ :: l) e S := rfl
theorem RunG_ft {funs : Nat → Option IFun} {Q : IX → Env → Stack → Prop} {cs : List Fr} {d : Bool} {dr : List Nat} {l : List IOper} {e : Env} {S : Stack} {t : Option Nat} {op : IOp} :
    RunG funs Q cs d dr l e S t op false (.bool true) = RunO funs Q cs d dr l (putD e t (.tuple [])) S := rfl

theorem RunG_n {funs : Nat → Option IFun} {Q : IX → Env → Stack → Prop} {cs : List Fr} {d : Bool} {dr : List Nat} {l : List IOper} {e : Env} {S : Stack} {t : Option Nat} {op : IOp} {w : Bool} :
    RunG funs Q cs d dr l e S t op w (.tuple []) = RunO funs Q cs d dr l (putD e t (.tuple [])) S := rfl
theorem RunG_i {funs : Nat → Option IFun} {Q : IX → Env → Stack → Prop} {cs : List Fr} {d : Bool} {dr : List Nat} {l : List IOper} {e : Env} {S : Stack} {t : Option Nat} {op : IOp} {w : Bool} {p : Prop} [Decidable p]
    (h1 : p → RunG funs Q cs d dr l e S t op w (.bool (decide p))) (h2 : ¬ p → RunG funs Q cs d dr l e S t op w (.bool (decide p))) : RunG funs Q cs d dr l e S t op w (.bool (decide p)) := by
  by_cases h : p
  · exact h1 h
  · exact h2 h
theorem take_snoc {α : Type} (l : List α) (i : Nat) (h : i < l.length) : l.take (i + 1) = l.take i ++ [l[i]] := by
  rw [List.take_add_one, List.getElem?_eq_getElem h]; rfl

theorem mapO_nil {f : AV → Option AV} : mapO f [] = some [] := rfl
def consO : Option AV → Option (List AV) → Option (List AV)
  | some v, some r => some (v :: r)
  | _, _ => none
theorem mapO_c2 {f : AV → Option AV} {v : AV} {r : List AV} : mapO f (v :: r) = consO (f v) (mapO f r) := by
  simp only [mapO]; cases f v <;> cases mapO f r <;> rfl
theorem consO_some {v : AV} {r : List AV} : consO (some v) (some r) = some (v :: r) := rfl

/-- A function's end. -/
def Fin (rs : List IRes) (v : AV) : IX → Env → Stack → Prop := fun x e' S' => (x = .normal ∨ x = .ret) ∧ ∃ H' r, S' = [H'] ∧ resultsA e' [H'] rs = some r ∧ leave H' r = some v
def isUn : AV → Bool
  | .undef => true
  | _ => false
def tmps : List IRes → Option (List Nat)
  | [] => some []
  | .tmp t :: r => (tmps r).map (t :: ·)
  | .cell .. :: _ => none
/-- What a function hands back. -/
def outV : List AV → AV
  | [v] => v
  | vs => .tuple vs
def anyUn : List AV → Bool
  | [] => false
  | v :: r => isUn v || anyUn r
theorem mapO_tmps {e : Env} {H : Heap} : ∀ {rs : List IRes} {ts : List Nat}, tmps rs = some ts → anyUn (ts.map (Env.get e)) = false → mapO (resultA e H) rs = some (ts.map (Env.get e))
  | [], _, h, _ => by cases h; rfl
  | .tmp t :: r, ts, h, hu => by
    simp only [tmps, Option.map_eq_some_iff] at h
    obtain ⟨ts', h1, rfl⟩ := h
    simp only [List.map_cons, anyUn, Bool.or_eq_false_iff] at hu
    simp only [mapO, mapO_tmps h1 hu.2, List.map_cons, resultA]
    cases hg : Env.get e t <;> first | rfl | (rw [hg] at hu; exact absurd hu.1 (by simp [isUn]))
  | .cell .. :: _, _, h, _ => by cases h
theorem Fin_i {rs : List IRes} {ts : List Nat} {v : AV} {x : IX} {e : Env} {H : Heap} (hx : x = .normal ∨ x = .ret) (ht : tmps rs = some ts) (hu : anyUn (ts.map (Env.get e)) = false) (hl : leave H (outV (ts.map (Env.get e))) = some v) : Fin rs v x e [H] := by
  refine ⟨hx, H, outV (ts.map (Env.get e)), rfl, ?_, hl⟩
  simp only [resultsA, mapO_tmps ht hu]
  generalize ts.map (Env.get e) = l
  match l with
  | [] => rfl
  | [a] => rfl
  | a :: b :: r => rfl

theorem leave_f {H : Heap} {v : AV} (h : hfree v = true) : leave H v = some (fg v) := by
  have : frz H 1000 v = some v := by
    unfold frz
    rw [h]; rfl
  unfold leave
  rw [this]
  simp [down, h]
theorem upf_f {v : AV} (h : hfree v = true) : upf v = some (fg v) := by simp [upf, up, h]
theorem hfree_enc {α : Type} [Cel α] (a : α) : hfree (.agg (Cel.enc a)) = true := Cel.free a
theorem fg_enc {α : Type} [Cel α] (a : α) : fg (.agg (Cel.enc a)) = .agg (Cel.enc a) := by simp [fg, Cel.canon]
theorem fg_int (k : IntKind) (n : Int) : fg (.int k n) = .int k n := rfl
theorem fg_bool (b : Bool) : fg (.bool b) = .bool b := rfl
theorem fg_str (b : Str) : fg (.str b) = .str b := rfl
theorem fg_nil0 (nl : Bool) (c : Option Nat) : fg (.imm nl 0 0 c []) = .imm nl 0 0 none [] := rfl
theorem sl_nil {α : Type} [Cel α] (nl : Bool) : sl nl ([] : List α) = .imm nl 0 0 none [] := rfl
theorem gl0 {a0 : AV} {r : List AV} : (a0 :: r)[0]? = some a0 := rfl
theorem gl1 {a0 a1 : AV} {r : List AV} : (a0 :: a1 :: r)[1]? = some a1 := rfl
theorem gl2 {a0 a1 a2 : AV} {r : List AV} : (a0 :: a1 :: a2 :: r)[2]? = some a2 := rfl
theorem gl3 {a0 a1 a2 a3 : AV} {r : List AV} : (a0 :: a1 :: a2 :: a3 :: r)[3]? = some a3 := rfl
theorem gl4 {a0 a1 a2 a3 a4 : AV} {r : List AV} : (a0 :: a1 :: a2 :: a3 :: a4 :: r)[4]? = some a4 := rfl
theorem gl5 {a0 a1 a2 a3 a4 a5 : AV} {r : List AV} : (a0 :: a1 :: a2 :: a3 :: a4 :: a5 :: r)[5]? = some a5 := rfl
theorem gl6 {a0 a1 a2 a3 a4 a5 a6 : AV} {r : List AV} : (a0 :: a1 :: a2 :: a3 :: a4 :: a5 :: a6 :: r)[6]? = some a6 := rfl
theorem gl7 {a0 a1 a2 a3 a4 a5 a6 a7 : AV} {r : List AV} : (a0 :: a1 :: a2 :: a3 :: a4 :: a5 :: a6 :: a7 :: r)[7]? = some a7 := rfl
theorem gl8 {a0 a1 a2 a3 a4 a5 a6 a7 a8 : AV} {r : List AV} : (a0 :: a1 :: a2 :: a3 :: a4 :: a5 :: a6 :: a7 :: a8 :: r)[8]? = some a8 := rfl
theorem gl9 {a0 a1 a2 a3 a4 a5 a6 a7 a8 a9 : AV} {r : List AV} : (a0 :: a1 :: a2 :: a3 :: a4 :: a5 :: a6 :: a7 :: a8 :: a9 :: r)[9]? = some a9 := rfl
theorem gl10 {a0 a1 a2 a3 a4 a5 a6 a7 a8 a9 a10 : AV} {r : List AV} : (a0 :: a1 :: a2 :: a3 :: a4 :: a5 :: a6 :: a7 :: a8 :: a9 :: a10 :: r)[10]? = some a10 := rfl
theorem gl11 {a0 a1 a2 a3 a4 a5 a6 a7 a8 a9 a10 a11 : AV} {r : List AV} : (a0 :: a1 :: a2 :: a3 :: a4 :: a5 :: a6 :: a7 :: a8 :: a9 :: a10 :: a11 :: r)[11]? = some a11 := rfl
theorem one_none (cs : List AV) (off : Nat) : one none cs off = cs[off]? := rfl
theorem one_some (n : Nat) (cs : List AV) (off : Nat) : one (some n) cs off = bif Nat.ble (off + n) cs.length then some (.agg ((cs.drop off).take n)) else none := rfl
theorem one_nonec (a : AV) (cs : List AV) (off : Nat) : one none (a :: cs) off = (a :: cs)[off]? := rfl
theorem one_somec (n : Nat) (a : AV) (cs : List AV) (off : Nat) : one (some n) (a :: cs) off = bif Nat.ble (off + n) (a :: cs).length then some (.agg (((a :: cs).drop off).take n)) else none := rfl
theorem td_enc {α : Type} [Cel α] (n : Nat) (a : α) (h : n = Cel.n α) : List.take n (List.drop 0 (Cel.enc a)) = Cel.enc a := by
  subst h
  rw [List.drop_zero]
  exact List.take_of_length_le (Nat.le_of_eq (Cel.len a))
theorem one_all {α : Type} [Cel α] (n : Nat) (a : α) (h : n = Cel.n α) : one (some n) (Cel.enc a) 0 = some (.agg (Cel.enc a)) := by
  have h1 : (Cel.enc a).length = Cel.n α := Cel.len a
  have h2 : Nat.ble (0 + n) (Cel.enc a).length = true := Nat.ble_eq_true_of_le (by omega)
  rw [one_some, h2, cond_true, List.drop_zero, List.take_of_length_le (by omega)]
theorem v_int (x : Int) : One.v x = .int .i64 x := rfl
theorem v_u8 (x : UInt8) : One.v x = .int .u8 x.toNat := rfl
theorem v_u64 (x : UInt64) : One.v x = .int .u64 x.toNat := rfl
theorem v_bool (x : Bool) : One.v x = .bool x := rfl
theorem v_str (x : Str) : One.v x = .str x := rfl
theorem v_sl {α : Type} [Cel α] (x : Sl α) : One.v x = sl x.nil x.l := rfl

theorem Gives.of {funs : Nat → Option IFun} {g : Nat} {fn : IFun} {args args' : List AV} {v : AV} (hf : funs g = some fn) (hs : fn.shared = false) (hn : Nat.beq args'.length fn.nargs = true) (hu : mapO upf args = some args')
    (h : Run funs (Fin fn.results v) [.c fn.body] .normal (Env.ofArgs 0 args') [[]]) (hnn : fn.nat = none := by rfl) : Gives funs g args v :=
  Gives.by hf hs hn hu h hnn

/-- What a proof proves. -/
abbrev Ty {p : Prop} (_ : p) : Prop := p
/-- The walk's equations. -/
theorem rnL : Ty (And.intro @Run_nil <| And.intro @Run_seq <| And.intro @Run_nop <| And.intro @Run_exit <| And.intro @Run_ret <| And.intro @Run_skip_exit <| And.intro @Run_skip_ret <|
  And.intro @Run_out_normal <| And.intro @Run_out_exit <| And.intro @Run_out_ret <| And.intro @Run_block <| And.intro @Run_cond <| And.intro @Run_ops <| And.intro @RunB_t <| And.intro @RunB_f <|
  And.intro @RunO_nil <| And.intro @RunO_guard <| And.intro @RunO_call <| And.intro @RunO_callp <| And.intro @RunO_callf <| And.intro @RunO_calls <| And.intro @mapO_nil <| And.intro @mapO_c2 <| And.intro @consO_some <| And.intro @RunG_t <| And.intro @RunG_f <| And.intro @RunG_ff <| And.intro @RunG_ft <| And.intro @RunG_n <| And.intro @RunV_some <|
  And.intro @Rnd_normal <| And.intro @Rnd_exit <| And.intro @Rnd_ret <|
  And.intro @nbeq <| And.intro @nblt <| And.intro @nble <| And.intro @getc <| And.intro @getn <| And.intro @setc <| And.intro @setn <| And.intro @delc <| And.intro @deln <| And.intro @dropn <| And.intro @dropc <|
  And.intro @putD_some <| And.intro @putD_none <| And.intro @ev_t <| And.intro @ev_c <| And.intro @evs_nil <| And.intro @evs_cons <| And.intro @ofArgs_nil <| And.intro @ofArgs_cons <|
  And.intro @dec_t <| And.intro @dec_f <| And.intro @not_dec <| And.intro @and_dec <| And.intro @or_dec <| And.intro @wrap_i64 <| And.intro @wrap_u64 @wrap_u8) := And.intro @Run_nil <| And.intro @Run_seq <| And.intro @Run_nop <| And.intro @Run_exit <| And.intro @Run_ret <| And.intro @Run_skip_exit <| And.intro @Run_skip_ret <|
  And.intro @Run_out_normal <| And.intro @Run_out_exit <| And.intro @Run_out_ret <| And.intro @Run_block <| And.intro @Run_cond <| And.intro @Run_ops <| And.intro @RunB_t <| And.intro @RunB_f <|
  And.intro @RunO_nil <| And.intro @RunO_guard <| And.intro @RunO_call <| And.intro @RunO_callp <| And.intro @RunO_callf <| And.intro @RunO_calls <| And.intro @mapO_nil <| And.intro @mapO_c2 <| And.intro @consO_some <| And.intro @RunG_t <| And.intro @RunG_f <| And.intro @RunG_ff <| And.intro @RunG_ft <| And.intro @RunG_n <| And.intro @RunV_some <|
  And.intro @Rnd_normal <| And.intro @Rnd_exit <| And.intro @Rnd_ret <|
  And.intro @nbeq <| And.intro @nblt <| And.intro @nble <| And.intro @getc <| And.intro @getn <| And.intro @setc <| And.intro @setn <| And.intro @delc <| And.intro @deln <| And.intro @dropn <| And.intro @dropc <|
  And.intro @putD_some <| And.intro @putD_none <| And.intro @ev_t <| And.intro @ev_c <| And.intro @evs_nil <| And.intro @evs_cons <| And.intro @ofArgs_nil <| And.intro @ofArgs_cons <|
  And.intro @dec_t <| And.intro @dec_f <| And.intro @not_dec <| And.intro @and_dec <| And.intro @or_dec <| And.intro @wrap_i64 <| And.intro @wrap_u64 @wrap_u8
/-- Answers of operations. -/
theorem opL : Ty (And.intro @opV_newb <| And.intro @opV_mv <| And.intro @opV_nilck_iptr <| And.intro @opV_nilck_ptr <| And.intro @opV_pick_and <| And.intro @opV_pick_or <| And.intro @opV_pick <| And.intro @opV_not <| And.intro @opV_diff <| And.intro @opV_diffi <| And.intro @opV_extr <| And.intro @opV_mkmap <|
  And.intro @opV_alloc <| And.intro @opV_mkif <| And.intro @opV_add <| And.intro @opV_minus <| And.intro @opV_mul <| And.intro @opV_quo <| And.intro @opV_rem <| And.intro @opV_eql <| And.intro @opV_neq <| And.intro @opV_lss <| And.intro @opV_leq <|
  And.intro @opV_gtr <| And.intro @opV_geq <| And.intro @opV_shl <| And.intro @opV_shr <| And.intro @opV_xor <| And.intro @opV_and <| And.intro @opV_or <| And.intro @opV_adds <| And.intro @opV_eqls <| And.intro @opV_neqs <| And.intro @opV_lsss <|
  And.intro @opV_geqs <| And.intro @opV_leqs <| And.intro @opV_gtrs <| And.intro @opV_eqb_f <| And.intro @opV_eqb_t <| And.intro @opV_neg <| And.intro @opV_conv <| And.intro @opV_mvs <| And.intro @opV_lens <| And.intro @opV_max <| And.intro @opV_min <|
  And.intro @opV_ixs <| And.intro @opV_subs <| And.intro @opV_subs_lo <| And.intro @opV_subs_hi <| And.intro @opV_len <| And.intro @opV_isnil <| And.intro @opV_notnil <| And.intro @opV_ixa <| And.intro @opV_load <| And.intro @opV_loadn <|
  And.intro @opV_faddr <| And.intro @opV_load_f <| And.intro @opV_loadn_f <| And.intro @opV_fld <| And.intro @opV_sub <| And.intro @opV_sub_lo <| And.intro @opV_sub_hi <| And.intro @opV_sub_all <| And.intro @opV_sub_clip <| And.intro @appI_slc <| And.intro @appI_int <| And.intro @opV_bsl0 <| And.intro @opV_bsl1n <|
  And.intro @opV_bsl1 <| And.intro @one_nonec <| And.intro @gl0 <| And.intro @gl1 <| And.intro @gl2 <| And.intro @gl3 <| And.intro @gl4 <| And.intro @gl5 <| And.intro @gl6 <| And.intro @gl7 <| And.intro @gl8 <| And.intro @gl9 <| And.intro @gl10 <| And.intro @gl11 <| And.intro @one_somec <| And.intro @one_all <| And.intro @td_enc <| And.intro @v_int <| And.intro @v_u8 <| And.intro @v_u64 <| And.intro @v_bool <| And.intro @v_str <| @v_sl) := And.intro @opV_newb <| And.intro @opV_mv <| And.intro @opV_nilck_iptr <| And.intro @opV_nilck_ptr <| And.intro @opV_pick_and <| And.intro @opV_pick_or <| And.intro @opV_pick <| And.intro @opV_not <| And.intro @opV_diff <| And.intro @opV_diffi <| And.intro @opV_extr <| And.intro @opV_mkmap <|
  And.intro @opV_alloc <| And.intro @opV_mkif <| And.intro @opV_add <| And.intro @opV_minus <| And.intro @opV_mul <| And.intro @opV_quo <| And.intro @opV_rem <| And.intro @opV_eql <| And.intro @opV_neq <| And.intro @opV_lss <| And.intro @opV_leq <|
  And.intro @opV_gtr <| And.intro @opV_geq <| And.intro @opV_shl <| And.intro @opV_shr <| And.intro @opV_xor <| And.intro @opV_and <| And.intro @opV_or <| And.intro @opV_adds <| And.intro @opV_eqls <| And.intro @opV_neqs <| And.intro @opV_lsss <|
  And.intro @opV_geqs <| And.intro @opV_leqs <| And.intro @opV_gtrs <| And.intro @opV_eqb_f <| And.intro @opV_eqb_t <| And.intro @opV_neg <| And.intro @opV_conv <| And.intro @opV_mvs <| And.intro @opV_lens <| And.intro @opV_max <| And.intro @opV_min <|
  And.intro @opV_ixs <| And.intro @opV_subs <| And.intro @opV_subs_lo <| And.intro @opV_subs_hi <| And.intro @opV_len <| And.intro @opV_isnil <| And.intro @opV_notnil <| And.intro @opV_ixa <| And.intro @opV_load <| And.intro @opV_loadn <|
  And.intro @opV_faddr <| And.intro @opV_load_f <| And.intro @opV_loadn_f <| And.intro @opV_fld <| And.intro @opV_sub <| And.intro @opV_sub_lo <| And.intro @opV_sub_hi <| And.intro @opV_sub_all <| And.intro @opV_sub_clip <| And.intro @appI_slc <| And.intro @appI_int <| And.intro @opV_bsl0 <| And.intro @opV_bsl1n <|
  And.intro @opV_bsl1 <| And.intro @one_nonec <| And.intro @gl0 <| And.intro @gl1 <| And.intro @gl2 <| And.intro @gl3 <| And.intro @gl4 <| And.intro @gl5 <| And.intro @gl6 <| And.intro @gl7 <| And.intro @gl8 <| And.intro @gl9 <| And.intro @gl10 <| And.intro @gl11 <| And.intro @one_somec <| And.intro @one_all <| And.intro @td_enc <| And.intro @v_int <| And.intro @v_u8 <| And.intro @v_u64 <| And.intro @v_bool <| And.intro @v_str <| @v_sl
theorem leave_int {H : Heap} (k : IntKind) (n : Int) : leave H (.int k n) = some (.int k n) := leave_f rfl
theorem leave_bool {H : Heap} (b : Bool) : leave H (.bool b) = some (.bool b) := leave_f rfl
theorem leave_str {H : Heap} (b : Str) : leave H (.str b) = some (.str b) := leave_f rfl
theorem leave_sl {H : Heap} {α : Type} [Cel α] (nl : Bool) (l : List α) : leave H (sl nl l) = some (sl nl l) := by rw [leave_f (sl_free _ _), sl_canon]
theorem leave_enc {H : Heap} {α : Type} [Cel α] (a : α) : leave H (.agg (Cel.enc a)) = some (.agg (Cel.enc a)) := by rw [leave_f (hfree_enc _), fg_enc]
theorem leave_nil0 {H : Heap} (nl : Bool) (c : Option Nat) : leave H (.imm nl 0 0 c []) = some (.imm nl 0 0 none []) := leave_f rfl
/-- Values that touch no memory, and tell no capacities. -/
class FreeV (v : AV) : Prop where
  free : hfree v = true
  fg : fg v = v
instance (k : IntKind) (n : Int) : FreeV (.int k n) := ⟨rfl, rfl⟩
instance (b : Bool) : FreeV (.bool b) := ⟨rfl, rfl⟩
instance (b : Str) : FreeV (.str b) := ⟨rfl, rfl⟩
instance : FreeV .nilptr := ⟨rfl, rfl⟩
instance : FreeV .nilFunc := ⟨rfl, rfl⟩
instance : FreeV .nilIface := ⟨rfl, rfl⟩
instance : FreeV .nilmap := ⟨rfl, rfl⟩
instance (nl : Bool) : FreeV (.imm nl 0 0 none []) := ⟨rfl, rfl⟩
instance {α : Type} [Cel α] (nl : Bool) (l : List α) : FreeV (sl nl l) := ⟨sl_free _ _, sl_canon _ _⟩
instance {α : Type} [Cel α] (a : α) : FreeV (.agg (Cel.enc a)) := ⟨hfree_enc _, fg_enc _⟩
theorem leave_v {H : Heap} {v : AV} [h : FreeV v] : leave H v = some v := by rw [leave_f h.free, h.fg]
theorem leave_t2 {H : Heap} {a b : AV} [h : FreeV a] [h2 : FreeV b] : leave H (.tuple [a, b]) = some (.tuple [a, b]) := by
  rw [leave_f (by simp [hfree, hfrees, h.free, h2.free])]; simp [fg, fgs, h.fg, h2.fg]
theorem leave_t3 {H : Heap} {a b c : AV} [h : FreeV a] [h2 : FreeV b] [h3 : FreeV c] : leave H (.tuple [a, b, c]) = some (.tuple [a, b, c]) := by
  rw [leave_f (by simp [hfree, hfrees, h.free, h2.free, h3.free])]; simp [fg, fgs, h.fg, h2.fg, h3.fg]
theorem leave_t4 {H : Heap} {a b c d : AV} [h : FreeV a] [h2 : FreeV b] [h3 : FreeV c] [h4 : FreeV d] : leave H (.tuple [a, b, c, d]) = some (.tuple [a, b, c, d]) := by
  rw [leave_f (by simp [hfree, hfrees, h.free, h2.free, h3.free, h4.free])]; simp [fg, fgs, h.fg, h2.fg, h3.fg, h4.fg]
theorem upf_v {v : AV} [h : FreeV v] : upf v = some v := by rw [upf_f h.free, h.fg]
theorem outV_1 (v : AV) : outV [v] = v := rfl
theorem outV_2 (v w : AV) : outV [v, w] = .tuple [v, w] := rfl
theorem outV_3 (v w x : AV) : outV [v, w, x] = .tuple [v, w, x] := rfl
theorem outV_0 : outV [] = .tuple [] := rfl
theorem anyUn_nil : anyUn [] = false := rfl
theorem anyUn_int (k : IntKind) (n : Int) (r : List AV) : anyUn (.int k n :: r) = anyUn r := rfl
theorem anyUn_bool (b : Bool) (r : List AV) : anyUn (.bool b :: r) = anyUn r := rfl
theorem anyUn_str (b : Str) (r : List AV) : anyUn (.str b :: r) = anyUn r := rfl
theorem anyUn_agg (b : List AV) (r : List AV) : anyUn (.agg b :: r) = anyUn r := rfl
theorem anyUn_imm (n : Bool) (a b : Nat) (c : Option Nat) (d r : List AV) : anyUn (.imm n a b c d :: r) = anyUn r := rfl
theorem anyUn_ref (a b c d e f : Nat) (g : Bool) (r : List AV) : anyUn (.ref a b c d e f g :: r) = anyUn r := rfl
theorem anyUn_ptr (a b c : Nat) (r : List AV) : anyUn (.ptr a b c :: r) = anyUn r := rfl
theorem anyUn_nilptr (r : List AV) : anyUn (.nilptr :: r) = anyUn r := rfl
theorem anyUn_iptr (a : List AV) (b : Nat) (r : List AV) : anyUn (.iptr a b :: r) = anyUn r := rfl
theorem anyUn_sl {α : Type} [Cel α] (nl : Bool) (l : List α) (r : List AV) : anyUn (sl nl l :: r) = anyUn r := rfl
theorem anyUn_bv {α : Type} [Cel α] (n : Nat) (nl : Bool) (l : List α) (r : List AV) : anyUn (bv n nl l :: r) = anyUn r := by cases l <;> rfl
theorem outL : Ty (And.intro @leave_int <| And.intro @leave_bool <| And.intro @leave_str <| And.intro @leave_sl <| And.intro @leave_enc <| And.intro @leave_nil0 <| And.intro @leave_v <| And.intro @leave_t2 <| And.intro @leave_t3 <| And.intro @leave_t4 <| And.intro @leave_bv <| And.intro @outV_1 <| And.intro @outV_2 <| And.intro @outV_3 <| And.intro @outV_0 <|
  And.intro @anyUn_nil <| And.intro @anyUn_int <| And.intro @anyUn_bool <| And.intro @anyUn_str <| And.intro @anyUn_agg <| And.intro @anyUn_imm <| And.intro @anyUn_ref <| And.intro @anyUn_ptr <| And.intro @anyUn_nilptr <| And.intro @anyUn_iptr <| And.intro @anyUn_sl <| @anyUn_bv) := And.intro @leave_int <| And.intro @leave_bool <| And.intro @leave_str <| And.intro @leave_sl <| And.intro @leave_enc <| And.intro @leave_nil0 <| And.intro @leave_v <| And.intro @leave_t2 <| And.intro @leave_t3 <| And.intro @leave_t4 <| And.intro @leave_bv <| And.intro @outV_1 <| And.intro @outV_2 <| And.intro @outV_3 <| And.intro @outV_0 <|
  And.intro @anyUn_nil <| And.intro @anyUn_int <| And.intro @anyUn_bool <| And.intro @anyUn_str <| And.intro @anyUn_agg <| And.intro @anyUn_imm <| And.intro @anyUn_ref <| And.intro @anyUn_ptr <| And.intro @anyUn_nilptr <| And.intro @anyUn_iptr <| And.intro @anyUn_sl <| @anyUn_bv
/-- Operations. -/
theorem ruL : Ty (And.intro @RunO_newb <| And.intro @RunO_mv <| And.intro @RunO_pick <| And.intro @RunO_box <| And.intro @RunO_load <| And.intro @RunO_store <| And.intro @RunO_nilck <| And.intro @RunO_bin <| And.intro @RunO_eqb <| And.intro @RunO_eqn <| And.intro @RunO_eqa <| And.intro @RunO_neg <| And.intro @RunO_inv <| And.intro @RunO_not <| And.intro @RunO_conv <| And.intro @RunO_bytes <| And.intro @RunO_text <| And.intro @RunO_mvs <| And.intro @RunO_mkif <| And.intro @RunO_mksl <| And.intro @RunO_sub <| And.intro @RunO_subs <| And.intro @RunO_suba <| And.intro @RunO_faddr <| And.intro @RunO_fld <| And.intro @RunO_ixa <| And.intro @RunO_ixaa <| And.intro @RunO_ixs <| And.intro @RunO_ixv <| And.intro @RunO_look <| And.intro @RunO_mapup <| And.intro @RunO_extr <| And.intro @RunO_len <| And.intro @RunO_lens <| And.intro @RunO_lenm <| And.intro @RunO_cap <| And.intro @RunO_append <| And.intro @RunO_appi <| And.intro @RunO_appz <| And.intro @RunO_diff <| And.intro @RunO_cmps <| And.intro @RunO_copy <| And.intro @RunO_clearm <| And.intro @RunO_clears <| And.intro @RunO_del <| And.intro @RunO_minmax <| And.intro @RunO_build <| And.intro @RunO_bsl <| And.intro @RunO_mkfn <| And.intro @RunO_ment <| And.intro @RunO_mentst <| And.intro @RunO_alloc <| And.intro @RunO_slots <| And.intro @RunO_allocA <| @RunO_mkmap) := And.intro @RunO_newb <| And.intro @RunO_mv <| And.intro @RunO_pick <| And.intro @RunO_box <| And.intro @RunO_load <| And.intro @RunO_store <| And.intro @RunO_nilck <| And.intro @RunO_bin <| And.intro @RunO_eqb <| And.intro @RunO_eqn <| And.intro @RunO_eqa <| And.intro @RunO_neg <| And.intro @RunO_inv <| And.intro @RunO_not <| And.intro @RunO_conv <| And.intro @RunO_bytes <| And.intro @RunO_text <| And.intro @RunO_mvs <| And.intro @RunO_mkif <| And.intro @RunO_mksl <| And.intro @RunO_sub <| And.intro @RunO_subs <| And.intro @RunO_suba <| And.intro @RunO_faddr <| And.intro @RunO_fld <| And.intro @RunO_ixa <| And.intro @RunO_ixaa <| And.intro @RunO_ixs <| And.intro @RunO_ixv <| And.intro @RunO_look <| And.intro @RunO_mapup <| And.intro @RunO_extr <| And.intro @RunO_len <| And.intro @RunO_lens <| And.intro @RunO_lenm <| And.intro @RunO_cap <| And.intro @RunO_append <| And.intro @RunO_appi <| And.intro @RunO_appz <| And.intro @RunO_diff <| And.intro @RunO_cmps <| And.intro @RunO_copy <| And.intro @RunO_clearm <| And.intro @RunO_clears <| And.intro @RunO_del <| And.intro @RunO_minmax <| And.intro @RunO_build <| And.intro @RunO_bsl <| And.intro @RunO_mkfn <| And.intro @RunO_ment <| And.intro @RunO_mentst <| And.intro @RunO_alloc <| And.intro @RunO_slots <| And.intro @RunO_allocA <| @RunO_mkmap
/-- Values that go in and out. -/
theorem ioL : Ty (And.intro @hfree_enc <| And.intro @fg_enc <| And.intro @fg_int <| And.intro @fg_bool <| And.intro @fg_str <| And.intro @sl_free <| And.intro @upf_v <| @sl_canon) := And.intro @hfree_enc <| And.intro @fg_enc <| And.intro @fg_int <| And.intro @fg_bool <| And.intro @fg_str <| And.intro @sl_free <| And.intro @upf_v <| @sl_canon

theorem nat_succ (i : Nat) : (i : Int) + 1 = ((i + 1 : Nat) : Int) := rfl
theorem nat_add (a b : Nat) : (a : Int) + (b : Int) = ((a + b : Nat) : Int) := rfl
theorem nat_mul (a b : Nat) : (a : Int) * (b : Int) = ((a * b : Nat) : Int) := rfl
theorem nat_max (a b : Nat) : max (a : Int) (b : Int) = ((max a b : Nat) : Int) := by omega
theorem nat_min (a b : Nat) : min (a : Int) (b : Int) = ((min a b : Nat) : Int) := by omega
theorem natL : Ty (And.intro @nat_succ <| And.intro @nat_add <| And.intro @nat_mul <| And.intro @nat_max <| @nat_min) := And.intro @nat_succ <| And.intro @nat_add <| And.intro @nat_mul <| And.intro @nat_max <| @nat_min

end Go.AS

/-
  Operations on a memory whose objects are listed. By an AI agent.
-/
namespace Go.AS
open Go

def hat : Heap → Nat → AObj
  | [], _ => .dead
  | o :: _, 0 => o
  | _ :: r, n + 1 => hat r n
def hset : Heap → Nat → AObj → Heap
  | [], _, _ => []
  | _ :: r, 0, x => x :: r
  | o :: r, n + 1, x => o :: hset r n x
theorem hat_0 (o : AObj) (r : Heap) : hat (o :: r) 0 = o := rfl
theorem hat_1 (o p : AObj) (r : Heap) : hat (o :: p :: r) 1 = p := rfl
theorem hat_2 (o p q : AObj) (r : Heap) : hat (o :: p :: q :: r) 2 = q := rfl
theorem hat_3 (o p q s : AObj) (r : Heap) : hat (o :: p :: q :: s :: r) 3 = s := rfl
theorem hset_0 (o x : AObj) (r : Heap) : hset (o :: r) 0 x = x :: r := rfl
theorem hset_1 (o p x : AObj) (r : Heap) : hset (o :: p :: r) 1 x = o :: x :: r := rfl
theorem hset_2 (o p q x : AObj) (r : Heap) : hset (o :: p :: q :: r) 2 x = o :: p :: x :: r := rfl
theorem hset_3 (o p q s x : AObj) (r : Heap) : hset (o :: p :: q :: s :: r) 3 x = o :: p :: q :: x :: r := rfl
theorem hset_eq : ∀ (H : Heap) (i : Nat) (x : AObj), H.set i x = hset H i x
  | [], _, _ => rfl
  | _ :: _, 0, _ => rfl
  | o :: r, n + 1, x => by simp [hset, hset_eq r n x]
theorem hat_lt : ∀ {H : Heap} {i : Nat} {o : AObj}, o ≠ .dead → hat H i = o → H[i]? = some o
  | [], _, _, h, e => absurd e.symm h
  | _ :: _, 0, _, _, e => by simp [← e, hat]
  | _ :: r, n + 1, _, h, e => by simpa using hat_lt (H := r) (i := n) h e
theorem hat_app {H : Heap} {i : Nat} {o : AObj} (h : H[i]? = some o) : hat H i = o := by
  induction H generalizing i with
  | nil => simp at h
  | cons a r ih =>
    cases i with
    | zero => simpa [hat] using h
    | succ i => exact ih (by simpa using h)
theorem hat_none : ∀ {H : Heap} {i : Nat}, H[i]? = none → hat H i = .dead
  | [], _, _ => rfl
  | _ :: _, 0, h => by simp at h
  | _ :: r, n + 1, h => hat_none (H := r) (i := n) (by simpa using h)

/-! ### Cells -/
def loadO : AObj → Option Nat → Nat → Nat → Option AV
  | .cells cs, n, lim, off => bif Nat.beq cs.length lim then one n cs off else none
  | _, _, _, _ => none
def storeO : AObj → Nat → Nat → Nat → AV → Option AObj
  | .cells cs, n, lim, off, x => match cellsOf x with
    | some vs => bif Nat.beq cs.length lim && Nat.beq vs.length n && Nat.ble (off + n) lim then some (.cells (splice cs off vs)) else none
    | none => none
  | _, _, _, _, _ => none
theorem opV_load_p {H : Heap} {n : Option Nat} {id lim off : Nat} : opV H (.load n (.c (.ptr id lim off))) = (loadO (hat H id) n lim off).map (·, H) := by
  simp only [opV, evOp, Opd.ev]
  cases h : H[id]? with
  | none => rw [hat_none h]; rfl
  | some o =>
    rw [hat_app h]
    cases o with
    | cells cs => simp only [loadO]; cases Nat.beq cs.length lim <;> rfl
    | _ => rfl
theorem opV_store_p {H : Heap} {n : Nat} {id lim off : Nat} {x : AV} : opV H (.store n (.c (.ptr id lim off)) (.c x)) = (storeO (hat H id) n lim off x).map fun o => (.undef, hset H id o) := by
  have e : opV H (.store n (.c (.ptr id lim off)) (.c x)) = match cellsOf x with
    | some vs => (match H[id]? with
      | some (.cells cs) => bif Nat.beq cs.length lim && Nat.beq vs.length n && Nat.ble (off + n) lim then ok .undef (H.set id (.cells (splice cs off vs))) else none
      | _ => none)
    | none => none := by
    simp only [opV, evOp, Opd.ev]; cases cellsOf x <;> rfl
  rw [e]
  cases hx : cellsOf x with
  | none =>
    have : ∀ o, storeO o n lim off x = none := fun o => by cases o <;> simp [storeO, hx]
    rw [this]; rfl
  | some vs =>
    cases h : H[id]? with
    | none => rw [hat_none h]; rfl
    | some o =>
      rw [hat_app h]
      cases o with
      | cells cs =>
        simp only [storeO, hx, hset_eq]
        cases (Nat.beq cs.length lim && Nat.beq vs.length n && Nat.ble (off + n) lim) <;> rfl
      | _ => rfl
theorem opV_faddr_p {H : Heap} {o id lim off : Nat} : opV H (.faddr o (.c (.ptr id lim off))) = some (.ptr id lim (off + o), H) := rfl

/-! ### Maps that are sets of whole numbers -/
def setO (l : List (Int × Nat)) (c : Nat) : AObj := .map (l.map fun p => (.int .i64 p.1, .int .i64 1, p.2)) c
theorem findK_set (x : Int) : ∀ (l : List (Int × Nat)) (i : Nat), findK 0 (.int .i64 x) i (l.map fun p => (.int .i64 p.1, .int .i64 1, p.2)) =
    match l.findIdx? (fun p => decide (x = p.1)) with
    | none => some none
    | some j => some (some (i + j, .int .i64 1, (l.getD j (0, 0)).2))
  | [], _ => rfl
  | p :: r, i => by
    simp only [List.map_cons, findK, primEq, ikEq, beq_self_eq_true, cond_true, List.findIdx?_cons]
    by_cases h : x = p.1
    · have : (x == p.1) = true := by simpa using h
      simp only [this, decide_eq_true h, if_true]
      simp
    · have : (x == p.1) = false := by simpa using h
      simp only [this, decide_eq_false h]
      rw [findK_set x r (i + 1)]
      cases r.findIdx? (fun p => decide (x = p.1)) with
      | none => rfl
      | some j => simp; omega
theorem findIdx_none {x : Int} {l : List (Int × Nat)} (h : x ∉ l.map Prod.fst) : l.findIdx? (fun p => decide (x = p.1)) = none := by
  rw [List.findIdx?_eq_none_iff]
  intro p hp
  simp
  intro e
  exact h (e ▸ List.mem_map_of_mem hp)
theorem findIdx_some {x : Int} {l : List (Int × Nat)} (h : x ∈ l.map Prod.fst) : ∃ j, ∃ hj : j < l.length, l.findIdx? (fun p => decide (x = p.1)) = some j ∧ (l[j]).1 = x := by
  cases hf : l.findIdx? (fun p => decide (x = p.1)) with
  | none =>
    rw [List.findIdx?_eq_none_iff] at hf
    obtain ⟨p, hp, rfl⟩ := List.mem_map.1 h
    have := hf p hp
    simp at this
  | some j =>
    obtain ⟨hj, h1, _⟩ := List.findIdx?_eq_some_iff_getElem.1 hf
    exact ⟨j, hj, rfl, by simpa using Eq.symm (of_decide_eq_true h1)⟩
def addK (l : List (Int × Nat)) (x : Int) (c : Nat) : List (Int × Nat) := if x ∈ l.map Prod.fst then l else l ++ [(x, c)]
def addC (l : List (Int × Nat)) (x : Int) (c : Nat) : Nat := if x ∈ l.map Prod.fst then c else c + 1

def lookO (kk : Nat) (z : AV) (cm : Bool) (k : AV) : AObj → Option AV
  | .map es _ => match findK kk k 0 es with
    | some (some (_, v, _)) => some (bif cm then .tuple [v, .bool true] else v)
    | some none => some (bif cm then .tuple [z, .bool false] else z)
    | none => none
  | _ => none
def mapupO (kk : Nat) (k x : AV) : AObj → Option AObj
  | .map es c => match findK kk k 0 es with
    | some (some (i, _, b)) => some (.map (es.set i (k, x, b)) c)
    | some none => some (.map (es ++ [(k, x, c)]) (c + 1))
    | none => none
  | _ => none
def lenmO : AObj → Option Nat
  | .map es _ => some es.length
  | _ => none
def clearO : AObj → Option AObj
  | .map _ c => some (.map [] c)
  | _ => none
theorem opV_look {H : Heap} {kk : Nat} {z : AV} {cm : Bool} {id : Nat} {k : AV} (hk : keyOk kk k = true) : opV H (.look kk z cm (.c (.map id)) (.c k)) = (lookO kk z cm k (hat H id)).map (·, H) := by
  simp only [opV, evOp, Opd.ev, hk, Bool.not_true, cond_false, ok]
  cases h : H[id]? with
  | none => rw [hat_none h]; rfl
  | some o =>
    rw [hat_app h]
    cases o with
    | map es c => 
      simp only [lookO]
      cases findK kk k 0 es with
      | none => rfl
      | some y => cases y <;> rfl
    | _ => rfl
theorem opV_mapup {H : Heap} {kk id : Nat} {k v : AV} (hk : keyOk kk k = true) : opV H (.mapup kk (.c (.map id)) (.c k) (.c v)) = (mapupO kk k v (hat H id)).map fun o => (.undef, hset H id o) := by
  simp only [opV, evOp, Opd.ev, hk, Bool.not_true, cond_false, ok]
  cases h : H[id]? with
  | none => rw [hat_none h]; rfl
  | some o =>
    rw [hat_app h]
    cases o with
    | map es c =>
      simp only [mapupO, hset_eq]
      cases findK kk k 0 es with
      | none => rfl
      | some y => cases y <;> rfl
    | _ => rfl
theorem opV_lenm {H : Heap} {id : Nat} : opV H (.lenm (.c (.map id))) = (lenmO (hat H id)).map fun n => (.int .i64 n, H) := by
  simp only [opV, evOp, Opd.ev, ok]
  cases h : H[id]? with
  | none => rw [hat_none h]; rfl
  | some o => rw [hat_app h]; cases o <;> rfl
theorem opV_clearm {H : Heap} {id : Nat} : opV H (.clearm (.c (.map id))) = (clearO (hat H id)).map fun o => (.tuple [], hset H id o) := by
  simp only [opV, evOp, Opd.ev, ok]
  cases h : H[id]? with
  | none => rw [hat_none h]; rfl
  | some o => rw [hat_app h]; cases o <;> simp [clearO, hset_eq]
theorem lookO_set {l : List (Int × Nat)} {c : Nat} {x z : Int} : lookO 0 (.int .i64 z) false (.int .i64 x) (setO l c) = some (.int .i64 (if x ∈ l.map Prod.fst then 1 else z)) := by
  simp only [lookO, setO, findK_set]
  by_cases h : x ∈ l.map Prod.fst
  · obtain ⟨j, hj, h1, _⟩ := findIdx_some h
    rw [h1, if_pos h]; rfl
  · rw [findIdx_none h, if_neg h]; rfl
theorem mapupO_set {l : List (Int × Nat)} {c : Nat} {x : Int} : mapupO 0 (.int .i64 x) (.int .i64 1) (setO l c) = some (setO (addK l x c) (addC l x c)) := by
  simp only [mapupO, setO, findK_set, addK, addC]
  by_cases h : x ∈ l.map Prod.fst
  · obtain ⟨j, hj, h1, h2⟩ := findIdx_some h
    rw [h1, if_pos h, if_pos h]
    simp only [Nat.zero_add, Option.some.injEq, AObj.map.injEq, and_true]
    apply List.ext_getElem?
    intro i
    rw [List.getElem?_set]
    split
    · subst i
      rw [List.length_map, if_pos hj, List.getElem?_map, List.getElem?_eq_getElem hj, Option.map_some, h2, List.getD_eq_getElem?_getD, List.getElem?_eq_getElem hj]
      rfl
    · rfl
  · rw [findIdx_none h, if_neg h, if_neg h]
    simp
theorem lenmO_set {l : List (Int × Nat)} {c : Nat} : lenmO (setO l c) = some l.length := by simp [lenmO, setO]
theorem clearO_set {l : List (Int × Nat)} {c : Nat} : clearO (setO l c) = some (setO [] c) := rfl
theorem mkmap_set {H : Heap} : opV H .mkmap = some (.map H.length, H ++ [setO [] 0]) := rfl

/-! ### A slice that is being built -/
section
variable {α : Type} [Cel α]
theorem append_bv1 {H : Heap} {nl : Bool} {l : List α} {n es bytes : Nat} {x : α} (hn : n = H.length) (he : es = Cel.n α) (hp : Nat.blt 0 (Cel.n α) = true) (hr : room bytes (l.length + 1) = true) :
    opV (bh H l) (.append es bytes (.c (bv n nl l)) (.c (.imm false es 1 (some 1) (Cel.enc x)))) = some (bv n nl (l ++ [x]), bh H (l ++ [x])) := by
  subst hn
  refine append_bv he (Nat.le_of_ble_eq_true hp) rfl ?_ hr
  have h0 : Nat.beq es es = true := by simp
  show (bif Nat.beq es es || Nat.beq 1 0 then some (Cel.enc x) else none) = _
  rw [h0]
  simp [cellsL]
theorem append_bvs {H : Heap} {nl nl' : Bool} {l new : List α} {n es bytes : Nat} (hn : n = H.length) (he : es = Cel.n α) (hp : Nat.blt 0 (Cel.n α) = true) (hr : room bytes (l.length + new.length) = true) :
    opV (bh H l) (.append es bytes (.c (bv n nl l)) (.c (sl nl' new))) = some (bv n nl (l ++ new), bh H (l ++ new)) := by
  subst hn
  refine append_bv he (Nat.le_of_ble_eq_true hp) rfl ?_ hr
  obtain ⟨es', e1, e2⟩ := sl_es (nl := nl') (l := new)
  rw [e1, he]
  have : (Nat.beq es' (Cel.n α) || Nat.beq new.length 0) = true := by
    rw [← e2, nbeq, nbeq, nbeq]
    simp [litd, eq_comm]
  show (bif Nat.beq es' (Cel.n α) || Nat.beq new.length 0 then some (cellsL new) else none) = _
  rw [this]; rfl
end

theorem append_int {H : Heap} {nl : Bool} {l : List Int} {n bytes : Nat} {x : Int} (hn : n = H.length) (hr : room bytes (l.length + 1) = true) :
    opV (bh H l) (.append 1 bytes (.c (bv n nl l)) (.c (.imm false 1 1 (some 1) [.int .i64 x]))) = some (bv n nl (l ++ [x]), bh H (l ++ [x])) :=
  append_bv1 (x := x) hn rfl rfl hr
theorem append_str {H : Heap} {nl : Bool} {l : List Str} {n bytes : Nat} {x : Str} (hn : n = H.length) (hr : room bytes (l.length + 1) = true) :
    opV (bh H l) (.append 1 bytes (.c (bv n nl l)) (.c (.imm false 1 1 (some 1) [.str x]))) = some (bv n nl (l ++ [x]), bh H (l ++ [x])) :=
  append_bv1 (x := x) hn rfl rfl hr
theorem append_sl {β : Type} [Cel β] {H : Heap} {nl nl' : Bool} {l : List (Sl β)} {n bytes : Nat} {x : List β} (hn : n = H.length) (hr : room bytes (l.length + 1) = true) :
    opV (bh H l) (.append 1 bytes (.c (bv n nl l)) (.c (.imm false 1 1 (some 1) [sl nl' x]))) = some (bv n nl (l ++ [Sl.mk nl' x]), bh H (l ++ [Sl.mk nl' x])) :=
  append_bv1 (x := Sl.mk nl' x) hn rfl rfl hr
theorem append_0s {α : Type} [Cel α] {H : Heap} {nl nl' : Bool} {new : List α} {es bytes : Nat} (he : es = Cel.n α) (hp : Nat.blt 0 (Cel.n α) = true) (hr : room bytes new.length = true) :
    opV H (.append es bytes (.c (.imm nl 0 0 (some 0) [])) (.c (sl nl' new))) = some (bv H.length nl new, bh H new) :=
  append_bvs (H := H) (l := ([] : List α)) rfl he hp (by simpa using hr)
theorem leave_bv' {α : Type} [Cel α] {H : Heap} {n : Nat} {nl : Bool} {l : List α} (hn : n = H.length) : leave (bh H l) (bv n nl l) = some (sl (nl && l.isEmpty) l) := by subst hn; exact leave_bv
theorem hat_bh {α : Type} [Cel α] {H : Heap} {l : List α} {i : Nat} (h : Nat.blt i H.length = true) : hat (bh H l) i = hat H i := by
  have h1 : i < H.length := Nat.le_of_ble_eq_true h
  rw [hat_app (H := bh H l) (o := H[i]) (by rw [bh_len _ _ _ h1, List.getElem?_eq_getElem h1]), hat_app (List.getElem?_eq_getElem h1)]
theorem hset_bh {α : Type} [Cel α] {H : Heap} {l : List α} {i : Nat} {o : AObj} (h : Nat.blt i H.length = true) : hset (bh H l) i o = bh (hset H i o) l := by
  have h1 : i < H.length := Nat.le_of_ble_eq_true h
  rw [← hset_eq, ← hset_eq]
  cases l with
  | nil => rfl
  | cons a r => simp [bh, List.set_append_left _ _ h1]

theorem opV_mksl {H : Heap} {es b : Nat} {z : List AV} {k k' : IntKind} {n c : Int} (h0 : 0 ≤ n) (h1 : n ≤ c) (h2 : c.toNat * b ≤ 281474976710656) (h3 : c.toNat ≤ 9223372036854775807) :
    opV H (.mksl es b z (.c (.int k n)) (.c (.int k' c))) = some (.ref H.length (c.toNat * es) 0 es n.toNat c.toNat true, H ++ [.cells (repl z c.toNat)]) := by
  have c1 : decide (0 ≤ n) = true := by simpa using h0
  have c2 : decide (n ≤ c) = true := by simpa using h1
  have c3 : Nat.ble (c.toNat * b) roomMost = true := Nat.ble_eq_true_of_le h2
  have c4 : Nat.ble c.toNat maxInt = true := Nat.ble_eq_true_of_le h3
  simp only [opV, evOp, Opd.ev, c1, c2, c3, c4, Bool.and_self, cond_true, ok]
theorem opV_sub_ref_lo {H : Heap} {id lim off es len cap : Nat} {ex : Bool} {k : IntKind} {a : Int} (h0 : 0 ≤ a) (h1 : a ≤ len) :
    opV H (.sub es (.c (.ref id lim off es len cap ex)) (some (.c (.int k a))) none none) = some (.ref id lim (off + a.toNat * es) es (len - a.toNat) (cap - a.toNat) ex, H) := by
  have c1 : decide (0 ≤ a) = true := by simpa using h0
  have c2 : decide (a ≤ (len : Int)) = true := by simpa using h1
  have c3 : Nat.beq es es = true := by simp
  simp only [opV, evOp, Opd.ev, c1, c2, c3, cut, cutHi, cutLo, bnd, Bool.not_true, cond_false, Bool.and_self, cond_true, Option.map_some, ok]
theorem opV_sub_ref_hi {H : Heap} {id lim off es len cap : Nat} {ex : Bool} {k : IntKind} {b : Int} (h0 : 0 ≤ b) (h1 : b ≤ cap) :
    opV H (.sub es (.c (.ref id lim off es len cap ex)) none (some (.c (.int k b))) none) = some (.ref id lim off es b.toNat cap ex, H) := by
  have c1 : decide (0 ≤ b) = true := by simpa using h0
  have c2 : decide (b ≤ (cap : Int)) = true := by simpa using h1
  have c3 : Nat.beq es es = true := by simp
  simp only [opV, evOp, Opd.ev, c1, c2, c3, cut, cutHi, cutLo, bnd, Bool.not_true, cond_false, Bool.and_self, cond_true, Option.map_some, ok]
  simp
theorem opV_len_ref {H : Heap} {id lim off es len cap : Nat} {ex : Bool} : opV H (.len (.c (.ref id lim off es len cap ex))) = some (.int .i64 len, H) := rfl
/-- Of whole numbers. -/
theorem opV_copy_sl {l s : List Int} {nl ex : Bool} {T off len cap : Nat} (h1 : l.length = T) (h2 : off + len ≤ T) :
    opV [.cells (cellsL l)] (.copy 1 (.c (.ref 0 T off 1 len cap ex)) (.c (sl nl s))) = some (.int .i64 (min s.length len : Nat), [.cells (cellsL (l.take off ++ s.take (min s.length len) ++ l.drop (off + min s.length len)))]) := by
  subst h1
  obtain ⟨es', e1, e2⟩ := sl_es (nl := nl) (l := s)
  have c1 : Nat.beq 1 1 = true := rfl
  have c2 : (cellsL l).length = l.length := by rw [cellsL_length]; exact Nat.mul_one _
  have c3 : ∀ n, Nat.beq n n = true := fun n => by simp
  have c4 : Nat.ble (off + len * 1) l.length = true := Nat.ble_eq_true_of_le (by omega)
  have c5 : (Nat.beq es' 1 || Nat.beq s.length 0) = true := by
    rw [← e2, nbeq, nbeq, nbeq]
    simp only [litd]
    congr 2
    exact propext ⟨Eq.symm, Eq.symm⟩
  have c6 : srcCells (sl nl s) [.cells (cellsL l)] 1 = some (cellsL s) := by
    rw [e1]
    show (bif Nat.beq es' 1 || Nat.beq s.length 0 then some (cellsL s) else none) = _
    rw [c5]; rfl
  have c7 : srcLen (sl nl s) = some s.length := rfl
  have c8 : splice (cellsL l) off ((cellsL s).take (min s.length len * 1)) = cellsL (l.take off ++ s.take (min s.length len) ++ l.drop (off + min s.length len)) := by
    have e3 : (cellsL s).take (min s.length len * 1) = cellsL (s.take (min s.length len)) := cellsL_take s _
    rw [e3]
    have e4 : (cellsL (s.take (min s.length len))).length = min s.length len := by
      rw [cellsL_length, List.length_take]; show min (min s.length len) s.length * 1 = _; omega
    simp only [splice, e4, cellsL_append]
    have e5 := cellsL_take l off
    have e6 := cellsL_drop l (off + min s.length len)
    rw [show Cel.n Int = 1 from rfl, Nat.mul_one] at e5 e6
    rw [e5, e6]
  simp only [opV, evOp, Opd.ev, c1, Bool.not_true, cond_false, c6, c7, List.getElem?_cons_zero, c2, c3, c4, Bool.and_self, cond_true, ok, c8, List.set_cons_zero]
theorem opV_copy_self {l : List Int} {ex ex2 : Bool} {T off len cap off2 len2 cap2 : Nat} (h1 : l.length = T) (h2 : off + len ≤ T) (h3 : off2 + len2 ≤ T) :
    opV [.cells (cellsL l)] (.copy 1 (.c (.ref 0 T off 1 len cap ex)) (.c (.ref 0 T off2 1 len2 cap2 ex2))) = some (.int .i64 (min len2 len : Nat), [.cells (cellsL (l.take off ++ (l.drop off2).take (min len2 len) ++ l.drop (off + min len2 len)))]) := by
  subst h1
  have c1 : Nat.beq 1 1 = true := rfl
  have c2 : (cellsL l).length = l.length := by rw [cellsL_length]; exact Nat.mul_one _
  have c3 : ∀ n, Nat.beq n n = true := fun n => by simp
  have c4 : Nat.ble (off + len * 1) l.length = true := Nat.ble_eq_true_of_le (by omega)
  have c5 : Nat.ble (off2 + len2 * 1) l.length = true := Nat.ble_eq_true_of_le (by omega)
  have c6 : srcCells (.ref 0 l.length off2 1 len2 cap2 ex2) [.cells (cellsL l)] 1 = some (((cellsL l).drop off2).take (len2 * 1)) := by
    show (bif Nat.beq (cellsL l).length l.length && Nat.beq 1 1 && Nat.ble (off2 + len2 * 1) l.length then some (((cellsL l).drop off2).take (len2 * 1)) else none) = _
    rw [c2, c3, c5]; rfl
  have c7 : srcLen (.ref 0 l.length off2 1 len2 cap2 ex2) = some len2 := rfl
  have c8 : splice (cellsL l) off ((((cellsL l).drop off2).take (len2 * 1)).take (min len2 len * 1)) = cellsL (l.take off ++ (l.drop off2).take (min len2 len) ++ l.drop (off + min len2 len)) := by
    have e2 := cellsL_drop l off2
    rw [show Cel.n Int = 1 from rfl, Nat.mul_one] at e2
    have e3 : (((cellsL l).drop off2).take (len2 * 1)).take (min len2 len * 1) = cellsL ((l.drop off2).take (min len2 len)) := by
      rw [List.take_take, e2]
      have := cellsL_take (l.drop off2) (min len2 len)
      rw [show Cel.n Int = 1 from rfl] at this
      rw [← this]
      congr 1
      omega
    rw [e3]
    have e4 : (cellsL ((l.drop off2).take (min len2 len))).length = min len2 len := by
      rw [cellsL_length, List.length_take, List.length_drop]; show min (min len2 len) (l.length - off2) * 1 = _; omega
    simp only [splice, e4, cellsL_append]
    have e5 := cellsL_take l off
    have e6 := cellsL_drop l (off + min len2 len)
    rw [show Cel.n Int = 1 from rfl, Nat.mul_one] at e5 e6
    rw [e5, e6]
  simp only [opV, evOp, Opd.ev, c1, Bool.not_true, cond_false, c6, c7, List.getElem?_cons_zero, c2, c3, c4, Bool.and_self, cond_true, ok, c8, List.set_cons_zero]

theorem repl_int (n : Nat) : repl [.int .i64 0] n = cellsL (List.replicate n (0 : Int)) := by
  induction n with
  | zero => rfl
  | succ n ih => rw [repl, ih]; rfl
theorem leave_ref {α : Type} [Cel α] {l : List α} {T es n cap : Nat} {ex : Bool} (h1 : es = Cel.n α) (h2 : T = l.length * es) (h3 : n = l.length) : leave [.cells (cellsL l)] (.ref 0 T 0 es n cap ex) = some (sl false l) := by
  subst h1 h2 h3
  have hm : ∀ (cs : List AV), hfrees cs = true → mapO (frz [.cells (cellsL l)] 999) cs = some cs := by
    intro cs
    induction cs with
    | nil => intro _; rfl
    | cons c cs ih =>
      intro hf
      simp only [hfrees, Bool.and_eq_true] at hf
      have : frz [.cells (cellsL l)] 999 c = some c := by unfold frz; rw [hf.1]; rfl
      simp only [mapO, this, ih hf.2]
  have h0 : ∀ n, Nat.beq n n = true := fun n => by simp
  have hlen : (cellsL l).length = l.length * Cel.n α := cellsL_length l
  have h2 : Nat.ble (0 + l.length * Cel.n α) (l.length * Cel.n α) = true := by simp
  have hf : frz [.cells (cellsL l)] 1000 (.ref 0 (l.length * Cel.n α) 0 (Cel.n α) l.length cap ex) = some (.imm false (Cel.n α) l.length none (cellsL l)) := by
    rw [show (1000 : Nat) = 999 + 1 from rfl, frz]
    simp only [hfree, cond_false, List.getElem?_cons_zero, hlen, h0, h2, Bool.and_self, cond_true, List.drop_zero]
    rw [← hlen, List.take_length, hm _ (hfrees_cellsL _)]
    rfl
  have hd : down (.imm false (Cel.n α) l.length none (cellsL l)) = some (.imm false (Cel.n α) l.length none (cellsL l)) := by
    have : hfree (.imm false (Cel.n α) l.length none (cellsL l)) = true := hfrees_cellsL _
    simp only [down, this, cond_true]
  unfold leave
  rw [hf]
  simp only [hd, Option.map_some]
  cases l with
  | nil => rfl
  | cons a r =>
    have h4 : Nat.beq (r.length + 1) 0 = false := rfl
    simp [fg, sl, imm0, h4, fgs_cellsL]

theorem opV_box {H : Heap} {n : Nat} {cs : List AV} (h : Nat.beq cs.length n = true) : opV H (.box n (.c (.agg cs))) = some (.ptr H.length n 0, H ++ [.cells cs]) := by
  simp only [opV, evOp, Opd.ev, cellsOf, h, cond_true, ok]
theorem opV_box1 {H : Heap} {v : AV} (h : cellsOf v = some [v]) : opV H (.box 1 (.c v)) = some (.ptr H.length 1 0, H ++ [.cells [v]]) := by
  have : Nat.beq [v].length 1 = true := rfl
  simp only [opV, evOp, Opd.ev, h, this, cond_true, ok]
theorem loadO_c {cs : List AV} {n : Option Nat} {lim off : Nat} (h : Nat.beq cs.length lim = true) : loadO (.cells cs) n lim off = one n cs off := by
  simp only [loadO, h, cond_true]
theorem storeO_c {cs vs : List AV} {n lim off : Nat} (h : Nat.beq cs.length lim = true) (h2 : Nat.beq vs.length n = true) (h3 : Nat.ble (off + n) lim = true) : storeO (.cells cs) n lim off (.agg vs) = some (.cells (splice cs off vs)) := by
  simp only [storeO, cellsOf, h, h2, h3, Bool.and_self, cond_true]
theorem storeO_1 {cs : List AV} {v : AV} {lim off : Nat} (h : Nat.beq cs.length lim = true) (h2 : cellsOf v = some [v]) (h3 : Nat.ble (off + 1) lim = true) : storeO (.cells cs) 1 lim off v = some (.cells (splice cs off [v])) := by
  have : Nat.beq [v].length 1 = true := rfl
  simp only [storeO, h, h2, h3, this, Bool.and_self, cond_true]
theorem splice_all {cs vs : List AV} (h : Nat.beq cs.length vs.length = true) : splice cs 0 vs = vs := by
  have := Nat.eq_of_beq_eq_true h
  simp [splice, this]
def tmpV : AV → Option AV
  | .undef => none
  | v => some v
theorem resultA_tmp {e : Env} {H : Heap} {t : Nat} : resultA e H (.tmp t) = tmpV (Env.get e t) := by
  simp only [resultA, tmpV]; cases Env.get e t <;> rfl
def cellV (H : Heap) (n : Option Nat) : AV → Option AV
  | .ptr id lim off => loadO (hat H id) n lim off
  | _ => none
theorem resultA_cell {e : Env} {H : Heap} {a : Nat} {n : Option Nat} : resultA e H (.cell a n) = cellV H n (Env.get e a) := by
  simp only [resultA, cellV]
  cases h : Env.get e a with
  | ptr id lim off =>
    simp only
    cases h2 : H[id]? with
    | none => rw [hat_none h2]; rfl
    | some o => rw [hat_app h2]; cases o <;> rfl
  | _ => rfl
theorem cellV_p {H : Heap} {n : Option Nat} {id lim off : Nat} : cellV H n (.ptr id lim off) = loadO (hat H id) n lim off := rfl
theorem tmpV_int (k : IntKind) (n : Int) : tmpV (.int k n) = some (.int k n) := rfl
theorem tmpV_bool (b : Bool) : tmpV (.bool b) = some (.bool b) := rfl
theorem tmpV_str (b : Str) : tmpV (.str b) = some (.str b) := rfl
theorem tmpV_agg (b : List AV) : tmpV (.agg b) = some (.agg b) := rfl
theorem tmpV_imm (n : Bool) (a b : Nat) (c : Option Nat) (d : List AV) : tmpV (.imm n a b c d) = some (.imm n a b c d) := rfl
theorem tmpV_ref (a b c d e f : Nat) (g : Bool) : tmpV (.ref a b c d e f g) = some (.ref a b c d e f g) := rfl
theorem tmpV_ptr (a b c : Nat) : tmpV (.ptr a b c) = some (.ptr a b c) := rfl
theorem tmpV_nilptr : tmpV .nilptr = some .nilptr := rfl
theorem tmpV_func (f : Fn) (a b : List AV) : tmpV (.func f a b) = some (.func f a b) := rfl
theorem tmpV_sl {α : Type} [Cel α] (nl : Bool) (l : List α) : tmpV (sl nl l) = some (sl nl l) := rfl
theorem tmpV_bv {α : Type} [Cel α] (n : Nat) (nl : Bool) (l : List α) : tmpV (bv n nl l) = some (bv n nl l) := by cases l <;> rfl
theorem Fin_g {rs : List IRes} {vs : List AV} {v : AV} {x : IX} {e : Env} {H : Heap} (hx : x = .normal ∨ x = .ret) (hr : mapO (resultA e H) rs = some vs) (hl : leave H (outV vs) = some v) : Fin rs v x e [H] := by
  refine ⟨hx, H, outV vs, rfl, ?_, hl⟩
  simp only [resultsA, hr]
  match vs with
  | [] => rfl
  | [a] => rfl
  | a :: b :: r => rfl
theorem rsL : Ty (And.intro @resultA_tmp <| And.intro @resultA_cell <| And.intro @cellV_p <| And.intro @tmpV_int <| And.intro @tmpV_bool <| And.intro @tmpV_str <| And.intro @tmpV_agg <| And.intro @tmpV_imm <| And.intro @tmpV_ref <| And.intro @tmpV_ptr <| And.intro @tmpV_nilptr <| And.intro @tmpV_func <|
  And.intro @tmpV_sl <| And.intro @tmpV_bv <| And.intro @opV_box <| And.intro @opV_box1 <| And.intro @loadO_c <| And.intro @storeO_c <| And.intro @storeO_1 <| @splice_all) :=
  And.intro @resultA_tmp <| And.intro @resultA_cell <| And.intro @cellV_p <| And.intro @tmpV_int <| And.intro @tmpV_bool <| And.intro @tmpV_str <| And.intro @tmpV_agg <| And.intro @tmpV_imm <| And.intro @tmpV_ref <| And.intro @tmpV_ptr <| And.intro @tmpV_nilptr <| And.intro @tmpV_func <|
  And.intro @tmpV_sl <| And.intro @tmpV_bv <| And.intro @opV_box <| And.intro @opV_box1 <| And.intro @loadO_c <| And.intro @storeO_c <| And.intro @storeO_1 <| @splice_all

theorem app_nil (x : AObj) : ([] : Heap) ++ [x] = [x] := rfl
theorem app_1 (a x : AObj) : ([a] : Heap) ++ [x] = [a, x] := rfl
theorem app_2 (a b x : AObj) : ([a, b] : Heap) ++ [x] = [a, b, x] := rfl
theorem app_3 (a b c x : AObj) : ([a, b, c] : Heap) ++ [x] = [a, b, c, x] := rfl
theorem len_0 : ([] : Heap).length = 0 := rfl
theorem len_1 (a : AObj) : ([a] : Heap).length = 1 := rfl
theorem len_2 (a b : AObj) : ([a, b] : Heap).length = 2 := rfl
theorem len_3 (a b c : AObj) : ([a, b, c] : Heap).length = 3 := rfl
theorem hpL : Ty (And.intro @hat_0 <| And.intro @hat_1 <| And.intro @hat_2 <| And.intro @hat_3 <| And.intro @hset_0 <| And.intro @hset_1 <| And.intro @hset_2 <| And.intro @hset_3 <| And.intro @opV_load_p <| And.intro @opV_store_p <| And.intro @opV_faddr_p <|
  And.intro @opV_look <| And.intro @opV_mapup <| And.intro @opV_lenm <| And.intro @opV_clearm <| And.intro @lookO_set <| And.intro @mapupO_set <| And.intro @lenmO_set <| And.intro @clearO_set <| And.intro @mkmap_set <| And.intro @append_bv1 <| And.intro @append_bvs <| And.intro @append_int <| And.intro @append_str <| And.intro @append_sl <| And.intro @append_0s <|
  And.intro @app_nil <| And.intro @app_1 <| And.intro @app_2 <| And.intro @app_3 <| And.intro @len_0 <| And.intro @len_1 <| And.intro @len_2 <| And.intro @len_3 <| And.intro @leave_bv' <| And.intro @hat_bh <| And.intro @opV_mksl <| And.intro @repl_int <| And.intro @leave_ref <| And.intro @opV_sub_ref_lo <| And.intro @opV_sub_ref_hi <| And.intro @opV_len_ref <| And.intro @opV_copy_sl <| And.intro @opV_copy_self <| @hset_bh) :=
  And.intro @hat_0 <| And.intro @hat_1 <| And.intro @hat_2 <| And.intro @hat_3 <| And.intro @hset_0 <| And.intro @hset_1 <| And.intro @hset_2 <| And.intro @hset_3 <| And.intro @opV_load_p <| And.intro @opV_store_p <| And.intro @opV_faddr_p <|
  And.intro @opV_look <| And.intro @opV_mapup <| And.intro @opV_lenm <| And.intro @opV_clearm <| And.intro @lookO_set <| And.intro @mapupO_set <| And.intro @lenmO_set <| And.intro @clearO_set <| And.intro @mkmap_set <| And.intro @append_bv1 <| And.intro @append_bvs <| And.intro @append_int <| And.intro @append_str <| And.intro @append_sl <| And.intro @append_0s <|
  And.intro @app_nil <| And.intro @app_1 <| And.intro @app_2 <| And.intro @app_3 <| And.intro @len_0 <| And.intro @len_1 <| And.intro @len_2 <| And.intro @len_3 <| And.intro @leave_bv' <| And.intro @hat_bh <| And.intro @opV_mksl <| And.intro @repl_int <| And.intro @leave_ref <| And.intro @opV_sub_ref_lo <| And.intro @opV_sub_ref_hi <| And.intro @opV_len_ref <| And.intro @opV_copy_sl <| And.intro @opV_copy_self <| @hset_bh
end Go.AS

/-
  Calls that work on the levels below: functions' values, ranges over functions. By an AI agent.
-/
namespace Go.AS
open Go
section
variable {funs : Nat → Option IFun}

/-- A call that returns. -/
def Rets (funs : Nat → Option IFun) (f : AV) (vs : List AV) (S : Stack) (v : AV) (S' : Stack) : Prop := ∃ k, callV funs k f vs S = some (.ret v, S')
theorem Rets.uniq {f : AV} {vs : List AV} {S S1 S2 : Stack} {v1 v2 : AV} (h1 : Rets funs f vs S v1 S1) (h2 : Rets funs f vs S v2 S2) : v1 = v2 ∧ S1 = S2 := by
  obtain ⟨k, hk⟩ := h1
  obtain ⟨k2, hk2⟩ := h2
  have a := callV_up (Nat.le_max_left k k2) hk
  have b := callV_up (Nat.le_max_right k k2) hk2
  rw [a] at b
  cases b; exact ⟨rfl, rfl⟩
theorem Gives.rets {g : Nat} {vs : List AV} {v : AV} (h : Gives funs g vs v) (S : Stack) : Rets funs (.func (.func g) [] []) vs S v S :=
  let ⟨k, hk⟩ := h.at; ⟨k, hk S⟩

theorem Rets.ext {f : AV} {vs azs : List AV} {H : Heap} {S S' : Stack} {v w : AV} (hd : mapO down vs = some azs) (h : Rets funs f azs S v S') (hu : up v = some w) : Rets funs (.ext f) vs (H :: S) w (H :: S') := by
  obtain ⟨k, hk⟩ := h
  exact ⟨k + 1, by simp only [callV, hd, hk, hu, Option.map_some]⟩

section
variable {Q : IX → Env → Stack → Prop} {cs : List Fr} {d : Bool} {dr : List Nat} {l : List IOper} {e : Env} {t : Option Nat}
theorem RunC_r {f : AV} {vs : List AV} {S S' : Stack} {H' : Heap} {v : AV} (h : Rets funs f vs S v (H' :: S')) (k : RunO funs Q cs d dr l (putD e t v) (H' :: S')) : RunC funs Q cs d dr l e S t f vs := by
  obtain ⟨j, x, e', S1, h1, h2⟩ := k
  obtain ⟨k0, hk⟩ := h
  refine ⟨max j k0, x, e', S1, ?_, h2⟩
  have h3 := callV_up (Nat.le_max_right j k0) hk
  have h4 : evOper (callV funs (max j k0)) ⟨t, .call (.c f) (vs.map .c), none⟩ e S = some (.go (putD e t v) (H' :: S')) := by
    simp only [evOper, guardA, evs_c, Opd.ev, h3, afterCall]
  have h5 := evC_up (Nat.le_max_left j k0) h1
  simp only [evC] at h5
  simp only [evC, evOps, h4]
  exact h5
end

/-- How a function ends that works on the levels below. -/
def FinS (rs : List IRes) (v : AV) (S' : Stack) : IX → Env → Stack → Prop := fun x e' S1 => (x = .normal ∨ x = .ret) ∧ ∃ H' r, S1 = H' :: S' ∧ resultsA e' (H' :: S') rs = some r ∧ leave H' r = some v
theorem resultsA_tmps {rs : List IRes} {ts : List Nat} {e : Env} {H : Heap} {S : Stack} (ht : tmps rs = some ts) (hu : anyUn (ts.map (Env.get e)) = false) : resultsA e (H :: S) rs = some (outV (ts.map (Env.get e))) := by
  simp only [resultsA, mapO_tmps ht hu]
  generalize ts.map (Env.get e) = l
  match l with
  | [] => rfl
  | [a] => rfl
  | a :: b :: r => rfl
theorem FinS_i {rs : List IRes} {ts : List Nat} {v : AV} {x : IX} {e : Env} {H : Heap} {S : Stack} (hx : x = .normal ∨ x = .ret) (ht : tmps rs = some ts) (hu : anyUn (ts.map (Env.get e)) = false) (hl : leave H (outV (ts.map (Env.get e))) = some v) : FinS rs v S x e (H :: S) :=
  ⟨hx, H, _, rfl, resultsA_tmps ht hu, hl⟩
theorem Rets.of {g : Nat} {fn : IFun} {fi ca vs args' : List AV} {S S' : Stack} {v : AV} (hf : funs g = some fn) (hs : fn.shared = false) (hn : Nat.beq args'.length fn.nargs = true) (hu : mapO upf (fi ++ vs ++ ca) = some args')
    (h : Run funs (FinS fn.results v S') [.c fn.body] .normal (Env.ofArgs 0 args') ([] :: S)) (hnn : fn.nat = none := by rfl) : Rets funs (.func (.func g) fi ca) vs S v S' := by
  obtain ⟨k, x, e', S1, h1, h2, H', r, rfl, h3, h4⟩ := h.unrun
  refine ⟨k + 1, ?_⟩
  simp only [callV, hf, hnn, callFn, hs, cond_false, hu, runF, hn, Bool.not_true, h1]
  rcases h2 with rfl | rfl <;> simp [h3, h4]
/-- How a function ends that works in the caller's memory. -/
def FinM (rs : List IRes) (v : AV) (S' : Stack) : IX → Env → Stack → Prop := fun x e' S1 => (x = .normal ∨ x = .ret) ∧ S1 = S' ∧ resultsA e' S' rs = some v
theorem FinM_i {rs : List IRes} {ts : List Nat} {v : AV} {x : IX} {e : Env} {H : Heap} {S : Stack} (hx : x = .normal ∨ x = .ret) (ht : tmps rs = some ts) (hu : anyUn (ts.map (Env.get e)) = false) (hl : outV (ts.map (Env.get e)) = v) : FinM rs v (H :: S) x e (H :: S) :=
  ⟨hx, rfl, by rw [resultsA_tmps ht hu, hl]⟩
theorem Rets.mem {g : Nat} {fn : IFun} {fi ca vs : List AV} {H : Heap} {S S' : Stack} {v : AV} (hf : funs g = some fn) (hn : Nat.beq (fi ++ vs ++ ca).length fn.nargs = true) (hu : (bif fn.shared then none else mapO upf (fi ++ vs ++ ca)) = none)
    (h : Run funs (FinM fn.results v S') [.c fn.body] .normal (Env.ofArgs 0 (fi ++ vs ++ ca)) (H :: S)) (hnn : fn.nat = none := by rfl) : Rets funs (.func (.func g) fi ca) vs (H :: S) v S' := by
  obtain ⟨k, x, e', S1, h1, h2, rfl, h3⟩ := h.unrun
  refine ⟨k + 1, ?_⟩
  simp only [callV, hf, hnn, callFn, hu, runF, hn, Bool.not_true, cond_false, h1]
  rcases h2 with rfl | rfl <;> simp [h3]

/-! ### Ranges over functions -/
/-- A round's end. -/
def RndE (l : Nat) (b : Bool) (S' : Stack) : IX → Env → Stack → Prop := fun x _ S2 => ∃ H2 S3 L2, S2 = H2 :: S3 ∧ H2[l]? = some (.loop L2) ∧
  match x with
  | .normal => b = true ∧ S' = H2.set l (.loop { L2 with state := .ready, pending := none }) :: S3
  | .panic _ => False
  | x => b = false ∧ S' = H2.set l (.loop { L2 with state := .done, pending := some x }) :: S3
/-- A round, once its values are assigned. -/
def RndA (funs : Nat → Option IFun) (l : Nat) (body : IC) (b : Bool) (S' : Stack) : IX → Env → Stack → Prop := fun x e1 S1 => x = .normal ∧ ∃ H1 S2 L1, S1 = H1 :: S2 ∧ H1[l]? = some (.loop L1) ∧ L1.state = .ready ∧
  Run funs (RndE l b S') [.c body] .normal e1 (H1.set l (.loop { L1 with state := .busy }) :: S2)
theorem Rets.yield {l : Nat} {vs : List AV} {H : Heap} {S S' : Stack} {L : ILoop} {b : Bool} (hL : H[l]? = some (.loop L)) (hn : Nat.beq vs.length L.params.length = true)
    (h : Run funs (RndA funs l L.body b S') [.c L.assign] .normal (Env.sets L.env L.params vs) (H :: S)) : Rets funs (.func (.yield l) [] []) vs (H :: S) (.bool b) S' := by
  obtain ⟨k, x, e1, S1, h1, rfl, H1, S2, L1, rfl, h3, h4, h5⟩ := h.unrun
  obtain ⟨k2, x2, e2, S3, h6, H2, S4, L2, rfl, h7, h8⟩ := h5.unrun
  refine ⟨max k k2 + 1, ?_⟩
  have g1 := evC_up (Nat.le_max_left k k2) h1
  have g2 := evC_up (Nat.le_max_right k k2) h6
  simp only [callV, round, hL, hn, Bool.not_true, cond_false, g1, h3, h4, g2, endRound, h7]
  cases x2 with
  | normal => obtain ⟨rfl, rfl⟩ := h8; rfl
  | panic v => exact h8.elim
  | ret => obtain ⟨rfl, rfl⟩ := h8; rfl
  | exit j => obtain ⟨rfl, rfl⟩ := h8; rfl

/-- What is called, one item behind the other; it says at the last one whether it goes on. -/
def Cb (funs : Nat → Option IFun) (y : AV) (items : List (List AV)) (σ : Nat → Stack) (m : Nat) (stop : Bool) : Prop :=
  ∀ i, i < m → ∀ hl : i < items.length, Rets funs y items[i] (σ i) (.bool (!(stop && decide (i + 1 = m)))) (σ (i + 1))
/-- A function that goes through items. -/
def Iter (funs : Nat → Option IFun) (f : AV) (items : List (List AV)) : Prop :=
  ∀ (y0 y : AV) (σ : Nat → Stack) (m : Nat) (stop : Bool), upf y0 = some y → cellsOf y = some [y] → m ≤ items.length → (stop = false → m = items.length) → (stop = true → 0 < m) → (∀ Hc : Heap, Cb funs y items (fun i => Hc :: σ i) m stop) →
    ∃ v, Rets funs f [y0] (σ 0) v (σ m)
theorem Cb.ext {y : AV} {items : List (List AV)} {σ : Nat → Stack} {m : Nat} {stop : Bool} (hd : ∀ it ∈ items, mapO down it = some it) (h : Cb funs y items σ m stop) (Hc : Heap) : Cb funs (.ext y) items (fun i => Hc :: σ i) m stop :=
  fun i hi hl => Rets.ext (hd _ (List.getElem_mem hl)) (h i hi hl) rfl

theorem Run_rangeF {Q : IX → Env → Stack → Prop} {cs : List Fr} {g : Opd} {ps : List Nat} {asg body : IC} {e : Env} {H : Heap} {S : Stack} {v : AV} {H2 : Heap} {S2 : Stack} {L : ILoop} (hfn : isFnF (g.ev e) = true)
    (h : Rets funs (g.ev e) [.func (.yield H.length) [] []] ((H ++ [.loop ⟨.ready, none, e, ps, asg, body⟩]) :: S) v (H2 :: S2)) (hL : H2[H.length]? = some (.loop L)) (hb : L.state ≠ .busy)
    (k : Run funs Q cs (L.pending.getD .normal) e (H2.set H.length .dead :: S2)) : Run funs Q (.c (.rangeF g ps asg body) :: cs) .normal e (H :: S) := by
  obtain ⟨k0, hk⟩ := h
  refine ⟨k0, L.pending.getD .normal, e, _, ?_, k⟩
  simp only [evC, hfn, Bool.not_true, cond_false, hk, hL]

/-- A range, by what the rounds come to. -/
theorem Run_range {Q : IX → Env → Stack → Prop} {cs : List Fr} {g : Opd} {ps : List Nat} {asg body : IC} {e : Env} {H : Heap} {S : Stack} {items : List (List AV)} (hfn : isFnF (g.ev e) = true) (hit : Iter funs (g.ev e) items)
    (hd : ∀ it ∈ items, mapO down it = some it) (σ : Nat → Stack) (m : Nat) (stop : Bool) (hm : m ≤ items.length) (hns : stop = false → m = items.length) (hst : stop = true → 0 < m) (h0 : σ 0 = (H ++ [.loop ⟨.ready, none, e, ps, asg, body⟩]) :: S)
    (hcb : Cb funs (.func (.yield H.length) [] []) items σ m stop) {H2 : Heap} {S2 : Stack} {L : ILoop} (he : σ m = H2 :: S2) (hL : H2[H.length]? = some (.loop L)) (hb : L.state ≠ .busy)
    (k : Run funs Q cs (L.pending.getD .normal) e (H2.set H.length .dead :: S2)) : Run funs Q (.c (.rangeF g ps asg body) :: cs) .normal e (H :: S) := by
  obtain ⟨v, hv⟩ := hit (.func (.yield H.length) [] []) (.ext (.func (.yield H.length) [] [])) σ m stop rfl rfl hm hns hst (fun Hc => hcb.ext hd Hc)
  rw [h0, he] at hv
  exact Run_rangeF hfn hv hL hb k
end
end Go.AS

/-
  Ranges over functions, round by round. By an AI agent.
-/
namespace Go.AS
open Go
section
variable {funs : Nat → Option IFun}
/-- Rounds that go on, or end. -/
theorem rounds {y : AV} {items : List (List AV)} {Inv : Nat → Stack → Prop} {Done : Stack → Prop}
    (hstep : ∀ i (hi : i < items.length) s, Inv i s → (∃ s', Rets funs y items[i] s (.bool true) s' ∧ Inv (i + 1) s') ∨ ∃ s', Rets funs y items[i] s (.bool false) s' ∧ Done s') :
    ∀ (k i : Nat) (s : Stack), i + k = items.length → Inv i s → ∃ (σ : Nat → Stack) (m : Nat) (stop : Bool), i ≤ m ∧ m ≤ items.length ∧ (stop = false → m = items.length) ∧ (stop = true → i < m) ∧ σ i = s ∧
      (∀ j, i ≤ j → j < m → ∀ hl : j < items.length, Rets funs y items[j] (σ j) (.bool (!(stop && decide (j + 1 = m)))) (σ (j + 1))) ∧ (stop = false → Inv m (σ m)) ∧ (stop = true → Done (σ m)) := by
  intro k
  induction k with
  | zero =>
    intro i s hi h
    exact ⟨fun _ => s, i, false, Nat.le_refl _, by omega, fun _ => by omega, fun h => by (cases h), rfl, fun j h1 h2 => by omega, fun _ => h, fun h => by (cases h)⟩
  | succ k ih =>
    intro i s hi h
    have hl : i < items.length := by omega
    rcases hstep i hl s h with ⟨s', h1, h2⟩ | ⟨s', h1, h2⟩
    · obtain ⟨σ, m, stop, a1, a2, a3, a4, a5, a6, a7, a8⟩ := ih (i + 1) s' (by omega) h2
      refine ⟨fun j => if j ≤ i then s else σ j, m, stop, by omega, a2, a3, fun h => by have := a4 h; omega, by simp, ?_, ?_, ?_⟩
      · intro j j1 j2 jl
        by_cases hj : j = i
        · subst hj
          have e1 : (if j ≤ j then s else σ j) = s := if_pos (Nat.le_refl _)
          have e2 : (if j + 1 ≤ j then s else σ (j + 1)) = s' := by rw [if_neg (by omega), a5]
          have e3 : (stop && decide (j + 1 = m)) = false := by
            cases hs : stop with
            | false => rfl
            | true => have := a4 hs; simp; omega
          simp only [e1, e2, e3]
          exact h1
        · have e1 : (if j ≤ i then s else σ j) = σ j := if_neg (by omega)
          have e2 : (if j + 1 ≤ i then s else σ (j + 1)) = σ (j + 1) := if_neg (by omega)
          simp only [e1, e2]
          exact a6 j (by omega) j2 jl
      · intro hs
        have e1 : (if m ≤ i then s else σ m) = σ m := if_neg (by omega)
        simp only [e1]; exact a7 hs
      · intro hs
        have e1 : (if m ≤ i then s else σ m) = σ m := if_neg (by omega)
        simp only [e1]; exact a8 hs
    · refine ⟨fun j => if j ≤ i then s else s', i + 1, true, by omega, by omega, fun h => by (cases h), fun _ => by omega, by simp, ?_, fun h => by (cases h), fun _ => ?_⟩
      · intro j j1 j2 jl
        have hj : j = i := by omega
        subst hj
        have e2 : (if j + 1 ≤ j then s else s') = s' := if_neg (by omega)
        simp only [Nat.le_refl, if_true, e2]
        simpa using h1
      · have e1 : (if i + 1 ≤ i then s else s') = s' := if_neg (by omega)
        simp only [e1]; exact h2
/-- Behind a range. -/
def AfterR (funs : Nat → Option IFun) (Q : IX → Env → Stack → Prop) (cs : List Fr) (e : Env) (l : Nat) (s : Stack) : Prop :=
  ∃ H2 S2 L, s = H2 :: S2 ∧ H2[l]? = some (.loop L) ∧ L.state ≠ .busy ∧ Run funs Q cs (L.pending.getD .normal) e (H2.set l .dead :: S2)
theorem Run_rangeI {Q : IX → Env → Stack → Prop} {cs : List Fr} {g : Opd} {ps : List Nat} {asg body : IC} {e : Env} {H : Heap} {S : Stack} {items : List (List AV)} (hfn : isFnF (g.ev e) = true) (hit : Iter funs (g.ev e) items)
    (hd : ∀ it ∈ items, mapO down it = some it) (Inv : Nat → Stack → Prop) (h0 : Inv 0 ((H ++ [.loop ⟨.ready, none, e, ps, asg, body⟩]) :: S))
    (hstep : ∀ i (hi : i < items.length) s, Inv i s → (∃ s', Rets funs (.func (.yield H.length) [] []) items[i] s (.bool true) s' ∧ Inv (i + 1) s') ∨ ∃ s', Rets funs (.func (.yield H.length) [] []) items[i] s (.bool false) s' ∧ AfterR funs Q cs e H.length s')
    (hend : ∀ s, Inv items.length s → AfterR funs Q cs e H.length s) : Run funs Q (.c (.rangeF g ps asg body) :: cs) .normal e (H :: S) := by
  obtain ⟨σ, m, stop, a1, a2, a3, a4, a5, a6, a7, a8⟩ := rounds hstep items.length 0 _ (by omega) h0
  have : AfterR funs Q cs e H.length (σ m) := by
    cases hs : stop with
    | true => exact a8 hs
    | false => have := a7 hs; rw [a3 hs] at this ⊢; exact hend _ this
  obtain ⟨H2, S2, L, b1, b2, b3, b4⟩ := this
  exact Run_range hfn hit hd σ m stop a2 a3 a4 a5 (fun i hi hl => a6 i (Nat.zero_le _) hi hl) b1 b2 b3 b4
theorem Run_rangeJ {Q : IX → Env → Stack → Prop} {cs : List Fr} {g : Opd} {ps : List Nat} {asg body : IC} {e : Env} {H : Heap} {S : Stack} {items : List (List AV)} (hfn : isFnF (g.ev e) = true) (hit : Iter funs (g.ev e) items)
    (hd : ∀ it ∈ items, mapO down it = some it) (Inv : ILoop → Nat → Stack → Prop) (h0 : Inv ⟨.ready, none, e, ps, asg, body⟩ 0 ((H ++ [.loop ⟨.ready, none, e, ps, asg, body⟩]) :: S))
    (hstep : ∀ i (hi : i < items.length) s, Inv ⟨.ready, none, e, ps, asg, body⟩ i s → (∃ s', Rets funs (.func (.yield H.length) [] []) items[i] s (.bool true) s' ∧ Inv ⟨.ready, none, e, ps, asg, body⟩ (i + 1) s') ∨ ∃ s', Rets funs (.func (.yield H.length) [] []) items[i] s (.bool false) s' ∧ AfterR funs Q cs e H.length s')
    (hend : ∀ s, Inv ⟨.ready, none, e, ps, asg, body⟩ items.length s → AfterR funs Q cs e H.length s) : Run funs Q (.c (.rangeF g ps asg body) :: cs) .normal e (H :: S) :=
  Run_rangeI hfn hit hd (Inv ⟨.ready, none, e, ps, asg, body⟩) h0 hstep hend
theorem Rets.yieldI {l : Nat} {vs : List AV} {H : Heap} {S S' : Stack} {L : ILoop} {b : Bool} (hL : hat H l = .loop L) (hn : Nat.beq vs.length L.params.length = true)
    (h : Run funs (RndA funs l L.body b S') [.c L.assign] .normal (Env.sets L.env L.params vs) (H :: S)) : Rets funs (.func (.yield l) [] []) vs (H :: S) (.bool b) S' :=
  Rets.yield (hat_lt (by intro h; cases h) hL) hn h
theorem RndA_i {l : Nat} {body : IC} {b : Bool} {S' S2 : Stack} {e1 : Env} {H1 : Heap} {L1 : ILoop} (h : hat H1 l = .loop L1) (h2 : L1.state = .ready) (k : Run funs (RndE l b S') [.c body] .normal e1 (hset H1 l (.loop { L1 with state := .busy }) :: S2)) :
    RndA funs l body b S' .normal e1 (H1 :: S2) :=
  ⟨rfl, H1, S2, L1, rfl, hat_lt (by intro h; cases h) h, h2, by rw [hset_eq]; exact k⟩
theorem RndE_t {l : Nat} {S' S3 : Stack} {e : Env} {H2 : Heap} {L2 : ILoop} (h : hat H2 l = .loop L2) (hs : S' = hset H2 l (.loop { L2 with state := .ready, pending := none }) :: S3) : RndE l true S' .normal e (H2 :: S3) :=
  ⟨H2, S3, L2, rfl, hat_lt (by intro h; cases h) h, rfl, by rw [hset_eq]; exact hs⟩
theorem RndE_ret {l : Nat} {S' S3 : Stack} {e : Env} {H2 : Heap} {L2 : ILoop} (h : hat H2 l = .loop L2) (hs : S' = hset H2 l (.loop { L2 with state := .done, pending := some .ret }) :: S3) : RndE l false S' .ret e (H2 :: S3) :=
  ⟨H2, S3, L2, rfl, hat_lt (by intro h; cases h) h, rfl, by rw [hset_eq]; exact hs⟩
theorem AfterR_i {Q : IX → Env → Stack → Prop} {cs : List Fr} {e : Env} {l : Nat} {H2 : Heap} {S2 : Stack} {L : ILoop} (h : hat H2 l = .loop L) (hb : L.state ≠ .busy) (k : Run funs Q cs (L.pending.getD .normal) e (hset H2 l .dead :: S2)) : AfterR funs Q cs e l (H2 :: S2) :=
  ⟨H2, S2, L, rfl, hat_lt (by intro h; cases h) h, hb, by rw [hset_eq]; exact k⟩
/-- How a function ends, that works in the caller's memory: what is known of it. -/
def FinX (rs : List IRes) (P : AV → Stack → Prop) : IX → Env → Stack → Prop := fun x e' S1 => (x = .normal ∨ x = .ret) ∧ ∃ v, resultsA e' S1 rs = some v ∧ P v S1
theorem Rets.memX {g : Nat} {fn : IFun} {fi ca vs : List AV} {H : Heap} {S : Stack} {P : AV → Stack → Prop} (hf : funs g = some fn) (hn : Nat.beq (fi ++ vs ++ ca).length fn.nargs = true) (hu : (bif fn.shared then none else mapO upf (fi ++ vs ++ ca)) = none)
    (h : Run funs (FinX fn.results P) [.c fn.body] .normal (Env.ofArgs 0 (fi ++ vs ++ ca)) (H :: S)) (hnn : fn.nat = none := by rfl) : ∃ v S', Rets funs (.func (.func g) fi ca) vs (H :: S) v S' ∧ P v S' := by
  obtain ⟨k, x, e', S1, h1, h2, v, h3, h4⟩ := h.unrun
  refine ⟨v, S1, ⟨k + 1, ?_⟩, h4⟩
  simp only [callV, hf, hnn, callFn, hu, runF, hn, Bool.not_true, cond_false, h1]
  rcases h2 with rfl | rfl <;> simp [h3]
theorem FinX_c {i id : Nat} {v : AV} {P : AV → Stack → Prop} {x : IX} {e : Env} {H : Heap} {S : Stack} (hx : x = .normal ∨ x = .ret) (he : Env.get e i = .ptr id 1 0) (hh : hat H id = .cells [v]) (hP : P v (H :: S)) : FinX [.cell i none] P x e (H :: S) := by
  have h1 : H[id]? = some (.cells [v]) := hat_lt (by intro h; cases h) hh
  refine ⟨hx, v, ?_, hP⟩
  simp only [resultsA, mapO, resultA, he, h1]
  rfl
end
end Go.AS

/-
  Lists that are being built, wherever their cells stand; memories of which some objects are known. By an AI agent.
-/
namespace Go.AS
open Go
/-- The object that a list's cells lie in. -/
def isAt : AV → Nat → Bool
  | .ref id .., i => Nat.beq id i
  | _, _ => false
/-- What is kept: objects but those of the list that is being built. -/
structure Keep (H : Heap) (w : AV) (H' : Heap) (w' : AV) : Prop where
  len : H.length ≤ H'.length
  same : ∀ i, i < H.length → isAt w i = false → hat H' i = hat H i
  at_ : ∀ i, i < H.length → isAt w i = false → isAt w' i = false
theorem Keep.refl (H : Heap) (w : AV) : Keep H w H w := ⟨Nat.le_refl _, fun _ _ _ => rfl, fun _ _ h => h⟩
theorem Keep.trans {H1 H2 H3 : Heap} {w1 w2 w3 : AV} (a : Keep H1 w1 H2 w2) (b : Keep H2 w2 H3 w3) : Keep H1 w1 H3 w3 :=
  ⟨Nat.le_trans a.len b.len, fun i h1 h2 => by rw [b.same i (Nat.lt_of_lt_of_le h1 a.len) (a.at_ i h1 h2), a.same i h1 h2], fun i h1 h2 => b.at_ i (Nat.lt_of_lt_of_le h1 a.len) (a.at_ i h1 h2)⟩
theorem hat_app_lt {H L : Heap} {i : Nat} (h : i < H.length) : hat (H ++ L) i = hat H i := by
  rw [hat_app (H := H ++ L) (o := H[i]) (by rw [List.getElem?_append_left h, List.getElem?_eq_getElem h]), hat_app (List.getElem?_eq_getElem h)]
theorem hat_end (H L : Heap) (k : Nat) : hat (H ++ L) (H.length + k) = hat L k := by
  induction H with
  | nil => simp
  | cons x H ih =>
    have e : (x :: H).length + k = (H.length + k) + 1 := by simp; omega
    rw [e]
    exact ih
theorem hat_end0 (H L : Heap) : hat (H ++ L) H.length = hat L 0 := hat_end H L 0
theorem hset_end (H L : Heap) (k : Nat) (o : AObj) : hset (H ++ L) (H.length + k) o = H ++ hset L k o := by
  induction H with
  | nil => simp
  | cons x H ih =>
    have e : (x :: H).length + k = (H.length + k) + 1 := by simp; omega
    rw [e]
    show x :: hset (H ++ L) (H.length + k) o = _
    rw [ih]; rfl
theorem hset_end0 (H L : Heap) (o : AObj) : hset (H ++ L) H.length o = H ++ hset L 0 o := hset_end H L 0 o
theorem hset_len (H : Heap) (i : Nat) (o : AObj) : (hset H i o).length = H.length := by rw [← hset_eq, List.length_set]
theorem hat_hset_eq {H : Heap} {i : Nat} (o : AObj) (h : i < H.length) : hat (hset H i o) i = o := by
  rw [← hset_eq]; exact hat_app (by simp [h])
theorem hat_hset_ne {H : Heap} {i j : Nat} (o : AObj) (h : i ≠ j) : hat (hset H i o) j = hat H j := by
  rw [← hset_eq]
  cases hj : H[j]? with
  | none => rw [hat_none hj, hat_none (by rw [List.getElem?_set_ne h, hj])]
  | some p => rw [hat_app hj, hat_app (by rw [List.getElem?_set_ne h, hj])]
theorem Keep.app {H L : Heap} {w : AV} : Keep H w (H ++ L) w := ⟨by simp, fun _ h _ => hat_app_lt h, fun _ _ h => h⟩
section
variable {α : Type} [Cel α] {nl : Bool}
/-- A list that is being built by appends. -/
def Row (nl : Bool) (H : Heap) (w : AV) (l : List α) : Prop :=
  (l = [] ∧ w = .imm nl 0 0 (some 0) []) ∨ ∃ id, id < H.length ∧ l ≠ [] ∧ w = .ref id (l.length * Cel.n α) 0 (Cel.n α) l.length l.length false ∧ hat H id = .cells (cellsL l)
theorem Row.nil {H : Heap} : Row nl H (.imm nl 0 0 (some 0) []) ([] : List α) := .inl ⟨rfl, rfl⟩
theorem Row.app {H L : Heap} {w : AV} {l : List α} (h : Row nl H w l) : Row nl (H ++ L) w l := by
  rcases h with h | ⟨id, h1, h2, h3, h4⟩
  · exact .inl h
  · exact .inr ⟨id, by simp; omega, h2, h3, by rw [hat_app_lt h1, h4]⟩
theorem Row.hset {H : Heap} {w : AV} {l : List α} {i : Nat} {o : AObj} (h : Row nl H w l) (hi : isAt w i = false) : Row nl (hset H i o) w l := by
  rcases h with h | ⟨id, h1, h2, h3, h4⟩
  · exact .inl h
  · refine .inr ⟨id, by rw [hset_len]; exact h1, h2, h3, ?_⟩
    subst h3
    have : i ≠ id := by
      intro e; subst e; simp [isAt] at hi
    rw [hat_hset_ne _ this, h4]
theorem Row.bd {H : Heap} {w : AV} {l : List α} (h : Row nl H w l) {i : Nat} (hi : H.length ≤ i) : isAt w i = false := by
  rcases h with ⟨_, rfl⟩ | ⟨id, h1, h2, rfl, h4⟩
  · rfl
  · simp only [isAt]; rw [nbeq, litd, decide_eq_false]; omega
theorem Row.tmp {H : Heap} {w : AV} {l : List α} (h : Row nl H w l) : tmpV w = some w := by
  rcases h with ⟨_, rfl⟩ | ⟨id, h1, h2, rfl, h4⟩ <;> rfl
theorem Row.len {H H2 : Heap} {w : AV} {l : List α} (h : Row nl H w l) : opV H2 (.len (.c w)) = some (.int .i64 l.length, H2) := by
  rcases h with ⟨rfl, rfl⟩ | ⟨id, h1, h2, rfl, h4⟩ <;> rfl
theorem Row.ixa {H H2 : Heap} {w : AV} {l : List α} {es : Nat} {k : IntKind} {j : Int} (h : Row nl H w l) (he : es = Cel.n α) (h0 : 0 ≤ j) (h1 : j < l.length) :
    ∃ id, opV H2 (.ixa es (.c w) (.c (.int k j))) = some (.ptr id (l.length * Cel.n α) (j.toNat * Cel.n α), H2) ∧ hat H id = .cells (cellsL l) ∧ isAt w id = true := by
  rcases h with ⟨rfl, rfl⟩ | ⟨id, h2, h3, rfl, h4⟩
  · simp at h1; omega
  · subst he
    refine ⟨id, ?_, h4, by simp [isAt]⟩
    have c1 : decide (0 ≤ j) = true := by simpa using h0
    have c2 : decide (j < (l.length : Int)) = true := by simpa using h1
    have c3 : Nat.beq (Cel.n α) (Cel.n α) = true := by simp
    simp only [opV, evOp, Opd.ev, c1, c2, c3, Bool.and_self, cond_true, ok, Nat.zero_add]
theorem mapO_frz {H : Heap} (k : Nat) : ∀ (cs : List AV), hfrees cs = true → mapO (frz H (k + 1)) cs = some cs := by
  intro cs
  induction cs with
  | nil => intro _; rfl
  | cons c cs ih =>
    intro hf
    simp only [hfrees, Bool.and_eq_true] at hf
    have : frz H (k + 1) c = some c := by unfold frz; rw [hf.1]; rfl
    simp only [mapO, this, ih hf.2]
theorem Row.frz {H : Heap} {w : AV} {l : List α} (h : Row nl H w l) (k : Nat) : ∃ r, Go.AS.frz H (k + 2) w = some r ∧ hfree r = true ∧ fg r = sl (nl && l.isEmpty) l := by
  rcases h with ⟨rfl, rfl⟩ | ⟨id, h1, h2, rfl, h4⟩
  · exact ⟨_, rfl, rfl, by simp [sl, imm0, cellsL, fg, List.isEmpty]⟩
  · have hg : H[id]? = some (.cells (cellsL l)) := hat_lt (by intro h; cases h) h4
    have e1 : Nat.beq (cellsL l).length (l.length * Cel.n α) = true := by rw [cellsL_length]; simp
    have e2 : Nat.ble (0 + l.length * Cel.n α) (l.length * Cel.n α) = true := by simp
    have e3 : ((cellsL l).drop 0).take (l.length * Cel.n α) = cellsL l := by rw [List.drop_zero, ← cellsL_length, List.take_length]
    refine ⟨.imm false (Cel.n α) l.length none (cellsL l), ?_, hfrees_cellsL l, ?_⟩
    · unfold Go.AS.frz
      simp only [hfree, cond_false, hg, e1, e2, e3, mapO_frz k _ (hfrees_cellsL l), Bool.and_self, cond_true, Option.map_some]
    · have e4 : l.isEmpty = false := by cases l with | nil => exact absurd rfl h2 | cons a r => rfl
      cases l with
      | nil => exact absurd rfl h2
      | cons a r =>
        have e5 : Nat.beq (a :: r).length 0 = false := rfl
        simp only [fg, e5, cond_false, fgs_cellsL, e4, Bool.and_false, sl, imm0]
theorem down_f {v : AV} (h : hfree v = true) : down v = some v := by unfold down; rw [h]; rfl
theorem Row.leave {H : Heap} {w : AV} {l : List α} (h : Row nl H w l) : Go.AS.leave H w = some (sl (nl && l.isEmpty) l) := by
  obtain ⟨r, h1, h2, h3⟩ := h.frz 998
  unfold Go.AS.leave
  rw [h1]
  simp only [down_f h2, Option.map_some, h3]
theorem Row.leave2 {H : Heap} {w v : AV} {l : List α} [hv : FreeV v] (h : Row nl H w l) : Go.AS.leave H (.tuple [w, v]) = some (.tuple [sl (nl && l.isEmpty) l, v]) := by
  obtain ⟨r, h1, h2, h3⟩ := h.frz 997
  have h4 : Go.AS.frz H 999 v = some v := by unfold Go.AS.frz; rw [hv.free]; rfl
  by_cases hw : hfree (.tuple [w, v]) = true
  · have hw' : hfree w = true := by simp only [hfree, hfrees, Bool.and_eq_true] at hw; exact hw.1
    have : r = w := by
      have e : Go.AS.frz H 999 w = some w := by unfold Go.AS.frz; rw [hw']; rfl
      rw [e] at h1; exact (Option.some.inj h1).symm
    subst this
    rw [leave_f hw]
    simp only [fg, fgs, h3, hv.fg]
  · have hw' : hfree (.tuple [w, v]) = false := by simpa using hw
    have e : Go.AS.frz H 1000 (.tuple [w, v]) = some (.tuple [r, v]) := by
      rw [show (1000 : Nat) = 999 + 1 from rfl, Go.AS.frz]
      simp only [hw', cond_false, mapO, h1, h4, Option.map_some]
    unfold Go.AS.leave
    rw [e]
    have hf : hfree (.tuple [r, v]) = true := by simp only [hfree, hfrees, h2, hv.free, Bool.and_self]
    simp only [down_f hf, Option.map_some, fg, fgs, h3, hv.fg]
/-- A cell of it. -/
theorem loadO_row {l : List α} {n : Option Nat} {i o : Nat} (h : i < l.length) (ho : Nat.ble (o + n.getD 1) (Cel.n α) = true) : loadO (.cells (cellsL l)) n (l.length * Cel.n α) (i * Cel.n α + o) = one n (Cel.enc l[i]) o := by
  have ho : o + n.getD 1 ≤ Cel.n α := Nat.le_of_ble_eq_true ho
  have h1 : Nat.beq (cellsL l).length (l.length * Cel.n α) = true := by rw [cellsL_length]; simp
  have h2 := cellsL_at l i h
  have h3 : (cellsL l).length = l.length * Cel.n α := cellsL_length l
  have h4 : (i + 1) * Cel.n α ≤ l.length * Cel.n α := Nat.mul_le_mul_right _ h
  have h5 : (i + 1) * Cel.n α = i * Cel.n α + Cel.n α := by rw [Nat.add_mul, Nat.one_mul]
  simp only [loadO, h1, cond_true, ← h2]
  cases n with
  | none =>
    simp only [Option.getD] at ho
    simp only [one, List.getElem?_take, List.getElem?_drop]
    rw [if_pos (by omega)]
  | some n =>
    simp only [Option.getD] at ho
    simp only [one]
    have e1 : Nat.ble (i * Cel.n α + o + n) (cellsL l).length = true := Nat.ble_eq_true_of_le (by omega)
    have e2 : Nat.ble (o + n) (List.take (Cel.n α) (List.drop (i * Cel.n α) (cellsL l))).length = true := Nat.ble_eq_true_of_le (by simp only [List.length_take, List.length_drop]; omega)
    rw [e1, e2]
    simp only [cond_true, List.drop_take, List.drop_drop, List.take_take]
    congr 3
    omega
theorem loadO_row0 {l : List α} {n : Option Nat} {i : Nat} (h : i < l.length) (ho : Nat.ble (0 + n.getD 1) (Cel.n α) = true) : loadO (.cells (cellsL l)) n (l.length * Cel.n α) (i * Cel.n α) = one n (Cel.enc l[i]) 0 := loadO_row (o := 0) h ho
theorem Row.append {H : Heap} {w : AV} {l : List α} {es bytes : Nat} (x : α) (h : Row nl H w l) (he : es = Cel.n α) (hp : Nat.blt 0 (Cel.n α) = true) (hr : room bytes (l.length + 1) = true) :
    ∃ w' H', opV H (.append es bytes (.c w) (.c (.imm false es 1 (some 1) (Cel.enc x)))) = some (w', H') ∧ Row nl H' w' (l ++ [x]) ∧ Keep H w H' w' := by
  subst he
  have hp0 : 0 < Cel.n α := Nat.le_of_ble_eq_true hp
  have e0 : Nat.beq (Cel.n α) (Cel.n α) = true := by simp
  have e1 : srcCells (.imm false (Cel.n α) 1 (some 1) (Cel.enc x)) H (Cel.n α) = some (Cel.enc x) := by
    show (bif Nat.beq (Cel.n α) (Cel.n α) || Nat.beq 1 0 then some (Cel.enc x) else none) = _
    rw [e0]; rfl
  have e2 : srcLen (.imm false (Cel.n α) 1 (some 1) (Cel.enc x)) = some 1 := rfl
  rcases h with ⟨rfl, rfl⟩ | ⟨id, h2, h3, rfl, h4⟩
  · have e3 : opV H (.append (Cel.n α) bytes (.c (.imm nl 0 0 (some 0) [])) (.c (.imm false (Cel.n α) 1 (some 1) (Cel.enc x)))) = some (.ref H.length (1 * Cel.n α) 0 (Cel.n α) 1 1 false, H ++ [.cells (Cel.enc x)]) := by
      simp only [opV, evOp, Opd.ev, appendA, e1, e2]
      have e4 : (!(Nat.beq (Cel.n α) 0 || Nat.beq 0 0)) = false := by cases Nat.beq (Cel.n α) 0 <;> rfl
      have e5 : room bytes (0 + 1) = true := by simpa using hr
      rw [e4, e5]
      rfl
    refine ⟨_, _, e3, .inr ⟨H.length, by simp, by simp, rfl, ?_⟩, by simp, fun i hi _ => hat_app_lt hi, fun i hi _ => ?_⟩
    · rw [hat_end0]; simp [hat_0, cellsL]
    · simp only [isAt]; rw [nbeq, litd, decide_eq_false]; omega
  · have hg : H[id]? = some (.cells (cellsL l)) := hat_lt (by intro h; cases h) h4
    have e4 : Nat.beq (cellsL l).length (l.length * Cel.n α) = true := by rw [cellsL_length]; simp
    have e5 : Nat.ble (l.length + 1) l.length = false := by rw [nble, litd, decide_eq_false]; omega
    have e6 : Nat.beq (l.length * Cel.n α) (l.length * Cel.n α) = true := by simp
    have e7 : (cellsL l).take (l.length * Cel.n α) ++ Cel.enc x = cellsL (l ++ [x]) := by
      rw [cellsL_append, List.take_of_length_le (by rw [cellsL_length]; exact Nat.le_refl _)]; simp [cellsL]
    have e3 : opV H (.append (Cel.n α) bytes (.c (.ref id (l.length * Cel.n α) 0 (Cel.n α) l.length l.length false)) (.c (.imm false (Cel.n α) 1 (some 1) (Cel.enc x)))) =
        some (.ref id ((l.length + 1) * Cel.n α) 0 (Cel.n α) (l.length + 1) (l.length + 1) false, Go.AS.hset H id (.cells (cellsL (l ++ [x])))) := by
      simp only [opV, evOp, Opd.ev, appendA, e1, e2, hg, e4, e0, e5, hr, e6, hp, e7, hset_eq, Bool.not_true, Bool.or_self, cond_false, Bool.not_true, Bool.and_self, cond_true]
      rfl
    refine ⟨_, _, e3, .inr ⟨id, by rw [hset_len]; exact h2, by simp, by simp, ?_⟩, by rw [hset_len]; exact Nat.le_refl _, fun i hi h6 => ?_, fun i hi h6 => by simpa [isAt] using h6⟩
    · rw [hat_hset_eq _ h2]
    · refine hat_hset_ne _ ?_
      intro e; subst e; simp [isAt] at h6
end
theorem FinX_g {funs : Nat → Option IFun} {rs : List IRes} {vs : List AV} {v : AV} {P : AV → Stack → Prop} {x : IX} {e : Env} {H : Heap} {S : Stack} (hx : x = .normal ∨ x = .ret) (hr : mapO (resultA e H) rs = some vs) (hl : outV vs = v) (hP : P v (H :: S)) : FinX rs P x e (H :: S) := by
  subst hl
  refine ⟨hx, _, ?_, hP⟩
  simp only [resultsA, hr]
  match vs with
  | [] => rfl
  | [a] => rfl
  | a :: b :: r => rfl
theorem lox1 (a : AObj) (x y : Heap) : (a :: x) ++ y = a :: (x ++ y) := rfl
theorem lox3 (x : Heap) : [] ++ x = x := rfl
theorem lox5 (x y z : Heap) : (x ++ y) ++ z = x ++ (y ++ z) := List.append_assoc x y z
theorem lox6 (x y : Heap) : (x ++ y).length = x.length + y.length := List.length_append
theorem hxL : Ty (And.intro @hat_end <| And.intro @hat_end0 <| And.intro @hset_end <| And.intro @hset_end0 <| And.intro @lox1 <| And.intro @lox3 <| And.intro @lox5 <| And.intro @lox6 <| And.intro @hset_len <| And.intro @Nat.add_assoc <| And.intro @loadO_row <| @loadO_row0) := And.intro @hat_end <| And.intro @hat_end0 <| And.intro @hset_end <| And.intro @hset_end0 <| And.intro @lox1 <| And.intro @lox3 <| And.intro @lox5 <| And.intro @lox6 <| And.intro @hset_len <| And.intro @Nat.add_assoc <| And.intro @loadO_row <| @loadO_row0
end Go.AS

/-
  The library's functions that are told. By an AI agent.
-/
namespace Go.AS
open Go
variable {funs : Nat → Option IFun} {f t el : Nat} {H : Heap} {S : Stack} {id : Nat} {bs s : List UInt8}
theorem hset_app_lt {H L : Heap} {k : Nat} {o : AObj} (h : k < H.length) : hset (H ++ L) k o = hset H k o ++ L := by
  rw [← hset_eq, ← hset_eq, List.set_append_left _ _ h]
theorem wbyte_r (hf : funs f = some (IFun.mk true 0 [] .nop (some (.wbyte t el)))) {n : Int} (h : hat H id = .bld t el bs) (hl : bs.length + 1 ≤ maxText) (h0 : 0 ≤ n) (h1 : n < 256) :
    Rets funs (.func (.func f) [] []) [.ptr id 0 0, .int .u8 n] (H :: S) .nilIface (hset H id (.bld t el (bs ++ [UInt8.ofNat n.toNat])) :: S) := by
  refine ⟨1, ?_⟩
  have h2 := hat_lt (by intro h; cases h) h
  have h3 : Nat.ble (bs.length + 1) maxText = true := by rw [Nat.ble_eq]; exact hl
  have h4 : Nat.beq t t = true := Nat.beq_refl t
  have h5 : Nat.beq el el = true := Nat.beq_refl el
  simp only [callV, hf, List.nil_append, List.append_nil, natV, h2, h3, h4, h5, h0, h1, decide_true, Bool.and_self, cond_true, hset_eq]
theorem wstr_r (hf : funs f = some (IFun.mk true 0 [] .nop (some (.wstr t el)))) (h : hat H id = .bld t el bs) (hl : bs.length + s.length ≤ maxText) :
    Rets funs (.func (.func f) [] []) [.ptr id 0 0, .str s] (H :: S) (.tuple [.int .i64 s.length, .nilIface]) (hset H id (.bld t el (bs ++ s)) :: S) := by
  refine ⟨1, ?_⟩
  have h2 := hat_lt (by intro h; cases h) h
  have h3 : Nat.ble (bs.length + s.length) maxText = true := by rw [Nat.ble_eq]; exact hl
  have h4 : Nat.beq t t = true := Nat.beq_refl t
  have h5 : Nat.beq el el = true := Nat.beq_refl el
  simp only [callV, hf, List.nil_append, List.append_nil, natV, h2, h3, h4, h5, Bool.and_self, cond_true, hset_eq]
theorem bstr_r (hf : funs f = some (IFun.mk true 0 [] .nop (some (.bstr t el)))) (h : hat H id = .bld t el bs) :
    Rets funs (.func (.func f) [] []) [.ptr id 0 0] (H :: S) (.str bs) (hset H id (.bld t el bs) :: S) := by
  refine ⟨1, ?_⟩
  have h2 := hat_lt (by intro h; cases h) h
  have h4 : Nat.beq t t = true := Nat.beq_refl t
  have h5 : Nat.beq el el = true := Nat.beq_refl el
  simp only [callV, hf, List.nil_append, List.append_nil, natV, h2, h4, h5, Bool.and_self, cond_true, hset_eq]
theorem repeats_g (hf : funs f = some (IFun.mk true 0 [] .nop (some .repeats))) {n : Int} (h0 : 0 ≤ n) (h1 : n ≤ 9223372036854775807) (h2 : s.length * n.toNat ≤ maxText) :
    Gives funs f [.str s, .int .i64 n] (.str (repL s n.toNat)) := by
  refine ⟨1, ?_⟩
  have h3 : Nat.ble (s.length * n.toNat) maxText = true := by rw [Nat.ble_eq]; exact h2
  simp only [callV, hf, List.nil_append, List.append_nil, natV, natS, h3, h0, h1, decide_true, Bool.and_self, cond_true]
end Go.AS

/-
  Rows of rows in a memory: what they show, and where. By an AI agent.
-/
namespace Go.AS
open Go
theorem mapO_mono {α β : Type} {f g : α → Option β} (h : ∀ a b, f a = some b → g a = some b) : ∀ (l : List α) (r : List β), mapO f l = some r → mapO g l = some r
  | [], r, hr => hr
  | x :: l, r, hr => by
    simp only [mapO] at hr ⊢
    split at hr
    · rename_i y ys h1 h2
      rw [h _ _ h1, mapO_mono h l _ h2]
      exact hr
    · cases hr
theorem frz_mono {H H' : Heap} (h : ∀ (id : Nat) (cs : List AV), H[id]? = some (AObj.cells cs) → H'[id]? = some (AObj.cells cs)) : ∀ (k : Nat) (w r : AV), frz H k w = some r → frz H' k w = some r
  | 0, _, _, hr => by simp [frz] at hr
  | k + 1, w, r, hr => by
    have ih := mapO_mono (frz_mono h k)
    unfold frz at hr ⊢
    cases hf : hfree w with
    | true => rw [hf] at hr; exact hr
    | false =>
      rw [hf] at hr
      simp only [cond_false] at hr ⊢
      cases w with
      | ptr id lim off =>
        simp only at hr ⊢
        split at hr
        · rename_i cs hg
          rw [h _ _ hg]
          simp only
          rw [Bool.cond_eq_ite] at hr ⊢
          split at hr
          · rename_i hc
            rw [if_pos hc]
            rw [Option.map_eq_some_iff] at hr ⊢
            obtain ⟨y, h1, h2⟩ := hr
            exact ⟨y, ih _ _ h1, h2⟩
          · cases hr
        · cases hr
      | ref id lim off es len cap ex =>
        simp only at hr ⊢
        split at hr
        · rename_i cs hg
          rw [h _ _ hg]
          simp only
          rw [Bool.cond_eq_ite] at hr ⊢
          split at hr
          · rename_i hc
            rw [if_pos hc]
            rw [Option.map_eq_some_iff] at hr ⊢
            obtain ⟨y, h1, h2⟩ := hr
            exact ⟨y, ih _ _ h1, h2⟩
          · cases hr
        · cases hr
      | iptr row o => simp only [Option.map_eq_some_iff] at hr ⊢; obtain ⟨y, h1, h2⟩ := hr; exact ⟨y, ih _ _ h1, h2⟩
      | imm n es l c cs => simp only [Option.map_eq_some_iff] at hr ⊢; obtain ⟨y, h1, h2⟩ := hr; exact ⟨y, ih _ _ h1, h2⟩
      | agg cs => simp only [Option.map_eq_some_iff] at hr ⊢; obtain ⟨y, h1, h2⟩ := hr; exact ⟨y, ih _ _ h1, h2⟩
      | tuple cs => simp only [Option.map_eq_some_iff] at hr ⊢; obtain ⟨y, h1, h2⟩ := hr; exact ⟨y, ih _ _ h1, h2⟩
      | iface t v => simp only [Option.map_eq_some_iff] at hr ⊢; obtain ⟨y, h1, h2⟩ := hr; exact ⟨y, frz_mono h k _ _ h1, h2⟩
      | ext v => exact hr
      | func fn fi ca =>
        cases fn with
        | yield l => simp only at hr; cases hr
        | _ =>
          simp only at hr ⊢
          split at hr
          · rename_i a b h1 h2
            rw [ih _ _ h1, ih _ _ h2]
            exact hr
          · cases hr
      | _ => cases hr
/-- The objects that are looked at. -/
def mask (P : Nat → Bool) (G : Heap) : Heap := G.mapIdx fun i o => bif P i then o else .dead
theorem mask_get (P : Nat → Bool) (G : Heap) (i : Nat) (cs : List AV) : (mask P G)[i]? = some (.cells cs) ↔ P i = true ∧ G[i]? = some (.cells cs) := by
  unfold mask
  rw [List.getElem?_mapIdx]
  cases h : G[i]? with
  | none => simp
  | some o => cases hp : P i <;> simp
theorem hat_iff {G : Heap} {i : Nat} {cs : List AV} : G[i]? = some (.cells cs) ↔ hat G i = .cells cs :=
  ⟨hat_app, fun h => hat_lt (by intro h; cases h) h⟩
theorem mask_hat (P : Nat → Bool) (G : Heap) (i : Nat) (cs : List AV) : hat (mask P G) i = .cells cs ↔ P i = true ∧ hat G i = .cells cs := by
  rw [← hat_iff, mask_get, hat_iff]
/-- What cells show, that look at some objects alone. -/
def Fz (P : Nat → Bool) (d : Nat) (G : Heap) (cs cs' : List AV) : Prop := ∀ k, mapO (frz (mask P G) (k + d)) cs = some cs'
theorem Fz.to {P P' : Nat → Bool} {d : Nat} {G G' : Heap} {cs cs' : List AV} (h : Fz P d G cs cs') (hP : ∀ i, i < G.length → P i = true → P' i = true ∧ hat G' i = hat G i) : Fz P' d G' cs cs' := fun k => by
  refine mapO_mono (frz_mono (fun id cs hid => ?_) (k + d)) _ _ (h k)
  rw [mask_get] at hid ⊢
  have hlt := (List.getElem?_eq_some_iff.1 hid.2).1
  obtain ⟨h1, h2⟩ := hP id hlt hid.1
  exact ⟨h1, hat_iff.2 (h2.trans (hat_iff.1 hid.2))⟩
theorem Fz.app {P : Nat → Bool} {d : Nat} {G : Heap} {a b a' b' : List AV} (h1 : Fz P d G a a') (h2 : Fz P d G b b') : Fz P d G (a ++ b) (a' ++ b') := fun k => by
  have g1 := h1 k
  have g2 := h2 k
  have key : ∀ (f : AV → Option AV) (a a' : List AV), mapO f a = some a' → mapO f b = some b' → mapO f (a ++ b) = some (a' ++ b') := by
    intro f a
    induction a with
    | nil => intro a' e1 e2; cases e1; exact e2
    | cons x a ih =>
      intro a' e1 e2
      simp only [mapO] at e1
      split at e1
      · rename_i y ys e3 e4
        cases e1
        simp only [List.cons_append, mapO, e3, ih _ e4 e2]
      · cases e1
  exact key _ _ _ g1 g2
theorem Fz.up {P : Nat → Bool} {d : Nat} {G : Heap} {a b : List AV} (h : Fz P d G a b) (e : Nat) : Fz P (d + e) G a b := fun k => by
  have := h (k + e)
  rwa [show k + e + d = k + (d + e) by omega] at this
theorem Fz.free {P : Nat → Bool} {G : Heap} {cs : List AV} (h : hfrees cs = true) : Fz P 1 G cs cs := fun k => mapO_frz k cs h
theorem fgs_app2 (a b : List AV) : fgs (a ++ b) = fgs a ++ fgs b := by
  induction a with
  | nil => rfl
  | cons x a ih => simp only [List.cons_append, fgs, ih]
theorem hfrees_app2 {a b : List AV} (ha : hfrees a = true) (hb : hfrees b = true) : hfrees (a ++ b) = true := by
  induction a with
  | nil => exact hb
  | cons x a ih =>
    simp only [hfrees, Bool.and_eq_true] at ha
    simp only [List.cons_append, hfrees, ha.1, ih ha.2, Bool.and_self]
section
variable {α : Type} [Cel α] {nl : Bool}
/-- A row's elements, seen. -/
theorem Row.fz {G : Heap} {w : AV} {l : List α} {P : Nat → Bool} (h : Row nl G w l) (hP : ∀ j, isAt w j = true → P j = true) : ∃ r, Fz P 2 G [w] [r] ∧ hfree r = true ∧ fg r = sl (nl && l.isEmpty) l := by
  have h' : Row nl (mask P G) w l := by
    rcases h with h | ⟨id, h1, h2, rfl, h4⟩
    · exact .inl h
    · refine .inr ⟨id, by unfold mask; rw [List.length_mapIdx]; exact h1, h2, rfl, ?_⟩
      rw [mask_hat]
      exact ⟨hP id (by simp [isAt]), h4⟩
  obtain ⟨r, h1, h2, h3⟩ := h'.frz 0
  refine ⟨r, fun k => ?_, h2, h3⟩
  obtain ⟨r2, g1, _, _⟩ := h'.frz k
  have : r2 = r := by
    rcases h' with ⟨rfl, rfl⟩ | ⟨id, h4, h5, rfl, h6⟩
    · have e : ∀ k, Go.AS.frz (mask P G) (k + 2) (.imm nl 0 0 (some 0) []) = some (.imm nl 0 0 (some 0) []) := fun k => by unfold Go.AS.frz; rfl
      rw [e] at g1 h1
      cases g1; cases h1; rfl
    · have hg : (mask P G)[id]? = some (.cells (cellsL l)) := hat_lt (by intro h; cases h) h6
      have e : ∀ k, Go.AS.frz (mask P G) (k + 2) (.ref id (l.length * Cel.n α) 0 (Cel.n α) l.length l.length false) = some (.imm false (Cel.n α) l.length none (cellsL l)) := fun k => by
        have e1 : Nat.beq (cellsL l).length (l.length * Cel.n α) = true := by rw [cellsL_length]; simp
        have e2 : Nat.ble (0 + l.length * Cel.n α) (l.length * Cel.n α) = true := by simp
        have e3 : ((cellsL l).drop 0).take (l.length * Cel.n α) = cellsL l := by rw [List.drop_zero, ← cellsL_length, List.take_length]
        unfold Go.AS.frz
        simp only [hfree, cond_false, hg, e1, e2, e3, mapO_frz k _ (hfrees_cellsL l), Bool.and_self, cond_true, Option.map_some]
      rw [e] at g1 h1
      cases g1; cases h1; rfl
  rw [this] at g1
  simp only [mapO, g1]
/-- A row of rows that is being built by appends; P: where it, and what it shows, lies. -/
def RowD (P : Nat → Bool) (d : Nat) (nl : Bool) (G : Heap) (w : AV) (l : List α) : Prop :=
  (l = [] ∧ w = .imm nl 0 0 (some 0) []) ∨ ∃ id cs cs', id < G.length ∧ l ≠ [] ∧ w = .ref id (l.length * Cel.n α) 0 (Cel.n α) l.length l.length false ∧ hat G id = .cells cs ∧ cs.length = l.length * Cel.n α ∧ P id = true ∧
    Fz (fun i => P i && !(Nat.beq i id)) d G cs cs' ∧ hfrees cs' = true ∧ fgs cs' = cellsL l
variable {P P' : Nat → Bool} {d : Nat} {G G' : Heap} {w : AV} {l : List α}
theorem RowD.nil : RowD P d nl G (.imm nl 0 0 (some 0) []) ([] : List α) := .inl ⟨rfl, rfl⟩
theorem RowD.to (h : RowD P d nl G w l) (hl : G.length ≤ G'.length) (hP : ∀ i, i < G.length → P i = true → P' i = true ∧ hat G' i = hat G i) : RowD P' d nl G' w l := by
  rcases h with h | ⟨id, cs, cs', h1, h2, h3, h4, h5, h6, h7, h8⟩
  · exact .inl h
  · refine .inr ⟨id, cs, cs', Nat.lt_of_lt_of_le h1 hl, h2, h3, (hP id h1 h6).2.trans h4, h5, (hP id h1 h6).1, h7.to fun i hi hp => ?_, h8⟩
    simp only [Bool.and_eq_true] at hp ⊢
    obtain ⟨a, b⟩ := hP i hi hp.1
    exact ⟨⟨a, hp.2⟩, b⟩
theorem RowD.isAt (h : RowD P d nl G w l) {j : Nat} (hj : Go.AS.isAt w j = true) : P j = true ∧ j < G.length := by
  rcases h with ⟨_, rfl⟩ | ⟨id, cs, cs', h1, h2, rfl, h4, h5, h6, h7, h8⟩
  · cases hj
  · have : id = j := by simpa [Go.AS.isAt] using hj
    subst this
    exact ⟨h6, h1⟩
theorem RowD.fz (h : RowD P d nl G w l) : ∃ r, Fz P (d + 2) G [w] [r] ∧ hfree r = true ∧ fg r = sl (nl && l.isEmpty) l := by
  rcases h with ⟨rfl, rfl⟩ | ⟨id, cs, cs', h1, h2, rfl, h4, h5, h6, h7, h8, h9⟩
  · exact ⟨.imm nl 0 0 (some 0) [], fun k => by rw [show k + (d + 2) = (k + d + 1) + 1 by omega]; exact mapO_frz _ _ rfl, rfl, by cases nl <;> rfl⟩
  · have hg : (mask P G)[id]? = some (.cells cs) := by rw [mask_get]; exact ⟨h6, hat_lt (by intro h; cases h) h4⟩
    have e1 : Nat.beq cs.length (l.length * Cel.n α) = true := by rw [h5]; simp
    have e2 : Nat.ble (0 + l.length * Cel.n α) (l.length * Cel.n α) = true := by simp
    have e3 : (cs.drop 0).take (l.length * Cel.n α) = cs := by rw [List.drop_zero, ← h5, List.take_length]
    have hF : Fz P d G cs cs' := h7.to fun i _ hp => by
      simp only [Bool.and_eq_true] at hp
      exact ⟨hp.1, rfl⟩
    refine ⟨.imm false (Cel.n α) l.length none cs', fun k => ?_, h8, ?_⟩
    · have e4 : Go.AS.frz (mask P G) (k + (d + 2)) (.ref id (l.length * Cel.n α) 0 (Cel.n α) l.length l.length false) = some (.imm false (Cel.n α) l.length none cs') := by
        rw [show k + (d + 2) = (k + 1 + d) + 1 by omega, Go.AS.frz]
        simp only [hfree, cond_false, hg, e1, e2, e3, hF (k + 1), Bool.and_self, cond_true, Option.map_some]
      simp only [mapO, e4]
    · cases l with
      | nil => exact absurd rfl h2
      | cons a r =>
        have e5 : Nat.beq (a :: r).length 0 = false := rfl
        simp only [fg, e5, cond_false, h9, List.isEmpty, Bool.and_false, sl, imm0]
theorem RowD.one (h : RowD P d nl G w l) : cellsOf w = some [w] := by rcases h with ⟨_, rfl⟩ | ⟨id, cs, cs', h1, h2, rfl, h4, h5, h6, h7, h8⟩ <;> rfl
theorem RowD.append {es bytes : Nat} (x : α) (xs xs' : List AV) (h : RowD P d nl G w l) (he : es = Cel.n α) (hp : Nat.blt 0 (Cel.n α) = true) (hr : room bytes (l.length + 1) = true)
    (hx1 : xs.length = Cel.n α) (hx : Fz (fun i => P i && !(Go.AS.isAt w i)) d G xs xs') (hx2 : hfrees xs' = true) (hx3 : fgs xs' = Cel.enc x) (hnew : P G.length = true) :
    ∃ w' G', opV G (.append es bytes (.c w) (.c (.imm false es 1 (some 1) xs))) = some (w', G') ∧ RowD P d nl G' w' (l ++ [x]) ∧ Keep G w G' w' := by
  subst he
  have e0 : Nat.beq (Cel.n α) (Cel.n α) = true := by simp
  have e1 : srcCells (.imm false (Cel.n α) 1 (some 1) xs) G (Cel.n α) = some xs := by
    show (bif Nat.beq (Cel.n α) (Cel.n α) || Nat.beq 1 0 then some xs else none) = _
    rw [e0]; rfl
  have e2 : srcLen (.imm false (Cel.n α) 1 (some 1) xs) = some 1 := rfl
  rcases h with ⟨rfl, rfl⟩ | ⟨id, cs, cs', h2, h3, rfl, h4, h5, h6, h7, h8, h9⟩
  · have e3 : opV G (.append (Cel.n α) bytes (.c (.imm nl 0 0 (some 0) [])) (.c (.imm false (Cel.n α) 1 (some 1) xs))) = some (.ref G.length (1 * Cel.n α) 0 (Cel.n α) 1 1 false, G ++ [.cells xs]) := by
      simp only [opV, evOp, Opd.ev, appendA, e1, e2]
      have e4 : (!(Nat.beq (Cel.n α) 0 || Nat.beq 0 0)) = false := by cases Nat.beq (Cel.n α) 0 <;> rfl
      have e5 : room bytes (0 + 1) = true := by simpa using hr
      rw [e4, e5]
      rfl
    refine ⟨_, _, e3, .inr ⟨G.length, xs, xs', by simp, by simp, rfl, ?_, by simp [hx1], hnew, ?_, hx2, ?_⟩, by simp, fun i hi _ => hat_app_lt hi, fun i hi _ => ?_⟩
    · rw [hat_end0]; simp [hat_0]
    · refine hx.to fun i hi hp => ⟨?_, hat_app_lt hi⟩
      simp only [Go.AS.isAt, Bool.not_false, Bool.and_true] at hp
      have : Nat.beq i G.length = false := by rw [nbeq, litd, decide_eq_false]; omega
      simp only [hp, this, Bool.not_false, Bool.and_self]
    · rw [hx3]; simp [cellsL]
    · simp only [Go.AS.isAt]; rw [nbeq, litd, decide_eq_false]; omega
  · have hg : G[id]? = some (.cells cs) := hat_lt (by intro h; cases h) h4
    have e4 : Nat.beq cs.length (l.length * Cel.n α) = true := by rw [h5]; simp
    have e5 : Nat.ble (l.length + 1) l.length = false := by rw [nble, litd, decide_eq_false]; omega
    have e6 : Nat.beq (l.length * Cel.n α) (l.length * Cel.n α) = true := by simp
    have e7 : cs.take (l.length * Cel.n α) = cs := by rw [← h5, List.take_length]
    have e3 : opV G (.append (Cel.n α) bytes (.c (.ref id (l.length * Cel.n α) 0 (Cel.n α) l.length l.length false)) (.c (.imm false (Cel.n α) 1 (some 1) xs))) =
        some (.ref id ((l.length + 1) * Cel.n α) 0 (Cel.n α) (l.length + 1) (l.length + 1) false, Go.AS.hset G id (.cells (cs ++ xs))) := by
      simp only [opV, evOp, Opd.ev, appendA, e1, e2, hg, e4, e0, e5, hr, e6, hp, e7, hset_eq, Bool.not_true, Bool.or_self, cond_false, Bool.and_self, cond_true]
      rfl
    have hne : ∀ i, Nat.beq i id = false → hat (Go.AS.hset G id (.cells (cs ++ xs))) i = hat G i := fun i hi => hat_hset_ne _ (fun e => by subst e; simp at hi)
    refine ⟨_, _, e3, .inr ⟨id, cs ++ xs, cs' ++ xs', by rw [hset_len]; exact h2, by simp, by simp, ?_, ?_, h6, ?_, hfrees_app2 h8 hx2, ?_⟩, by rw [hset_len]; exact Nat.le_refl _, fun i hi h6 => ?_, fun i hi h6 => by simpa [Go.AS.isAt] using h6⟩
    · rw [hat_hset_eq _ h2]
    · rw [List.length_append, h5, hx1, List.length_append, List.length_singleton, Nat.add_mul, Nat.one_mul]
    · refine Fz.app (h7.to fun i hi hp => ⟨hp, hne i ?_⟩) (hx.to fun i hi hp => ?_)
      · simp only [Bool.and_eq_true, Bool.not_eq_true'] at hp; exact hp.2
      · simp only [Go.AS.isAt, Bool.and_eq_true, Bool.not_eq_true'] at hp
        have hb : Nat.beq i id = false := by
          have h1 := hp.2
          rw [nbeq, litd] at h1 ⊢
          simp only [decide_eq_false_iff_not] at h1 ⊢
          exact fun e => h1 e.symm
        exact ⟨by simp only [hp.1, hb, Bool.not_false, Bool.and_self], hne i hb⟩
    · rw [fgs_app2, h9, hx3, cellsL_append]; simp [cellsL]
    · refine hat_hset_ne _ ?_
      intro e; subst e; simp [Go.AS.isAt] at h6
end
end Go.AS

/-
  The program's data. By an AI agent.
-/
namespace Go.AS
open Go

structure Rng where
  lo : Str
  hi : Str
  deriving DecidableEq
instance celRng : Cel Rng := ⟨2, fun r => [.str r.lo, .str r.hi], fun _ => rfl, fun _ => rfl, fun _ => rfl⟩
structure Ent where
  key : Str
  value : Str
  deriving DecidableEq
instance celEnt : Cel Ent := ⟨2, fun r => [.str r.key, .str r.value], fun _ => rfl, fun _ => rfl, fun _ => rfl⟩
structure Msg where
  kind : UInt8
  seq : Int
  key : Str
  to : Str
  value : Str
  delta : UInt64
  deriving DecidableEq
instance celMsg : Cel Msg := ⟨6, fun m => [.int .u8 m.kind.toNat, .int .i64 m.seq, .str m.key, .str m.to, .str m.value, .int .u64 m.delta.toNat], fun _ => rfl, fun _ => rfl, fun _ => rfl⟩
structure Nd where
  kind : UInt8
  pivots : Sl Str
  kids : Sl Int
  msgs : Sl Msg
  blocks : Sl (Sl Ent)
theorem hfrees_cons (v : AV) (r : List AV) : hfrees (v :: r) = (hfree v && hfrees r) := rfl
theorem fgs_cons (v : AV) (r : List AV) : fgs (v :: r) = fg v :: fgs r := rfl
instance celNd : Cel Nd := ⟨5, fun n => [.int .u8 n.kind.toNat, sl n.pivots.nil n.pivots.l, sl n.kids.nil n.kids.l, sl n.msgs.nil n.msgs.l, sl n.blocks.nil n.blocks.l], fun _ => rfl,
  fun n => by simp only [hfrees_cons, sl_free]; rfl, fun n => by simp only [fgs_cons, sl_canon]; rfl⟩
structure Tr where
  nodes : Sl Nd
instance celTr : Cel Tr := ⟨1, fun t => [sl t.nodes.nil t.nodes.l], fun _ => rfl, fun t => by simp only [hfrees_cons, sl_free]; rfl, fun n => by simp only [fgs_cons, sl_canon]; rfl⟩
structure Cfg where
  key : Int
  value : Int
  fanout : Int
  buffer : Int
  leaf : Int
  block : Int
  nodes : Int
  budget : Int
  chunk : Int
  deriving DecidableEq
instance celCfg : Cel Cfg := ⟨9, fun c => [.int .i64 c.key, .int .i64 c.value, .int .i64 c.fanout, .int .i64 c.buffer, .int .i64 c.leaf, .int .i64 c.block, .int .i64 c.nodes, .int .i64 c.budget, .int .i64 c.chunk], fun _ => rfl, fun _ => rfl, fun _ => rfl⟩
/-- An operation. -/
structure Opn where
  kind : UInt8
  key : Str
  to : Str
  n : Int
  batch : Sl Msg
instance celOpn : Cel Opn := ⟨5, fun o => [.int .u8 o.kind.toNat, .str o.key, .str o.to, .int .i64 o.n, sl o.batch.nil o.batch.l], fun _ => rfl, fun n => by simp only [hfrees_cons, sl_free]; rfl, fun n => by simp only [fgs_cons, sl_canon]; rfl⟩
structure Rep where
  err : Int
  found : Bool
  value : Str
  entries : Sl Ent
  n : Int
  ended : Bool
instance celRep : Cel Rep := ⟨6, fun r => [.int .i64 r.err, .bool r.found, .str r.value, sl r.entries.nil r.entries.l, .int .i64 r.n, .bool r.ended], fun _ => rfl, fun n => by simp only [hfrees_cons, sl_free]; rfl, fun n => by simp only [fgs_cons, sl_canon]; rfl⟩
structure Don where
  session : Int
  n : Int
  op : Opn
  call : Int
  point : Int
  back : Int
  reply : Rep
instance celDon : Cel Don := ⟨16, fun d => [.int .i64 d.session, .int .i64 d.n, .int .u8 d.op.kind.toNat, .str d.op.key, .str d.op.to, .int .i64 d.op.n, sl d.op.batch.nil d.op.batch.l, .int .i64 d.call, .int .i64 d.point, .int .i64 d.back,
    .int .i64 d.reply.err, .bool d.reply.found, .str d.reply.value, sl d.reply.entries.nil d.reply.entries.l, .int .i64 d.reply.n, .bool d.reply.ended], fun _ => rfl,
  fun n => by simp only [hfrees_cons, sl_free]; rfl, fun n => by simp only [fgs_cons, sl_canon]; rfl⟩

/-! ### Their fields -/
theorem encNd0 (n : Nd) : one none (Cel.enc n) 0 = some (.int .u8 n.kind.toNat) := rfl
theorem encNd1 (n : Nd) : one none (Cel.enc n) 1 = some (sl n.pivots.nil n.pivots.l) := rfl
theorem encNd2 (n : Nd) : one none (Cel.enc n) 2 = some (sl n.kids.nil n.kids.l) := rfl
theorem encNd3 (n : Nd) : one none (Cel.enc n) 3 = some (sl n.msgs.nil n.msgs.l) := rfl
theorem encNd4 (n : Nd) : one none (Cel.enc n) 4 = some (sl n.blocks.nil n.blocks.l) := rfl
theorem encTr0 (t : Tr) : one none (Cel.enc t) 0 = some (sl t.nodes.nil t.nodes.l) := rfl
theorem encRng0 (r : Rng) : one none (Cel.enc r) 0 = some (.str r.lo) := rfl
theorem encRng1 (r : Rng) : one none (Cel.enc r) 1 = some (.str r.hi) := rfl
theorem encEnt0 (r : Ent) : one none (Cel.enc r) 0 = some (.str r.key) := rfl
theorem encEnt1 (r : Ent) : one none (Cel.enc r) 1 = some (.str r.value) := rfl
theorem encMsg0 (m : Msg) : one none (Cel.enc m) 0 = some (.int .u8 m.kind.toNat) := rfl
theorem encMsg1 (m : Msg) : one none (Cel.enc m) 1 = some (.int .i64 m.seq) := rfl
theorem encMsg2 (m : Msg) : one none (Cel.enc m) 2 = some (.str m.key) := rfl
theorem encMsg3 (m : Msg) : one none (Cel.enc m) 3 = some (.str m.to) := rfl
theorem encMsg4 (m : Msg) : one none (Cel.enc m) 4 = some (.str m.value) := rfl
theorem encMsg5 (m : Msg) : one none (Cel.enc m) 5 = some (.int .u64 m.delta.toNat) := rfl
theorem encCfg0 (c : Cfg) : one none (Cel.enc c) 0 = some (.int .i64 c.key) := rfl
theorem encCfg1 (c : Cfg) : one none (Cel.enc c) 1 = some (.int .i64 c.value) := rfl
theorem encCfg2 (c : Cfg) : one none (Cel.enc c) 2 = some (.int .i64 c.fanout) := rfl
theorem encCfg3 (c : Cfg) : one none (Cel.enc c) 3 = some (.int .i64 c.buffer) := rfl
theorem encCfg4 (c : Cfg) : one none (Cel.enc c) 4 = some (.int .i64 c.leaf) := rfl
theorem encCfg5 (c : Cfg) : one none (Cel.enc c) 5 = some (.int .i64 c.block) := rfl
theorem encCfg6 (c : Cfg) : one none (Cel.enc c) 6 = some (.int .i64 c.nodes) := rfl
theorem encCfg7 (c : Cfg) : one none (Cel.enc c) 7 = some (.int .i64 c.budget) := rfl
theorem encCfg8 (c : Cfg) : one none (Cel.enc c) 8 = some (.int .i64 c.chunk) := rfl
theorem encDon2 (d : Don) : one none (Cel.enc d) 2 = some (.int .u8 d.op.kind.toNat) := rfl
theorem encDon6 (d : Don) : one none (Cel.enc d) 6 = some (sl d.op.batch.nil d.op.batch.l) := rfl
theorem encDon9 (d : Don) : one none (Cel.enc d) 9 = some (.int .i64 d.back) := rfl
theorem encDon13 (d : Don) : one none (Cel.enc d) 13 = some (sl d.reply.entries.nil d.reply.entries.l) := rfl
theorem datL : Ty (And.intro @encNd0 <| And.intro @encNd1 <| And.intro @encNd2 <| And.intro @encNd3 <| And.intro @encNd4 <| And.intro @encTr0 <| And.intro @encRng0 <| And.intro @encRng1 <| And.intro @encEnt0 <| And.intro @encEnt1 <|
  And.intro @encMsg0 <| And.intro @encMsg1 <| And.intro @encMsg2 <| And.intro @encMsg3 <| And.intro @encMsg4 <| And.intro @encMsg5 <| And.intro @encCfg0 <| And.intro @encCfg1 <| And.intro @encCfg2 <| And.intro @encCfg3 <| And.intro @encCfg4 <|
  And.intro @encCfg5 <| And.intro @encCfg6 <| And.intro @encCfg7 <| And.intro @encCfg8 <| And.intro @encDon2 <| And.intro @encDon6 <| And.intro @encDon9 <| @encDon13) :=
  And.intro @encNd0 <| And.intro @encNd1 <| And.intro @encNd2 <| And.intro @encNd3 <| And.intro @encNd4 <| And.intro @encTr0 <| And.intro @encRng0 <| And.intro @encRng1 <| And.intro @encEnt0 <| And.intro @encEnt1 <|
  And.intro @encMsg0 <| And.intro @encMsg1 <| And.intro @encMsg2 <| And.intro @encMsg3 <| And.intro @encMsg4 <| And.intro @encMsg5 <| And.intro @encCfg0 <| And.intro @encCfg1 <| And.intro @encCfg2 <| And.intro @encCfg3 <| And.intro @encCfg4 <|
  And.intro @encCfg5 <| And.intro @encCfg6 <| And.intro @encCfg7 <| And.intro @encCfg8 <| And.intro @encDon2 <| And.intro @encDon6 <| And.intro @encDon9 <| @encDon13
end Go.AS
