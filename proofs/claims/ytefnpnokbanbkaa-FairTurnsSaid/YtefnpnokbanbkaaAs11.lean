/-
  Operation by operation (8): comparisons. By an AI agent.
-/
import Derived.Test.YtefnpnokbanbkaaAs10
import Derived.Laws.StructEq
set_option linter.all false
namespace Go.AS
open Go
section
variable {P : Program} {an : Ann} {fn : Nat} {g : G} {H H' : Heap} {S : Stack} {w : World} {n : Nat} {e : Env} {a : Act} {iop : IOp} {v : AV} {o : Oper} {M : MMap} {Ms : List MMap}

/-- '==' or '!='. -/
def eqOp (ng : Bool) : BinOp := if ng then .neq else .eql
theorem eqOp_of {op : BinOp} : (op == .eql) = false ∧ (op == .neq) = false ∨ op = eqOp (op == .neq) := by cases op <;> simp [eqOp]

/-- The two, over values on which '==' asks by the type. -/
theorem eq_run {ng b : Bool} {t : TypeId} {x y : Operand} {p q : Value} (hg : (eqGuard (eqOp ng) t x y p q).run P w = .ok () w) (heq : (Op.equal t p q).run P w = .ok b w)
    (hb : ∀ op, (op = .eql → binOp op t p q = do pure (.bool (← Op.equal t p q))) ∧ (op = .neq → binOp op t p q = do pure (.bool (!(← Op.equal t p q))))) :
    (do eqGuard (eqOp ng) t x y p q; binOp (eqOp ng) t p q : Sem Value).run P w = .ok (.bool (bif ng then !b else b)) w := by
  cases ng
  · simp only [Sem.run_bind, hg, Result.andThen_ok]
    rw [(hb (eqOp false)).1 rfl]
    simp [heq]
  · simp only [Sem.run_bind, hg, Result.andThen_ok]
    rw [(hb (eqOp true)).2 rfl]
    simp [heq]

theorem guard_ptr {ng : Bool} {t : TypeId} {x y : Operand} {p q : Option Addr} : (eqGuard (eqOp ng) t x y (.pointer p) (.pointer q)).run P w = .ok () w := by cases ng <;> simp [eqGuard, eqOp]
theorem guard_slice {ng : Bool} {t : TypeId} {x y : Operand} {p q : Option Addr} {l c l' c' : Nat} : (eqGuard (eqOp ng) t x y (.slice p l c) (.slice q l' c')).run P w = .ok () w := by cases ng <;> simp [eqGuard, eqOp]
theorem guard_map {ng : Bool} {t : TypeId} {x y : Operand} {p q : Option Nat} : (eqGuard (eqOp ng) t x y (.map p) (.map q)).run P w = .ok () w := by cases ng <;> simp [eqGuard, eqOp]
theorem guard_bool {ng : Bool} {t : TypeId} {x y : Operand} {p q : Bool} : (eqGuard (eqOp ng) t x y (.bool p) (.bool q)).run P w = .ok () w := by cases ng <;> simp [eqGuard, eqOp]
theorem guard_fn1 {ng : Bool} {t : TypeId} {x y : Operand} {q : Value} (hq : q = .nilFunc ∨ ∃ f a b, q = .func f a b) : (eqGuard (eqOp ng) t x y .nilFunc q).run P w = .ok () w ∧ (eqGuard (eqOp ng) t x y q .nilFunc).run P w = .ok () w := by
  rcases hq with rfl | ⟨f, a, b, rfl⟩ <;> cases ng <;> simp [eqGuard, eqOp]
theorem nilC_const {x : Operand} (h : nilC x = true) : ∃ v, x = .const v := by cases x <;> simp [nilC] at h ⊢
theorem guard_if {ng : Bool} {t : TypeId} {x y : Operand} {q : Value} (hc : nilC x = true ∨ nilC y = true) (hq : q = .nilIface ∨ ∃ f a, q = .iface f a) : (eqGuard (eqOp ng) t x y .nilIface q).run P w = .ok () w ∧ (eqGuard (eqOp ng) t x y q .nilIface).run P w = .ok () w := by
  rcases hc with hc | hc <;> obtain ⟨v, rfl⟩ := nilC_const hc <;> rcases hq with rfl | ⟨f, a, rfl⟩ <;> cases ng <;> simp [eqGuard, eqOp]

theorem bin_ptr {t : TypeId} {p q : Option Addr} (op : BinOp) : (op = .eql → binOp op t (.pointer p) (.pointer q) = do pure (.bool (← Op.equal t (.pointer p) (.pointer q)))) ∧ (op = .neq → binOp op t (.pointer p) (.pointer q) = do pure (.bool (!(← Op.equal t (.pointer p) (.pointer q))))) := by
  constructor <;> rintro rfl <;> simp only [binOp]
theorem bin_slice {t : TypeId} {p q : Option Addr} {l c l' c' : Nat} (op : BinOp) : (op = .eql → binOp op t (.slice p l c) (.slice q l' c') = do pure (.bool (← Op.equal t (.slice p l c) (.slice q l' c')))) ∧ (op = .neq → binOp op t (.slice p l c) (.slice q l' c') = do pure (.bool (!(← Op.equal t (.slice p l c) (.slice q l' c'))))) := by
  constructor <;> rintro rfl <;> simp only [binOp]
theorem bin_map {t : TypeId} {p q : Option Nat} (op : BinOp) : (op = .eql → binOp op t (.map p) (.map q) = do pure (.bool (← Op.equal t (.map p) (.map q)))) ∧ (op = .neq → binOp op t (.map p) (.map q) = do pure (.bool (!(← Op.equal t (.map p) (.map q))))) := by
  constructor <;> rintro rfl <;> simp only [binOp]
theorem bin_bool {t : TypeId} {p q : Bool} (op : BinOp) : (op = .eql → binOp op t (.bool p) (.bool q) = do pure (.bool (← Op.equal t (.bool p) (.bool q)))) ∧ (op = .neq → binOp op t (.bool p) (.bool q) = do pure (.bool (!(← Op.equal t (.bool p) (.bool q))))) := by
  constructor <;> rintro rfl <;> simp only [binOp]
theorem bin_other {t : TypeId} {p q : Value} (op : BinOp) (hp : p = .nilFunc ∨ p = .nilIface ∨ (∃ f a b, p = .func f a b) ∨ (∃ f a, p = .iface f a)) (hq : q = .nilFunc ∨ q = .nilIface ∨ (∃ f a b, q = .func f a b) ∨ (∃ f a, q = .iface f a)) :
    (op = .eql → binOp op t p q = do pure (.bool (← Op.equal t p q))) ∧ (op = .neq → binOp op t p q = do pure (.bool (!(← Op.equal t p q)))) := by
  rcases hp with rfl | rfl | ⟨f, a, b, rfl⟩ | ⟨f, a, rfl⟩ <;> rcases hq with rfl | rfl | ⟨f', a', b', rfl⟩ | ⟨f', a', rfl⟩ <;> constructor <;> rintro rfl <;> simp only [binOp]

theorem equal_eq (t : TypeId) (p q : Value) : Op.equal t p q = Op.equalIn (9999 + 1) t p q := rfl

theorem isNil_ptr {I : IMap} {x : AV} {p : Value} {b : Bool} (hr : RV I x Ms p) (h : isNil 0 x = some b) : ∃ q, p = .pointer q ∧ b = q.isNone := by
  cases x <;> simp only [isNil, Option.some.injEq, reduceCtorEq] at h <;> subst h
  · obtain rfl : p = .pointer none := hr; exact ⟨_, rfl, rfl⟩
  · obtain ⟨M, Ms', blk, tot, h1, h2, rfl⟩ := hr; exact ⟨_, rfl, rfl⟩
  · obtain ⟨blk, base, c, e, fz, xs, rfl, h1⟩ := hr; exact ⟨_, rfl, rfl⟩
theorem isNil_slice {I : IMap} {x : AV} {p : Value} {b : Bool} (hr : RV I x Ms p) (h : isNil 1 x = some b) : ∃ q l c, p = .slice q l c ∧ b = q.isNone := by
  cases x <;> simp only [isNil, Option.some.injEq, reduceCtorEq] at h <;> subst h
  · obtain ⟨a, rcap, xs, rfl, h1, _⟩ := hr; exact ⟨_, _, _, rfl, h1⟩
  · obtain ⟨M, Ms', blk, tot, a, rcap, h1, h2, rfl, _⟩ := hr; exact ⟨_, _, _, rfl, rfl⟩
theorem isNil_map {I : IMap} {x : AV} {p : Value} {b : Bool} (hr : RV I x Ms p) (h : isNil 2 x = some b) : ∃ q, p = .map q ∧ b = q.isNone := by
  cases x <;> simp only [isNil, Option.some.injEq, reduceCtorEq] at h <;> subst h
  · obtain rfl : p = .map none := hr; exact ⟨_, rfl, rfl⟩
  · obtain ⟨M, Ms', blk, tot, h1, h2, rfl⟩ := hr; exact ⟨_, rfl, rfl⟩
theorem isFn_func {I : IMap} {x : Value} : ∀ (v : AV) (Ms : List MMap), isFn v = true → RV I v Ms x → ∃ f a b, x = .func f a b
  | .func f fi ca, Ms, _, hv => by
    cases f with
    | func f => obtain ⟨xs, ys, rfl, h1⟩ := hv; exact ⟨_, _, _, rfl⟩
    | yield l => obtain ⟨M, Ms', blk, tot, h1, h2, rfl⟩ := hv; exact ⟨_, _, _, rfl⟩
    | method => exact hv.elim
    | methodOf => exact hv.elim
    | via => exact hv.elim
  | .ext v, Ms, h, hv => by obtain ⟨M, Ms', rfl, h1⟩ := hv; exact isFn_func v Ms' h h1
  | .undef, _, h, _ => by simp [isFn] at h
  | .bool _, _, h, _ => by simp [isFn] at h
  | .int _ _, _, h, _ => by simp [isFn] at h
  | .str _, _, h, _ => by simp [isFn] at h
  | .nilptr, _, h, _ => by simp [isFn] at h
  | .ptr _ _ _, _, h, _ => by simp [isFn] at h
  | .iptr _ _, _, h, _ => by simp [isFn] at h
  | .imm _ _ _ _ _, _, h, _ => by simp [isFn] at h
  | .ref _ _ _ _ _ _ _, _, h, _ => by simp [isFn] at h
  | .nilmap, _, h, _ => by simp [isFn] at h
  | .map _, _, h, _ => by simp [isFn] at h
  | .nilFunc, _, h, _ => by simp [isFn] at h
  | .iface _ _, _, h, _ => by simp [isFn] at h
  | .nilIface, _, h, _ => by simp [isFn] at h
  | .agg _, _, h, _ => by simp [isFn] at h
  | .tuple _, _, h, _ => by simp [isFn] at h
theorem isNil_fn {I : IMap} {x : AV} {p : Value} {b : Bool} (hr : RV I x Ms p) (h : isNil 3 x = some b) : (b = true ∧ p = .nilFunc) ∨ (b = false ∧ ∃ f a c, p = .func f a c) := by
  cases x <;> simp only [isNil, Option.some.injEq, reduceCtorEq] at h
  · subst h; exact .inr ⟨rfl, isFn_func _ _ rfl hr⟩
  · subst h; obtain rfl : p = .nilFunc := hr; exact .inl ⟨rfl, rfl⟩
  · rename_i v
    cases hf : isFn v with
    | true => rw [hf] at h; cases h; exact .inr ⟨rfl, isFn_func (.ext v) _ hf hr⟩
    | false => rw [hf] at h; cases h
theorem isNil_if {I : IMap} {x : AV} {p : Value} {b : Bool} (hr : RV I x Ms p) (h : isNil 4 x = some b) : (b = true ∧ p = .nilIface) ∨ (b = false ∧ ∃ f a, p = .iface f a) := by
  cases x <;> simp only [isNil, Option.some.injEq, reduceCtorEq] at h <;> subst h
  · obtain ⟨y, rfl, h1⟩ := hr; exact .inr ⟨rfl, _, _, rfl⟩
  · obtain rfl : p = .nilIface := hr; exact .inl ⟨rfl, rfl⟩

theorem nbeq_false {a b : Nat} (h : a ≠ b) : Nat.beq a b = false := by
  cases hb : Nat.beq a b with
  | false => rfl
  | true => exact absurd (Nat.eq_of_beq_eq_true hb) h
theorem nbeq_self (a : Nat) : Nat.beq a a = true := by simp

/-- The cases of 'eqNil'. -/
theorem eqNil_cases {H : Heap} {k : Nat} {x y : AV} {b : Bool} (h : eqNil H k x y = some b) :
    (isNil k x = some true ∧ isNil k y = some b) ∨ (isNil k x = some b ∧ isNil k y = some true) ∨
    (k = 0 ∧ ∃ i li oi j lj oj, x = .ptr i li oi ∧ y = .ptr j lj oj ∧ alive H i li = true ∧ alive H j lj = true ∧ b = (Nat.beq i j && Nat.beq oi oj)) := by
  unfold eqNil at h
  cases hx : isNil k x with
  | none => rw [hx] at h; cases h
  | some bx =>
    rw [hx] at h
    cases bx with
    | true =>
      cases hy : isNil k y with
      | none => rw [hy] at h; cases h
      | some by' => rw [hy] at h; cases h; exact .inl ⟨rfl, rfl⟩
    | false =>
      cases hy : isNil k y with
      | none =>
        rw [hy] at h
        refine .inr (.inr ?_)
        simp only at h
        unfold ptrEq at h
        split at h
        · rename_i i li oi j lj oj
          cases hb : (Nat.beq k 0 && alive H i li && alive H j lj) with
          | false => rw [hb] at h; cases h
          | true =>
            rw [hb] at h
            cases h
            simp only [Bool.and_eq_true] at hb
            exact ⟨Nat.eq_of_beq_eq_true hb.1.1, i, li, oi, j, lj, oj, rfl, rfl, hb.1.2, hb.2, rfl⟩
        · cases h
      | some by' =>
        rw [hy] at h
        cases by' with
        | true => cases h; exact .inr (.inl ⟨rfl, rfl⟩)
        | false =>
          refine .inr (.inr ?_)
          simp only at h
          unfold ptrEq at h
          split at h
          · rename_i i li oi j lj oj
            cases hb : (Nat.beq k 0 && alive H i li && alive H j lj) with
            | false => rw [hb] at h; cases h
            | true =>
              rw [hb] at h
              cases h
              simp only [Bool.and_eq_true] at hb
              exact ⟨Nat.eq_of_beq_eq_true hb.1.1, i, li, oi, j, lj, oj, rfl, rfl, hb.1.2, hb.2, rfl⟩
          · cases h

/-! One level of '==', at any depth. -/
theorem eq_nil_ptr (d : Nat) {t el : TypeId} (hu : P.underlying t = some (.pointer el)) (q : Option Addr) : (Op.equalIn (d + 1) t (.pointer none) (.pointer q)).run P w = .ok q.isNone w := by simp [Op.equalIn, run_underlying' hu]
theorem eq_ptr_nil (d : Nat) {t el : TypeId} (hu : P.underlying t = some (.pointer el)) (q : Option Addr) : (Op.equalIn (d + 1) t (.pointer q) (.pointer none)).run P w = .ok q.isNone w := by cases q <;> simp [Op.equalIn, run_underlying' hu]
theorem eq_ptr_ptr (d : Nat) {t el : TypeId} {m : Nat} (hu : P.underlying t = some (.pointer el)) (hs : sz P el = some (m + 1)) (p q : Addr) : (Op.equalIn (d + 1) t (.pointer (some p)) (.pointer (some q))).run P w = (sameAddr p q).run P w := by simp [Op.equalIn, run_underlying' hu, run_sizeOf' hs]
theorem eq_nil_slice (d : Nat) {t el : TypeId} (hu : P.underlying t = some (.slice el)) (q : Option Addr) (l c l' c' : Nat) : (Op.equalIn (d + 1) t (.slice none l c) (.slice q l' c')).run P w = .ok q.isNone w := by simp [Op.equalIn, run_underlying' hu]
theorem eq_slice_nil (d : Nat) {t el : TypeId} (hu : P.underlying t = some (.slice el)) (q : Option Addr) (l c l' c' : Nat) : (Op.equalIn (d + 1) t (.slice q l' c') (.slice none l c)).run P w = .ok q.isNone w := by cases q <;> simp [Op.equalIn, run_underlying' hu]
theorem eq_nil_map (d : Nat) {t kt el : TypeId} (hu : P.underlying t = some (.map kt el)) (q : Option Nat) : (Op.equalIn (d + 1) t (.map none) (.map q)).run P w = .ok q.isNone w := by simp [Op.equalIn, run_underlying' hu]
theorem eq_map_nil (d : Nat) {t kt el : TypeId} (hu : P.underlying t = some (.map kt el)) (q : Option Nat) : (Op.equalIn (d + 1) t (.map q) (.map none)).run P w = .ok q.isNone w := by cases q <;> simp [Op.equalIn, run_underlying' hu]
theorem eq_fn (d : Nat) {t : TypeId} {p r : Array TypeId} {vd : Bool} (hu : P.underlying t = some (.func p r vd)) : (Op.equalIn (d + 1) t .nilFunc .nilFunc).run P w = .ok true w ∧ ∀ f a b, (Op.equalIn (d + 1) t .nilFunc (.func f a b)).run P w = .ok false w ∧ (Op.equalIn (d + 1) t (.func f a b) .nilFunc).run P w = .ok false w :=
  ⟨by simp [Op.equalIn, run_underlying' hu], fun f a b => ⟨by simp [Op.equalIn, run_underlying' hu], by simp [Op.equalIn, run_underlying' hu]⟩⟩
theorem eq_if (d : Nat) {t : TypeId} {ms : Array (String × TypeId)} (hu : P.underlying t = some (.interface ms)) : (Op.equalIn (d + 1) t .nilIface .nilIface).run P w = .ok true w ∧ ∀ f a, (Op.equalIn (d + 1) t .nilIface (.iface f a)).run P w = .ok false w ∧ (Op.equalIn (d + 1) t (.iface f a) .nilIface).run P w = .ok false w :=
  ⟨by simp [Op.equalIn, run_underlying' hu], fun f a => ⟨by simp [Op.equalIn, run_underlying' hu], by simp [Op.equalIn, run_underlying' hu]⟩⟩

theorem alive_RV (h : Rel P g (H :: S) w) {i li oi : Nat} {p : Value} (ha : alive H i li = true) (hr : RV g.I (.ptr i li oi) g.Ms p) : ∃ blk c e, p = .pointer (some ⟨blk, oi, none⟩) ∧ g.O blk = some (S.length, i) ∧ w.heap[blk]? = some (.cells c e (0, 0)) := by
  unfold alive at ha
  split at ha
  · rename_i cs hid
    have hl := Nat.eq_of_beq_eq_true ha
    subst hl
    obtain ⟨M, Ms, hg⟩ := h.Ms_cons
    obtain ⟨blk, tot, c, el, k1, k2, k3, k4, k5, k6, k7⟩ := h.cells hg hid
    obtain ⟨M', Ms', blk', tot', f1, f2, rfl⟩ := hr
    rw [hg] at f1
    cases f1
    rw [k1] at f2
    cases f2
    exact ⟨blk, c, el, rfl, k2, k3⟩
  · cases ha

theorem sameAddr_run {b1 b2 o1 o2 : Nat} {c1 c2 : Array Value} {e1 e2 : TypeId} (h1 : w.heap[b1]? = some (.cells c1 e1 (0, 0))) (h2 : w.heap[b2]? = some (.cells c2 e2 (0, 0))) :
    (sameAddr ⟨b1, o1, none⟩ ⟨b2, o2, none⟩).run P w = .ok (Nat.beq b1 b2 && Nat.beq o1 o2) w := by
  unfold sameAddr
  by_cases hb : b1 = b2
  · subst hb
    simp only [beq_self_eq_true, if_true]
    by_cases ho : o1 = o2
    · subst ho; simp
    · have : Nat.beq o1 o2 = false := nbeq_false ho
      simp [this, ho]
  · have hbb : Nat.beq b1 b2 = false := nbeq_false hb
    have f1 : ∀ o, w.frozen? ⟨b1, o, none⟩ = false := fun o => by simp [World.frozen?, h1]
    have f2 : ∀ o, w.frozen? ⟨b2, o, none⟩ = false := fun o => by simp [World.frozen?, h2]
    have s1 : w.shape? b1 = some (e1, c1.size) := by simp [World.shape?, h1]
    have s2 : w.shape? b2 = some (e2, c2.size) := by simp [World.shape?, h2]
    simp [hb, hbb, f1, f2, s1, s2, noView, viewAt, mayBeOne, stringish]

theorem sim_eqn {t yt : TypeId} {x y : Operand} {x' y' : Opd} {ng b : Bool} {k : Nat} (he : EnvR g.I g.Ms n e a.tmps) (h : Rel P g (H :: S) w) (hx : cO x = some x') (hy : cO y = some y')
    (hk : (k = 0 ∧ ∃ el m, P.underlying t = some (.pointer el) ∧ sz P el = some (m + 1)) ∨ (k = 1 ∧ ∃ el, P.underlying t = some (.slice el)) ∨ (k = 2 ∧ ∃ kt el, P.underlying t = some (.map kt el)) ∨ (k = 3 ∧ ∃ p r vd, P.underlying t = some (.func p r vd)) ∨ (k = 4 ∧ (∃ ms, P.underlying t = some (.interface ms)) ∧ (nilC x = true ∨ nilC y = true)))
    (hv : eqNil H k (x'.ev e) (y'.ev e) = some b) (ho : o.op = .binOp (eqOp ng) t x y yt) : Does P g (H :: S) w (execOp a.eval o) (.bool (bif ng then !b else b)) (H :: S) := by
  have hp := cO_RV hx he
  have hq := cO_RV hy he
  suffices hs : (do eqGuard (eqOp ng) t x y (a.eval x) (a.eval y); binOp (eqOp ng) t (a.eval x) (a.eval y) : Sem Value).run P w = .ok (.bool (bif ng then !b else b)) w from
    .pure h (x := .bool (bif ng then !b else b)) (by simp only [execOp, ho, Sem.run_bind] at hs ⊢; simp [hs]) rfl
  rcases hk with ⟨rfl, el, m, hu, hs⟩ | ⟨rfl, el, hu⟩ | ⟨rfl, kt, el, hu⟩ | ⟨rfl, p, r, vd, hu⟩ | ⟨rfl, ⟨ms, hu⟩, hn⟩
  · rcases eqNil_cases hv with ⟨n1, n2⟩ | ⟨n1, n2⟩ | ⟨_, i, li, oi, j, lj, oj, e1, e2, a1, a2, rfl⟩
    · obtain ⟨q1, r1, b1⟩ := isNil_ptr hp n1
      obtain ⟨q2, r2, b2⟩ := isNil_ptr hq n2
      rw [r1, r2]
      have : q1 = none := by cases q1 <;> simp at b1 ⊢
      subst this
      exact eq_run guard_ptr (by rw [equal_eq, b2]; exact eq_nil_ptr 9999 hu q2) bin_ptr
    · obtain ⟨q1, r1, b1⟩ := isNil_ptr hp n1
      obtain ⟨q2, r2, b2⟩ := isNil_ptr hq n2
      rw [r1, r2]
      have : q2 = none := by cases q2 <;> simp at b2 ⊢
      subst this
      exact eq_run guard_ptr (by rw [equal_eq, b1]; exact eq_ptr_nil 9999 hu q1) bin_ptr
    · rw [e1] at hp
      rw [e2] at hq
      obtain ⟨blk1, c1, t1, r1, o1, w1⟩ := alive_RV h a1 hp
      obtain ⟨blk2, c2, t2, r2, o2, w2⟩ := alive_RV h a2 hq
      rw [r1, r2]
      refine eq_run guard_ptr ?_ bin_ptr
      have hij : Nat.beq blk1 blk2 = Nat.beq i j := by
        by_cases hb : blk1 = blk2
        · subst hb
          rw [o1] at o2
          cases o2
          simp
        · have h1 : Nat.beq blk1 blk2 = false := nbeq_false hb
          have h2 : ¬ i = j := by
            intro he'
            subst he'
            obtain ⟨M, Ms, hg⟩ := h.Ms_cons
            unfold alive at a1 a2
            split at a1
            · rename_i cs hid
              rw [hid] at a2
              have l1 := Nat.eq_of_beq_eq_true a1
              have l2 := Nat.eq_of_beq_eq_true a2
              obtain ⟨M1, Ms1, b1, t1, f1, f2, f3⟩ := hp
              obtain ⟨M2, Ms2, b2, t2, g1, g2, g3⟩ := hq
              rw [f1] at g1
              cases g1
              rw [← l1] at f2
              rw [← l2] at g2
              rw [f2] at g2
              cases g2
              rw [r1] at f3
              rw [r2] at g3
              cases f3
              cases g3
              exact hb rfl
            · cases a1
          rw [h1]
          have h3 : Nat.beq i j = false := nbeq_false h2
          rw [h3]
      rw [equal_eq, ← hij]
      exact (eq_ptr_ptr 9999 hu hs _ _).trans (sameAddr_run w1 w2)
  · rcases eqNil_cases hv with ⟨n1, n2⟩ | ⟨n1, n2⟩ | ⟨hk, _⟩
    · obtain ⟨q1, l1, c1, r1, b1⟩ := isNil_slice hp n1
      obtain ⟨q2, l2, c2, r2, b2⟩ := isNil_slice hq n2
      rw [r1, r2]
      have : q1 = none := by cases q1 <;> simp at b1 ⊢
      subst this
      exact eq_run guard_slice (by rw [equal_eq, b2]; exact eq_nil_slice 9999 hu q2 _ _ _ _) bin_slice
    · obtain ⟨q1, l1, c1, r1, b1⟩ := isNil_slice hp n1
      obtain ⟨q2, l2, c2, r2, b2⟩ := isNil_slice hq n2
      rw [r1, r2]
      have : q2 = none := by cases q2 <;> simp at b2 ⊢
      subst this
      exact eq_run guard_slice (by rw [equal_eq, b1]; exact eq_slice_nil 9999 hu q1 _ _ _ _) bin_slice
    · cases hk
  · rcases eqNil_cases hv with ⟨n1, n2⟩ | ⟨n1, n2⟩ | ⟨hk, _⟩
    · obtain ⟨q1, r1, b1⟩ := isNil_map hp n1
      obtain ⟨q2, r2, b2⟩ := isNil_map hq n2
      rw [r1, r2]
      have : q1 = none := by cases q1 <;> simp at b1 ⊢
      subst this
      exact eq_run guard_map (by rw [equal_eq, b2]; exact eq_nil_map 9999 hu q2) bin_map
    · obtain ⟨q1, r1, b1⟩ := isNil_map hp n1
      obtain ⟨q2, r2, b2⟩ := isNil_map hq n2
      rw [r1, r2]
      have : q2 = none := by cases q2 <;> simp at b2 ⊢
      subst this
      exact eq_run guard_map (by rw [equal_eq, b1]; exact eq_map_nil 9999 hu q1) bin_map
    · cases hk
  · rcases eqNil_cases hv with ⟨n1, n2⟩ | ⟨n1, n2⟩ | ⟨hk, _⟩
    · rcases isNil_fn hp n1 with ⟨_, r1⟩ | ⟨hb, _⟩
      · rcases isNil_fn hq n2 with ⟨hb, r2⟩ | ⟨hb, f, a', c, r2⟩
        · rw [r1, r2]
          exact eq_run (guard_fn1 (.inl rfl)).1 (by rw [equal_eq, hb]; exact (eq_fn 9999 hu).1) fun op => bin_other op (.inl rfl) (.inl rfl)
        · rw [r1, r2]
          exact eq_run (guard_fn1 (.inr ⟨_, _, _, rfl⟩)).1 (by rw [equal_eq, hb]; exact ((eq_fn 9999 hu).2 _ _ _).1) fun op => bin_other op (.inl rfl) (.inr (.inr (.inl ⟨_, _, _, rfl⟩)))
      · cases hb
    · rcases isNil_fn hq n2 with ⟨_, r2⟩ | ⟨hb, _⟩
      · rcases isNil_fn hp n1 with ⟨hb, r1⟩ | ⟨hb, f, a', c, r1⟩
        · rw [r1, r2]
          exact eq_run (guard_fn1 (.inl rfl)).1 (by rw [equal_eq, hb]; exact (eq_fn 9999 hu).1) fun op => bin_other op (.inl rfl) (.inl rfl)
        · rw [r1, r2]
          exact eq_run (guard_fn1 (.inr ⟨_, _, _, rfl⟩)).2 (by rw [equal_eq, hb]; exact ((eq_fn 9999 hu).2 _ _ _).2) fun op => bin_other op (.inr (.inr (.inl ⟨_, _, _, rfl⟩))) (.inl rfl)
      · cases hb
    · cases hk
  · rcases eqNil_cases hv with ⟨n1, n2⟩ | ⟨n1, n2⟩ | ⟨hk, _⟩
    · rcases isNil_if hp n1 with ⟨_, r1⟩ | ⟨hb, _⟩
      · rcases isNil_if hq n2 with ⟨hb, r2⟩ | ⟨hb, f, a', r2⟩
        · rw [r1, r2]
          exact eq_run (guard_if hn (.inl rfl)).1 (by rw [equal_eq, hb]; exact (eq_if 9999 hu).1) fun op => bin_other op (.inr (.inl rfl)) (.inr (.inl rfl))
        · rw [r1, r2]
          exact eq_run (guard_if hn (.inr ⟨_, _, rfl⟩)).1 (by rw [equal_eq, hb]; exact ((eq_if 9999 hu).2 _ _).1) fun op => bin_other op (.inr (.inl rfl)) (.inr (.inr (.inr ⟨_, _, rfl⟩)))
      · cases hb
    · rcases isNil_if hq n2 with ⟨_, r2⟩ | ⟨hb, _⟩
      · rcases isNil_if hp n1 with ⟨hb, r1⟩ | ⟨hb, f, a', r1⟩
        · rw [r1, r2]
          exact eq_run (guard_if hn (.inl rfl)).1 (by rw [equal_eq, hb]; exact (eq_if 9999 hu).1) fun op => bin_other op (.inr (.inl rfl)) (.inr (.inl rfl))
        · rw [r1, r2]
          exact eq_run (guard_if hn (.inr ⟨_, _, rfl⟩)).2 (by rw [equal_eq, hb]; exact ((eq_if 9999 hu).2 _ _).2) fun op => bin_other op (.inr (.inr (.inr ⟨_, _, rfl⟩))) (.inr (.inl rfl))
      · cases hb
    · cases hk
end
end Go.AS
