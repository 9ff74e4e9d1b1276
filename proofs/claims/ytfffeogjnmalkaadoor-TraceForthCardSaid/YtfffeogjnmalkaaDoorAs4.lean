import Derived.Laws.Small
import Derived.Laws.Strings
import Derived.Test.YtfffeogjnmalkaaDoorAs3
set_option linter.all false
/-
  Operation by operation: what the evaluator computes, the model computes (1): values, reads. By an AI agent.
-/
namespace Go.AS
open Go

theorem cO_RV {I : IMap} {Ms : List MMap} {n : Nat} {e : Env} {a : Act} {x : Operand} {o : Opd} (h : cO x = some o) (he : EnvR I Ms n e a.tmps) : RV I (o.ev e) Ms (a.eval x) := by
  cases x with
  | tmp t => simp only [cO, Option.some.injEq] at h; subst h; exact he.2 t
  | const v =>
    simp only [cO, Option.map_eq_some_iff] at h
    obtain ⟨u, h1, rfl⟩ := h
    exact cV_RV 20 v u h1
  | global g => simp [cO] at h
  | func f => simp only [cO, Option.some.injEq] at h; subst h; exact ⟨#[], #[], rfl, rfl, rfl⟩

/-- What an operation of the model comes to. -/
def Does (P : Program) (g : G) (S : Stack) (w : World) (s : Sem Next) (v : AV) (S' : Stack) : Prop :=
  ∃ g' w' x, (s.run P w = .ok (.value x) w' ∨ (s.run P w = .ok .skip w' ∧ x = undef)) ∧ Rel P g' S' w' ∧ Le S.length g g' w w' ∧ RV g'.I v g'.Ms x

theorem Does.pure {P : Program} {g : G} {S : Stack} {w : World} {s : Sem Next} {v : AV} {x : Value} (h : Rel P g S w) (hs : s.run P w = .ok (.value x) w) (hv : RV g.I v g.Ms x) : Does P g S w s v S :=
  ⟨g, w, x, .inl hs, h, .refl _ _ _, hv⟩

theorem RV.int_inv {I : IMap} {k : IntKind} {n : Int} {Ms : List MMap} {x : Value} (h : RV I (.int k n) Ms x) : x = .int k n := h
theorem RV.bool_inv {I : IMap} {b : Bool} {Ms : List MMap} {x : Value} (h : RV I (.bool b) Ms x) : x = .bool b := h
theorem RV.str_inv {I : IMap} {s : List UInt8} {Ms : List MMap} {x : Value} (h : RV I (.str s) Ms x) : ∃ b : ByteArray, x = .string b ∧ b.data.toList = s := h
theorem RV.agg_inv {I : IMap} {cs : List AV} {Ms : List MMap} {x : Value} (h : RV I (.agg cs) Ms x) : ∃ xs, x = .agg xs ∧ RVs I cs Ms true xs.toList := h
theorem RV.tuple_inv {I : IMap} {cs : List AV} {Ms : List MMap} {x : Value} (h : RV I (.tuple cs) Ms x) : ∃ xs, x = .tuple xs ∧ RVs I cs Ms false xs.toList := h

theorem ikEq_iff {a b : IntKind} : ikEq a b = true ↔ a = b := by cases a <;> cases b <;> simp [ikEq]

theorem bytesLess_eq : ∀ a b : List UInt8, Op.bytesLess a b = bytesLt a b
  | _, [] => by simp [Op.bytesLess, bytesLt]
  | [], _ :: _ => rfl
  | a :: x, b :: y => by simp [Op.bytesLess, bytesLt, bytesLess_eq x y]

theorem run_eqGuard_int {P : Program} {w : World} (op : BinOp) (t : TypeId) (x y : Operand) (k k' : IntKind) (a b : Int) : (eqGuard op t x y (.int k a) (.int k' b)).run P w = .ok () w := by
  unfold eqGuard; split <;> simp
theorem run_eqGuard_str {P : Program} {w : World} (op : BinOp) (t : TypeId) (x y : Operand) (a b : ByteArray) : (eqGuard op t x y (.string a) (.string b)).run P w = .ok () w := by
  unfold eqGuard; split <;> simp
theorem run_eqGuard_bool {P : Program} {w : World} (op : BinOp) (t : TypeId) (x y : Operand) (a b : Bool) : (eqGuard op t x y (.bool a) (.bool b)).run P w = .ok () w := by
  unfold eqGuard; split <;> simp

theorem run_underlying' {P : Program} {w : World} {t : TypeId} {d : TypeDesc} (h : P.underlying t = some d) : (underlying t).run P w = .ok d w := by simp [underlying, h]
theorem run_typeInfo' {P : Program} {w : World} {t : TypeId} {i : TypeInfo} (h : P.info? t = some i) : (typeInfo t).run P w = .ok i w := by simp [typeInfo, h]
theorem run_sizeOf' {P : Program} {w : World} {t : TypeId} {n : Nat} (h : sz P t = some n) : (sizeOf t).run P w = .ok n w := by
  simp only [sz, Option.map_eq_some_iff] at h
  obtain ⟨i, h1, rfl⟩ := h
  simp [sizeOf, run_typeInfo' h1]

/-- A plain value, as the model has it. -/
def toV : AV → Value
  | .bool b => .bool b
  | .int k n => .int k n
  | .str s => .string ⟨s.toArray⟩
  | _ => undef
def plain : AV → Bool
  | .bool _ | .int .. | .str _ => true
  | _ => false
theorem RV.toV {v : AV} (h : plain v = true) (I : IMap) (Ms : List MMap) : RV I v Ms (AS.toV v) := by
  cases v <;> first | rfl | (simp [plain] at h; done) | exact ⟨_, rfl, by simp⟩

theorem bin_int {P : Program} {w : World} (op : BinOp) (t : TypeId) (k k' : IntKind) (a b : Int) {v : AV} (h : binA op (.int k a) (.int k' b) = some v) :
    (binOp op t (.int k a) (.int k' b)).run P w = .ok (toV v) w ∧ plain v = true := by
  cases op
  case shl =>
    simp only [binA] at h
    cases hb : decide (b < 0) with
    | true => rw [hb] at h; cases h
    | false =>
      rw [hb] at h; cases h
      have : ¬ b < 0 := of_decide_eq_false hb
      exact ⟨by simp [binOp, Op.shift, this, toV], rfl⟩
  case shr =>
    simp only [binA] at h
    cases hb : decide (b < 0) with
    | true => rw [hb] at h; cases h
    | false =>
      rw [hb] at h; cases h
      have : ¬ b < 0 := of_decide_eq_false hb
      exact ⟨by simp [binOp, Op.shift, this, toV], rfl⟩
  all_goals
    simp only [binA] at h
    cases hk : ikEq k k' with
    | false => rw [hk] at h; cases h
    | true =>
      rw [hk] at h
      have hkk := ikEq_iff.1 hk
      subst hkk
      simp only [Bool.not_true, cond_false] at h
      first
        | (cases h; refine ⟨?_, rfl⟩; simp [binOp, Op.intArith, toV]; done)
        | (cases h; refine ⟨?_, rfl⟩; simp [binOp, Op.intCmp, toV]; done)
        | (cases h; refine ⟨?_, rfl⟩; simp [binOp, Op.intBits, toV, bitop]; done)
        | (cases hb : (b == 0) with
           | true => rw [hb] at h; cases h
           | false =>
             rw [hb] at h; cases h
             have : ¬ b = 0 := by simpa using hb
             exact ⟨by simp [binOp, Op.intDiv, this, toV], rfl⟩)

theorem bin_str {P : Program} {w : World} (op : BinOp) (t : TypeId) (a b : ByteArray) {v : AV} (h : binA op (.str a.data.toList) (.str b.data.toList) = some v) :
    (binOp op t (.string a) (.string b)).run P w = .ok (toV v) w ∧ plain v = true := by
  have h1 : a.size = a.data.toList.length := Array.length_toList.symm
  have h2 : b.size = b.data.toList.length := Array.length_toList.symm
  cases op
  case add =>
    simp only [binA] at h
    cases hb : Nat.ble (a.data.toList.length + b.data.toList.length) 9223372036854775807 with
    | false => rw [hb] at h; cases h
    | true =>
      rw [hb] at h; cases h
      have hle := Nat.le_of_ble_eq_true hb
      refine ⟨?_, rfl⟩
      simp only [binOp, Op.stringOp]
      rw [if_neg (by rw [h1, h2]; simp only [IntKind.max, IntKind.signed, IntKind.bits]; omega)]
      have : a ++ b = ⟨(a.data.toList ++ b.data.toList).toArray⟩ := by apply ByteArray.ext; simp
      rw [this]; rfl
  case eql => simp only [binA] at h; cases h; exact ⟨by simp only [binOp, Op.stringOp, ByteArray.toList_eq]; rfl, rfl⟩
  case neq => simp only [binA] at h; cases h; exact ⟨by simp only [binOp, Op.stringOp, ByteArray.toList_eq]; rfl, rfl⟩
  case lss => simp only [binA] at h; cases h; exact ⟨by simp only [binOp, Op.stringOp, ByteArray.toList_eq, bytesLess_eq]; rfl, rfl⟩
  case leq => simp only [binA] at h; cases h; exact ⟨by simp only [binOp, Op.stringOp, ByteArray.toList_eq, bytesLess_eq]; rfl, rfl⟩
  case gtr => simp only [binA] at h; cases h; exact ⟨by simp only [binOp, Op.stringOp, ByteArray.toList_eq, bytesLess_eq]; rfl, rfl⟩
  case geq => simp only [binA] at h; cases h; exact ⟨by simp only [binOp, Op.stringOp, ByteArray.toList_eq, bytesLess_eq]; rfl, rfl⟩
  all_goals (simp only [binA] at h; cases h)

/-! ### Reading memory -/
def Cells (w : World) (blk off : Nat) (xs : List Value) : Prop := ∀ i x, xs[i]? = some x → w.cell? ⟨blk, off + i, none⟩ = some x

theorem Addr.add_none (b o n : Nat) : (⟨b, o, none⟩ : Addr).add n = ⟨b, o + n, none⟩ := by
  unfold Addr.add; split
  · rename_i h; subst h; rfl
  · rfl

theorem run_loadCells_of {P : Program} {w : World} {blk off : Nat} {xs : List Value} (h : Cells w blk off xs) : (loadCells ⟨blk, off, none⟩ xs.length).run P w = .ok xs.toArray w :=
  run_loadCells_list w _ xs fun j v hj => by rw [Addr.add_none]; exact h j v hj

theorem isAgg_some {P : Program} {w : World} {t : TypeId} {n : Nat} (h : aggN P t = some (some n)) : (isAgg t).run P w = .ok true w ∧ sz P t = some n := by
  unfold aggN at h
  split at h
  · rename_i fs hu
    simp only [Option.map_eq_some_iff, Option.some.injEq] at h
    obtain ⟨m, h1, rfl⟩ := h
    exact ⟨by simp [isAgg, run_underlying' hu], h1⟩
  · rename_i fs hu
    simp only [Option.map_eq_some_iff, Option.some.injEq] at h
    obtain ⟨m, h1, rfl⟩ := h
    exact ⟨by simp [isAgg, run_underlying' hu], h1⟩
  · simp at h
  · cases h

theorem isAgg_none {P : Program} {w : World} {t : TypeId} (h : aggN P t = some none) : (isAgg t).run P w = .ok false w := by
  unfold aggN at h
  split at h
  · simp at h
  · simp at h
  · rename_i d h1 h2 hu
    simp only [isAgg, Sem.run_bind, run_underlying' hu, Result.andThen_ok]
    cases d with
    | struct fs => exact (h1 fs rfl).elim
    | array n e => exact (h2 n e rfl).elim
    | _ => rfl
  · cases h

theorem run_loadVar_one {P : Program} {w : World} {t : TypeId} {a : Addr} {x : Value} (h : aggN P t = some none) (hc : w.cell? a = some x) : (loadVar t a).run P w = .ok x w := by
  simp [loadVar, isAgg_none h, hc]

theorem run_loadVar_agg {P : Program} {w : World} {t : TypeId} {blk off : Nat} {xs : List Value} (h : aggN P t = some (some xs.length)) (hc : Cells w blk off xs) : (loadVar t ⟨blk, off, none⟩).run P w = .ok (.agg xs.toArray) w := by
  have := isAgg_some (w := w) h
  simp [loadVar, this.1, run_sizeOf' this.2, run_loadCells_of hc]

/-- What 'one' takes out of related cells, the model loads. -/
theorem load_one {P : Program} {w : World} {I : IMap} {Ms : List MMap} {t : TypeId} {n : Option Nat} {cs : List AV} {xs : List Value} {blk base off : Nat} {v : AV}
    (ht : aggN P t = some n) (hr : RVs I cs Ms true xs) (hc : Cells w blk base xs) (h : one n cs off = some v) : ∃ x, (loadVar t ⟨blk, base + off, none⟩).run P w = .ok x w ∧ RV I v Ms x := by
  cases n with
  | none =>
    obtain ⟨x, h1, h2, _⟩ := hr.get h
    exact ⟨x, run_loadVar_one ht (hc off x h1), h2⟩
  | some n =>
    simp only [one] at h
    cases hb : Nat.ble (off + n) cs.length with
    | false => rw [hb] at h; cases h
    | true =>
      rw [hb] at h; cases h
      have hle := Nat.le_of_ble_eq_true hb
      have hlen := hr.length
      refine ⟨.agg ((xs.drop off).take n).toArray, ?_, ⟨_, rfl, by simpa using (hr.drop off).take n⟩⟩
      have hl : ((xs.drop off).take n).length = n := by simp; omega
      exact run_loadVar_agg (by rw [hl]; exact ht) fun i x hx => by
        rw [List.getElem?_take] at hx
        split at hx
        · rw [List.getElem?_drop] at hx
          have := hc (off + i) x hx
          rwa [← Nat.add_assoc] at this
        · cases hx

/-- The cells of an object of the top level. -/
theorem Rel.cells {P : Program} {g : G} {H : Heap} {S : Stack} {w : World} {M : MMap} {Ms : List MMap} (hg : g.Ms = M :: Ms) (h : Rel P g (H :: S) w) {id : Nat} {cs : List AV} (hid : H[id]? = some (.cells cs)) :
    ∃ blk tot c e, M id cs.length = some (blk, tot) ∧ g.O blk = some (S.length, id) ∧ w.heap[blk]? = some (.cells c e (0, 0)) ∧ cs.length ≤ tot ∧ tot ≤ c.size ∧ RVs g.I cs g.Ms true (c.toList.take cs.length) ∧ Cells w blk 0 (c.toList.take cs.length) := by
  have := h.rs
  rw [hg] at this
  obtain ⟨blk, tot, c, e, h1, h2, h3, h4, h5, _, h6⟩ := this.1 id _ hid
  refine ⟨blk, tot, c, e, h1, h2, h3, h4, h5, ?_, ?_⟩
  · rw [hg]
    refine RVs.of_get (by simp; omega) fun i v hv => ?_
    obtain ⟨x, k1, k2, k3⟩ := h6 i v hv
    have hlt := (List.getElem?_eq_some_iff.1 hv).1
    exact ⟨x, by rw [List.getElem?_take, if_pos hlt, Array.getElem?_toList]; exact k1, k2, fun _ => k3⟩
  · intro i x hx
    rw [List.getElem?_take] at hx
    split at hx
    · rw [Array.getElem?_toList] at hx
      simp [World.cell?, h3, hx]
    · cases hx

theorem Cells.of_I {P : Program} {g : G} {S : Stack} {w : World} (h : Rel P g S w) {blk base : Nat} {c : Array Value} {e : TypeId} {fz : Nat × Nat} {xs : List Value} (hI : g.I blk = some (.cells c e fz))
    (hx : ∀ i y, xs[i]? = some y → c[base + i]? = some y) : Cells w blk base xs := fun i x hi => by
  simp [World.cell?, (h.im blk _ hI).1, hx i x hi]

theorem Rel.Ms_cons {P : Program} {g : G} {H : Heap} {S : Stack} {w : World} (h : Rel P g (H :: S) w) : ∃ M Ms, g.Ms = M :: Ms := by
  have := h.rs
  cases hm : g.Ms with
  | nil => rw [hm] at this; exact this.elim
  | cons M Ms => exact ⟨M, Ms, rfl⟩

end Go.AS

/-
  Operation by operation (2): values, reads, new objects, stores. By an AI agent.
-/
namespace Go.AS
open Go

section
variable {P : Program} {an : Ann} {fn : Nat} {g : G} {H H' : Heap} {S : Stack} {w : World} {n : Nat} {e : Env} {a : Act} {iop : IOp} {v : AV} {o : Oper}

abbrev Goal (P : Program) (an : Ann) (fn : Nat) (g : G) (H : Heap) (S : Stack) (w : World) (n : Nat) (e : Env) (a : Act) (o : Oper) : Prop :=
  ∀ {iop : IOp} {v : AV} {H' : Heap}, EnvR g.I g.Ms n e a.tmps → Rel P g (H :: S) w → cOp P an fn o.op = some iop → evOp e H iop = some (v, H') → Does P g (H :: S) w (execOp a.eval o) v (H' :: S)

theorem ok_inv {v v' : AV} {H H' : Heap} (h : ok v H = some (v', H')) : v = v' ∧ H = H' := by cases h; exact ⟨rfl, rfl⟩

theorem sim_move {x : Operand} (ho : o.op = .move x) : Goal P an fn g H S w n e a o := by
  intro iop v H' he h hc hv
  rw [ho] at hc
  simp only [cOp, Option.map_eq_some_iff] at hc
  obtain ⟨x', hx, rfl⟩ := hc
  obtain ⟨rfl, rfl⟩ := ok_inv hv
  exact .pure h (by simp [execOp, ho]) (cO_RV hx he)

theorem sim_assign {x : Operand} (ho : o.op = .assign x) : Goal P an fn g H S w n e a o := by
  intro iop v H' he h hc hv
  rw [ho] at hc
  simp only [cOp, Option.map_eq_some_iff] at hc
  obtain ⟨x', hx, rfl⟩ := hc
  obtain ⟨rfl, rfl⟩ := ok_inv hv
  exact .pure h (by simp [execOp, ho]) (cO_RV hx he)

theorem sim_pick {c x y : Operand} (ho : o.op = .pick c x y) : Goal P an fn g H S w n e a o := by
  intro iop v H' he h hc hv
  rw [ho] at hc
  simp only [cOp] at hc
  split at hc
  · rename_i c' x' y' h1 h2 h3
    cases hc
    simp only [evOp] at hv
    split at hv
    · rename_i t ht
      obtain ⟨rfl, rfl⟩ := ok_inv hv
      have hcv := cO_RV h1 he
      rw [ht] at hcv
      have hb := RV.bool_inv hcv
      cases t
      · exact .pure h (by simp [execOp, ho, hb, asBool]) (cO_RV h3 he)
      · exact .pure h (by simp [execOp, ho, hb, asBool]) (cO_RV h2 he)
    · cases hv
  · cases hc

theorem sim_load {t : TypeId} {x : Operand} (ho : o.op = .load t x) : Goal P an fn g H S w n e a o := by
  intro iop v H' he h hc hv
  rw [ho] at hc
  simp only [cOp] at hc
  split at hc
  · rename_i m x' h1 h2
    cases hc
    have hx := cO_RV h2 he
    simp only [evOp] at hv
    split at hv
    · rename_i id lim off hxe
      rw [hxe] at hx
      split at hv
      · rename_i cs hid
        cases hb : Nat.beq cs.length lim with
        | false => rw [hb] at hv; cases hv
        | true =>
          rw [hb] at hv
          simp only [cond_true, Option.map_eq_some_iff, Prod.mk.injEq] at hv
          obtain ⟨v', h3, rfl, rfl⟩ := hv
          have hlim := Nat.eq_of_beq_eq_true hb
          subst hlim
          obtain ⟨M, Ms, hg⟩ := h.Ms_cons
          obtain ⟨blk, tot, c, el, k1, k2, k3, k4, k5, k6, k7⟩ := h.cells hg hid
          obtain ⟨M', Ms', blk', tot', e1, e2, e3⟩ := hx
          rw [hg] at e1
          cases e1
          rw [k1] at e2
          cases e2
          obtain ⟨x, r1, r2⟩ := load_one h1 k6 k7 h3
          rw [Nat.zero_add] at r1
          exact .pure h (by simp [execOp, ho, e3, Instr.loadAt, Instr.sureAddr, r1]) r2
      · cases hv
    · rename_i row off hxe
      rw [hxe] at hx
      simp only [Option.map_eq_some_iff, Prod.mk.injEq] at hv
      obtain ⟨v', h3, rfl, rfl⟩ := hv
      obtain ⟨blk, base, c, el, fz, xs, e3, k1, k2, k3⟩ := hx
      obtain ⟨x, r1, r2⟩ := load_one h1 k2 (Cells.of_I h k1 k3) h3
      exact .pure h (by simp [execOp, ho, e3, Instr.loadAt, Instr.sureAddr, r1]) r2
    · cases hv
  · cases hc

theorem isFn_RV {I : IMap} {x : Value} : ∀ (v : AV) (Ms : List MMap), isFn v = true → RV I v Ms x → x.oneCell = true ∧ x.cells = #[x]
  | .func f fi ca, Ms, _, hv => by
    cases f with
    | func f => obtain ⟨xs, ys, rfl, h1⟩ := hv; exact ⟨rfl, rfl⟩
    | yield l => obtain ⟨M, Ms', blk, tot, h1, h2, rfl⟩ := hv; exact ⟨rfl, rfl⟩
    | method => exact hv.elim
    | methodOf => exact hv.elim
    | via => exact hv.elim
  | .ext v, Ms, h, hv => by obtain ⟨M, Ms', rfl, h1⟩ := hv; exact isFn_RV v Ms' h h1
  | .undef, _, h, _ => by simp [isFn] at h
  | .bool _, _, h, _ => by simp [isFn] at h
  | .int _ _, _, h, _ => by simp [isFn] at h
  | .str _, _, h, _ => by simp [isFn] at h
  | .nilptr, _, h, _ => by simp [isFn] at h
  | .ptr _ _ _, _, h, _ => by simp [isFn] at h
  | .iptr _ _, _, h, _ => by simp [isFn] at h
  | .imm _ _ _ _ _, _, h, _ => by simp [isFn] at h
  | .ref _ _ _ _ _ _ _, _, h, _ => by simp [isFn] at h
  | .nilmap, _, h, _ => by simp [isFn] at h
  | .map _, _, h, _ => by simp [isFn] at h
  | .nilFunc, _, h, _ => by simp [isFn] at h
  | .iface _ _, _, h, _ => by simp [isFn] at h
  | .nilIface, _, h, _ => by simp [isFn] at h
  | .agg _, _, h, _ => by simp [isFn] at h
  | .tuple _, _, h, _ => by simp [isFn] at h

theorem isOne_RV {I : IMap} {Ms : List MMap} {v : AV} {x : Value} (h : isOne v = true) (hv : RV I v Ms x) : x.oneCell = true ∧ x.cells = #[x] := by
  cases v with
  | agg _ => simp [isOne] at h
  | undef => simp [isOne] at h
  | tuple _ => simp [isOne] at h
  | bool b => obtain rfl : x = .bool b := hv; exact ⟨rfl, rfl⟩
  | int k m => obtain rfl : x = .int k m := hv; exact ⟨rfl, rfl⟩
  | str s => obtain ⟨b, rfl, h2⟩ := hv; exact ⟨rfl, rfl⟩
  | nilptr => obtain rfl : x = .pointer none := hv; exact ⟨rfl, rfl⟩
  | ptr i l f => obtain ⟨M, Ms', blk, tot, h1, h2, rfl⟩ := hv; exact ⟨rfl, rfl⟩
  | iptr row off => obtain ⟨blk, base, c, e, fz, xs, rfl, h1⟩ := hv; exact ⟨rfl, rfl⟩
  | imm a b c d f => obtain ⟨p, q, r, rfl, h1⟩ := hv; exact ⟨rfl, rfl⟩
  | ref a b c d f i j => obtain ⟨M, Ms', p, q, r, s, h0, h1, rfl, h2⟩ := hv; exact ⟨rfl, rfl⟩
  | nilmap => obtain rfl : x = .map none := hv; exact ⟨rfl, rfl⟩
  | map id => obtain ⟨M, Ms', blk, tot, h1, h2, rfl⟩ := hv; exact ⟨rfl, rfl⟩
  | func f fi ca => exact isFn_RV _ _ rfl hv
  | nilFunc => obtain rfl : x = .nilFunc := hv; exact ⟨rfl, rfl⟩
  | iface t u => obtain ⟨y, rfl, h1⟩ := hv; exact ⟨rfl, rfl⟩
  | nilIface => obtain rfl : x = .nilIface := hv; exact ⟨rfl, rfl⟩
  | ext u => exact isFn_RV (.ext u) _ h hv

theorem cellsOf_RV {I : IMap} {Ms : List MMap} {v : AV} {cs : List AV} {x : Value} (h : cellsOf v = some cs) (hv : RV I v Ms x) : RVs I cs Ms true x.cells.toList := by
  unfold cellsOf at h
  split at h
  · cases h; obtain ⟨xs, rfl, h1⟩ := hv; exact h1
  · cases ho : isOne v with
    | false => rw [ho] at h; cases h
    | true =>
      rw [ho] at h
      cases h
      obtain ⟨k1, k2⟩ := isOne_RV ho hv
      rw [k2]
      exact ⟨x, [], rfl, hv, fun _ => k1, rfl⟩

end
end Go.AS

/-
  Operation by operation (3): new objects and stores. By an AI agent.
-/
namespace Go.AS
open Go

theorem oneCell_eq (v : Value) : v.oneCell' = v.oneCell := by cases v <;> rfl

/-- One block alone has changed. -/
structure Upd (w w' : World) (blk : Nat) : Prop where
  os : w'.os = w.os
  tape : w'.tape = w.tape
  output : w'.output = w.output
  size : w'.heap.size = w.heap.size
  other : ∀ b, b ≠ blk → w'.heap[b]? = w.heap[b]?

theorem Upd.refl (w : World) (blk : Nat) : Upd w w blk := ⟨rfl, rfl, rfl, rfl, fun _ _ => rfl⟩
theorem Upd.trans {w w' w'' : World} {blk : Nat} (h : Upd w w' blk) (k : Upd w' w'' blk) : Upd w w'' blk :=
  ⟨k.os.trans h.os, k.tape.trans h.tape, k.output.trans h.output, k.size.trans h.size, fun b hb => (k.other b hb).trans (h.other b hb)⟩

theorem upd_setCell {w : World} {blk off : Nat} {v : Value} {c : Array Value} {e : TypeId} {fz : Nat × Nat} (h : w.heap[blk]? = some (.cells c e fz)) :
    Upd w (w.setCell ⟨blk, off, none⟩ v) blk ∧ (w.setCell ⟨blk, off, none⟩ v).heap[blk]? = some (.cells (c.setIfInBounds off v) e fz) := by
  refine ⟨⟨rfl, rfl, rfl, by simp [World.setCell], fun b hb => ?_⟩, ?_⟩
  · simp only [World.setCell, Array.getElem?_modify]
    rw [if_neg (by omega)]
  · simp only [World.setCell, Array.getElem?_modify]
    simp [h]

theorem run_storeCells {P : Program} {blk off : Nat} {e : TypeId} : ∀ (vs : List Value) (i : Nat) (w : World) (c : Array Value), w.heap[blk]? = some (.cells c e (0, 0)) → (∀ v ∈ vs, v.oneCell = true) → off + i + vs.length ≤ c.size →
    ∃ w' c', (storeCells ⟨blk, off, none⟩ vs i).run P w = .ok () w' ∧ Upd w w' blk ∧ w'.heap[blk]? = some (.cells c' e (0, 0)) ∧ c'.size = c.size ∧
      ∀ j, c'[j]? = if off + i ≤ j ∧ j < off + i + vs.length then vs[j - (off + i)]? else c[j]?
  | [], i, w, c, h, _, _ => ⟨w, c, rfl, .refl _ _, h, rfl, fun j => by rw [if_neg (by simp only [List.length_nil]; omega)]⟩
  | v :: r, i, w, c, h, h1, hfit => by
    simp only [List.length_cons] at hfit
    have hlt : off + i < c.size := by omega
    obtain ⟨u1, u2⟩ := upd_setCell (off := off + i) (v := v) h
    obtain ⟨w', c', k1, k2, k3, k4, k5⟩ := run_storeCells (P := P) (off := off) r (i + 1) _ _ u2 (fun u hu => h1 u (by simp [hu])) (by simp; omega)
    refine ⟨w', c', ?_, u1.trans k2, k3, by simpa using k4, fun j => ?_⟩
    · simp only [storeCells, Sem.run_bind, Addr.add_none]
      rw [run_store P w _ v _ (by rw [oneCell_eq]; exact h1 v (by simp))]
      have hc : w.cell? ⟨blk, off + i, none⟩ = some c[off + i] := by simp [World.cell?, h, hlt]
      have hf : w.frozen? ⟨blk, off + i, none⟩ = false := by simp [World.frozen?, h]
      simp only [hc, hf, Bool.false_eq_true, if_false, Result.andThen_ok]
      exact k1
    · rw [k5 j]
      by_cases hj : j = off + i
      · subst hj
        rw [if_neg (by omega), if_pos (by simp)]
        simp [hlt]
      · by_cases hj2 : off + i ≤ j ∧ j < off + i + (r.length + 1)
        · rw [if_pos (by omega), if_pos (by simpa using hj2), show j - (off + i) = (j - (off + (i + 1))) + 1 from by omega]
          simp
        · rw [if_neg (by omega), if_neg (by simpa using hj2)]
          simp [Ne.symm hj]

theorem splice_length {cs vs : List AV} {off : Nat} (h : off + vs.length ≤ cs.length) : (splice cs off vs).length = cs.length := by simp [splice]; omega
theorem splice_get {cs vs : List AV} {off : Nat} (h : off + vs.length ≤ cs.length) (j : Nat) : (splice cs off vs)[j]? = if off ≤ j ∧ j < off + vs.length then vs[j - off]? else cs[j]? := by
  unfold splice
  have hl : (cs.take off).length = off := by simp; omega
  rw [List.append_assoc, List.getElem?_append]
  by_cases h1 : j < off
  · rw [if_pos (by rw [hl]; exact h1), if_neg (by omega), List.getElem?_take, if_pos h1]
  · rw [if_neg (by rw [hl]; exact h1), hl, List.getElem?_append]
    by_cases h2 : j < off + vs.length
    · rw [if_pos (by omega), if_pos (by omega)]
    · rw [if_neg (by omega), if_neg (by omega), List.getElem?_drop]
      congr 1; omega

section
variable {P : Program} {an : Ann} {fn : Nat} {g : G} {H H' : Heap} {S : Stack} {w : World} {n : Nat} {e : Env} {a : Act} {iop : IOp} {v : AV} {o : Oper} {M : MMap} {Ms : List MMap}

/-- A new row of cells. -/
theorem Rel.allocCells (hg : g.Ms = M :: Ms) (h : Rel P g (H :: S) w) {cs : List AV} {c : Array Value} (t : TypeId) (hr : RVs g.I cs g.Ms true (c.toList.take cs.length)) {tot : Nat} (h1 : cs.length ≤ tot) (h2 : tot ≤ c.size) :
    ∃ g', Rel P g' ((H ++ [.cells cs]) :: S) (w.alloc (.cells c t)) ∧ Le (S.length + 1) g g' w (w.alloc (.cells c t)) ∧ ∃ M', g'.Ms = M' :: Ms ∧ M' H.length cs.length = some (w.heap.size, tot) := by
  refine Rel.alloc hg h (.cells cs) (.cells c t) cs.length tot fun O' M' hp' hM k1 k0 k2 k3 => ?_
  refine ⟨w.heap.size, tot, c, t, k1, k2, k3, h1, h2, fun l p hp => Nat.le_of_eq (k0 l p hp), fun i v hv => ?_⟩
  obtain ⟨x, e1, e2, e3⟩ := hr.get hv
  rw [hg] at e2
  have hlt := (List.getElem?_eq_some_iff.1 hv).1
  rw [List.getElem?_take, if_pos hlt, Array.getElem?_toList] at e1
  exact ⟨x, e1, RV.mono (fun _ _ h => h) v hM e2, e3 rfl⟩

theorem take_all {α : Type} (l : List α) {n : Nat} (h : l.length = n) : l.take n = l := by subst h; simp

theorem run_newVar {P : Program} {w : World} (t : TypeId) (v : Value) : (newVar t v).run P w = .ok ⟨w.heap.size, 0, none⟩ (w.alloc (.cells v.cells t)) := rfl

theorem sim_box {t : TypeId} {x : Operand} (ho : o.op = .box t x) : Goal P an fn g H S w n e a o := by
  intro iop v H' he h hc hv
  rw [ho] at hc
  simp only [cOp] at hc
  split at hc
  · rename_i m x' h1 h2
    cases hc
    simp only [evOp] at hv
    split at hv
    · rename_i cs hcs
      cases hb : Nat.beq cs.length m with
      | false => rw [hb] at hv; cases hv
      | true =>
        rw [hb] at hv
        obtain ⟨rfl, rfl⟩ := ok_inv hv
        have hm := Nat.eq_of_beq_eq_true hb
        subst hm
        obtain ⟨M, Ms, hg⟩ := h.Ms_cons
        have hr := cellsOf_RV hcs (cO_RV h2 he)
        have hl := hr.length
        obtain ⟨g', k1, k2, M', k3, k4⟩ := Rel.allocCells hg h (c := (a.eval x).cells) t (by rw [take_all _ hl]; exact hr) (Nat.le_refl _) (by rw [← Array.length_toList]; omega)
        exact ⟨g', _, _, .inl (by simp [execOp, ho, Instr.box, run_newVar]), k1, k2, M', Ms, _, _, k3, k4, rfl⟩
    · cases hv
  · cases hc

theorem zeroCs_RV {P : Program} {t : TypeId} {z : List AV} (h : zeroCs P t = some z) (I : IMap) (Ms : List MMap) : ∃ i zv, P.info? t = some i ∧ i.zero = some zv ∧ RVs I z Ms true zv.cells.toList := by
  simp only [zeroCs, zeroOf, Option.bind_eq_some_iff] at h
  obtain ⟨v, ⟨x, ⟨i, h1, h2⟩, h3⟩, h4⟩ := h
  exact ⟨i, x, h1, h2, cellsOf_RV h4 (cV_RV 20 _ _ h3)⟩

theorem run_zeroValue {P : Program} {w : World} {t : TypeId} {i : TypeInfo} {z : Value} (h : P.info? t = some i) (hz : i.zero = some z) : (zeroValue t).run P w = .ok z w := by
  simp [zeroValue, run_typeInfo' h, hz]

theorem sim_alloc {t : TypeId} (ho : o.op = .alloc t) : Goal P an fn g H S w n e a o := by
  intro iop v H' he h hc hv
  rw [ho] at hc
  simp only [cOp] at hc
  split at hc
  · rename_i z m _ h1 h2
    cases hb : Nat.beq z.length m with
    | false => rw [hb] at hc; cases hc
    | true =>
      rw [hb] at hc
      cases hc
      obtain ⟨rfl, rfl⟩ := ok_inv hv
      obtain ⟨M, Ms, hg⟩ := h.Ms_cons
      obtain ⟨i, zv, hi, hz, hr⟩ := zeroCs_RV h1 g.I g.Ms
      have hl := hr.length
      obtain ⟨g', k1, k2, M', k3, k4⟩ := Rel.allocCells hg h (c := zv.cells) t (by rw [take_all _ hl]; exact hr) (Nat.le_refl _) (by rw [← Array.length_toList]; omega)
      exact ⟨g', _, _, .inl (by simp [execOp, ho, Instr.alloc, run_zeroValue hi hz, run_newVar]), k1, k2, M', Ms, _, _, k3, k4, rfl⟩
  · rename_i el es cap cells _ h1 h2
    cases hc
    obtain ⟨rfl, rfl⟩ := ok_inv hv
    obtain ⟨M, Ms, hg⟩ := h.Ms_cons
    obtain ⟨i, zv, hi, hz, hr⟩ := zeroCs_RV h1 g.I g.Ms
    obtain ⟨x0, r0, e0, q0, _, x1, r1, e1, q1, _, e2⟩ := hr
    subst e1
    have e2 : r1 = [] := e2
    subst e2
    have q0 : x0 = .pointer none := q0
    subst q0
    obtain ⟨ad, rcap, xs, rfl, hn, hnn, _⟩ := q1
    have hn : true = ad.isNone := hn
    cases ad with
    | some ad => cases hn
    | none =>
      obtain ⟨hl, hrc⟩ := hnn rfl
      subst hrc
      have hcs : zv.cells = #[.pointer none, .slice none 0 0] := by
        apply Array.ext'
        rw [e0]
      obtain ⟨g', k1, k2, M', k3, k4⟩ := Rel.alloc hg h (.bld t el []) (.cells zv.cells t) 0 0 fun O' M' hp' hM k1 k0 k2 k3 => ⟨w.heap.size, 0, _, _, k1, k2, by rw [k3, hcs], .inl rfl, fun q hq => (by cases hq), .inl ⟨rfl, rfl⟩⟩
      exact ⟨g', _, _, .inl (by simp [execOp, ho, Instr.alloc, run_zeroValue hi hz, run_newVar]), k1, k2, M', Ms, _, _, k3, k4, rfl⟩
  · cases hc

/-- Values into an object's cells. -/
theorem Rel.store (hg : g.Ms = M :: Ms) (h : Rel P g (H :: S) w) {id : Nat} {cs : List AV} (hid : H[id]? = some (.cells cs)) {blk tot : Nat} (hM : M id cs.length = some (blk, tot)) {off : Nat} {vs : List AV} {xs : List Value}
    (hr : RVs g.I vs g.Ms true xs) (hfit : off + vs.length ≤ cs.length) :
    ∃ w', (storeCells ⟨blk, off, none⟩ xs).run P w = .ok () w' ∧ Rel P g (H.set id (.cells (splice cs off vs)) :: S) w' ∧ Le (S.length + 1) g g w w' := by
  have rs := h.rs
  rw [hg] at rs
  obtain ⟨blk', tot', c, el, k1, k2, k3, k4, k5, k7, k6⟩ := rs.1 id _ hid
  rw [hM] at k1
  cases k1
  have hxl := hr.length
  obtain ⟨w', c', r1, r2, r3, r4, r5⟩ := run_storeCells (P := P) (blk := blk) (off := off) (e := el) xs 0 w c k3 (fun v hv => by
    obtain ⟨i, hi⟩ := List.getElem?_of_mem hv
    have hi2 : i < vs.length := by have := (List.getElem?_eq_some_iff.1 hi).1; omega
    obtain ⟨x, e1, _, e3⟩ := hr.get (List.getElem?_eq_getElem hi2)
    rw [hi] at e1
    cases e1
    exact e3 rfl) (by omega)
  refine ⟨w', r1, ?_⟩
  have hidlt := (List.getElem?_eq_some_iff.1 hid).1
  have hsl := splice_length (cs := cs) (vs := vs) (off := off) hfit
  have := Rel.change (w' := w') hg h id (.cells (splice cs off vs)) (H.set id (.cells (splice cs off vs))) M g.O r2.os r2.tape r2.output (by rw [r2.size]; exact Nat.le_refl _)
    (fun b hb hne => r2.other b (by intro e; subst e; exact hne k2))
    (fun j hj => by rw [List.getElem?_set, if_neg (fun e => hj e.symm)]) (by rw [List.getElem?_set]; simp [hidlt]) (by simp)
    (fun _ _ _ => rfl) (fun _ _ h => h) (fun lim p hp => (rs.2.1 _ _ _ hp).2) (fun _ _ => rfl)
    (fun b hb x hx => by rw [h.O_new hb] at hx; cases hx)
    (by
      refine ⟨blk, tot, c', el, by rw [hsl]; exact hM, k2, r3, by rw [hsl]; exact k4, by rw [r4]; exact k5, fun l p hp => by rw [hsl]; exact k7 l p hp, fun i v hv => ?_⟩
      rw [splice_get hfit] at hv
      have hr5 := r5 i
      simp only [Nat.add_zero] at hr5
      rw [hr5, hxl]
      by_cases hc : off ≤ i ∧ i < off + vs.length
      · rw [if_pos hc] at hv ⊢
        obtain ⟨x, e1, e2, e3⟩ := hr.get hv
        exact ⟨x, e1, by rw [← hg]; exact e2, e3 rfl⟩
      · rw [if_neg hc] at hv ⊢
        exact k6 i v hv)
  rw [show ({ g with Ms := M :: Ms, O := g.O } : G) = g from by cases g; cases hg; rfl] at this
  exact this

theorem sim_store {t : TypeId} {x y : Operand} (ho : o.op = .store t x y) : Goal P an fn g H S w n e a o := by
  intro iop v H' he h hc hv
  rw [ho] at hc
  simp only [cOp] at hc
  split at hc
  · rename_i m x' y' h1 h2 h3
    cases hc
    simp only [evOp] at hv
    split at hv
    · rename_i id lim off vs hx hvs
      split at hv
      · rename_i cs hid
        cases hb : (Nat.beq cs.length lim && Nat.beq vs.length m && Nat.ble (off + m) lim) with
        | false => rw [hb] at hv; cases hv
        | true =>
          rw [hb] at hv
          obtain ⟨rfl, rfl⟩ := ok_inv hv
          simp only [Bool.and_eq_true] at hb
          have e1 := Nat.eq_of_beq_eq_true hb.1.1
          have e2 := Nat.eq_of_beq_eq_true hb.1.2
          have e3 := Nat.le_of_ble_eq_true hb.2
          subst e1 e2
          obtain ⟨M, Ms, hg⟩ := h.Ms_cons
          have hp := cO_RV h2 he
          rw [hx] at hp
          obtain ⟨M', Ms', blk, tot, f1, f2, f3⟩ := hp
          rw [hg] at f1
          cases f1
          have hr := cellsOf_RV hvs (cO_RV h3 he)
          obtain ⟨w', r1, r2, r3⟩ := Rel.store hg h hid f2 (off := off) hr e3
          refine ⟨g, w', undef, .inr ⟨?_, rfl⟩, r2, r3, trivial⟩
          have hsz : (a.eval y).cells.size = vs.length := by rw [← Array.length_toList]; exact hr.length
          simp [execOp, ho, f3, Instr.storeAt, Instr.sureAddr, storeVar, run_sizeOf' h1, hsz, r1]
      · cases hv
    · cases hv
  · cases hc
end
end Go.AS
