/-
  Operation by operation: what the evaluator computes, the model computes (1): values, reads. By an AI agent.
-/
import Derived.Test.YtefnpnokbanbkaaAs3
import Derived.Laws.Small
import Derived.Laws.Strings
set_option linter.all false
namespace Go.AS
open Go

theorem cO_RV {I : IMap} {Ms : List MMap} {n : Nat} {e : Env} {a : Act} {x : Operand} {o : Opd} (h : cO x = some o) (he : EnvR I Ms n e a.tmps) : RV I (o.ev e) Ms (a.eval x) := by
  cases x with
  | tmp t => simp only [cO, Option.some.injEq] at h; subst h; exact he.2 t
  | const v =>
    simp only [cO, Option.map_eq_some_iff] at h
    obtain ⟨u, h1, rfl⟩ := h
    exact cV_RV 20 v u h1
  | global g => simp [cO] at h
  | func f => simp only [cO, Option.some.injEq] at h; subst h; exact ⟨#[], #[], rfl, rfl, rfl⟩

/-- What an operation of the model comes to. -/
def Does (P : Program) (g : G) (S : Stack) (w : World) (s : Sem Next) (v : AV) (S' : Stack) : Prop :=
  ∃ g' w' x, (s.run P w = .ok (.value x) w' ∨ (s.run P w = .ok .skip w' ∧ x = undef)) ∧ Rel P g' S' w' ∧ Le S.length g g' w w' ∧ RV g'.I v g'.Ms x

theorem Does.pure {P : Program} {g : G} {S : Stack} {w : World} {s : Sem Next} {v : AV} {x : Value} (h : Rel P g S w) (hs : s.run P w = .ok (.value x) w) (hv : RV g.I v g.Ms x) : Does P g S w s v S :=
  ⟨g, w, x, .inl hs, h, .refl _ _ _, hv⟩

theorem RV.int_inv {I : IMap} {k : IntKind} {n : Int} {Ms : List MMap} {x : Value} (h : RV I (.int k n) Ms x) : x = .int k n := h
theorem RV.bool_inv {I : IMap} {b : Bool} {Ms : List MMap} {x : Value} (h : RV I (.bool b) Ms x) : x = .bool b := h
theorem RV.str_inv {I : IMap} {s : List UInt8} {Ms : List MMap} {x : Value} (h : RV I (.str s) Ms x) : ∃ b : ByteArray, x = .string b ∧ b.data.toList = s := h
theorem RV.agg_inv {I : IMap} {cs : List AV} {Ms : List MMap} {x : Value} (h : RV I (.agg cs) Ms x) : ∃ xs, x = .agg xs ∧ RVs I cs Ms true xs.toList := h
theorem RV.tuple_inv {I : IMap} {cs : List AV} {Ms : List MMap} {x : Value} (h : RV I (.tuple cs) Ms x) : ∃ xs, x = .tuple xs ∧ RVs I cs Ms false xs.toList := h

theorem ikEq_iff {a b : IntKind} : ikEq a b = true ↔ a = b := by cases a <;> cases b <;> simp [ikEq]

theorem bytesLess_eq : ∀ a b : List UInt8, Op.bytesLess a b = bytesLt a b
  | _, [] => by simp [Op.bytesLess, bytesLt]
  | [], _ :: _ => rfl
  | a :: x, b :: y => by simp [Op.bytesLess, bytesLt, bytesLess_eq x y]

theorem run_eqGuard_int {P : Program} {w : World} (op : BinOp) (t : TypeId) (x y : Operand) (k k' : IntKind) (a b : Int) : (eqGuard op t x y (.int k a) (.int k' b)).run P w = .ok () w := by
  unfold eqGuard; split <;> simp
theorem run_eqGuard_str {P : Program} {w : World} (op : BinOp) (t : TypeId) (x y : Operand) (a b : ByteArray) : (eqGuard op t x y (.string a) (.string b)).run P w = .ok () w := by
  unfold eqGuard; split <;> simp
theorem run_eqGuard_bool {P : Program} {w : World} (op : BinOp) (t : TypeId) (x y : Operand) (a b : Bool) : (eqGuard op t x y (.bool a) (.bool b)).run P w = .ok () w := by
  unfold eqGuard; split <;> simp

theorem run_underlying' {P : Program} {w : World} {t : TypeId} {d : TypeDesc} (h : P.underlying t = some d) : (underlying t).run P w = .ok d w := by simp [underlying, h]
theorem run_typeInfo' {P : Program} {w : World} {t : TypeId} {i : TypeInfo} (h : P.info? t = some i) : (typeInfo t).run P w = .ok i w := by simp [typeInfo, h]
theorem run_sizeOf' {P : Program} {w : World} {t : TypeId} {n : Nat} (h : sz P t = some n) : (sizeOf t).run P w = .ok n w := by
  simp only [sz, Option.map_eq_some_iff] at h
  obtain ⟨i, h1, rfl⟩ := h
  simp [sizeOf, run_typeInfo' h1]

/-- A plain value, as the model has it. -/
def toV : AV → Value
  | .bool b => .bool b
  | .int k n => .int k n
  | .str s => .string ⟨s.toArray⟩
  | _ => undef
def plain : AV → Bool
  | .bool _ | .int .. | .str _ => true
  | _ => false
theorem RV.toV {v : AV} (h : plain v = true) (I : IMap) (Ms : List MMap) : RV I v Ms (AS.toV v) := by
  cases v <;> first | rfl | (simp [plain] at h; done) | exact ⟨_, rfl, by simp⟩

theorem bin_int {P : Program} {w : World} (op : BinOp) (t : TypeId) (k k' : IntKind) (a b : Int) {v : AV} (h : binA op (.int k a) (.int k' b) = some v) :
    (binOp op t (.int k a) (.int k' b)).run P w = .ok (toV v) w ∧ plain v = true := by
  cases op
  case shl =>
    simp only [binA] at h
    cases hb : decide (b < 0) with
    | true => rw [hb] at h; cases h
    | false =>
      rw [hb] at h; cases h
      have : ¬ b < 0 := of_decide_eq_false hb
      exact ⟨by simp [binOp, Op.shift, this, toV], rfl⟩
  case shr =>
    simp only [binA] at h
    cases hb : decide (b < 0) with
    | true => rw [hb] at h; cases h
    | false =>
      rw [hb] at h; cases h
      have : ¬ b < 0 := of_decide_eq_false hb
      exact ⟨by simp [binOp, Op.shift, this, toV], rfl⟩
  all_goals
    simp only [binA] at h
    cases hk : ikEq k k' with
    | false => rw [hk] at h; cases h
    | true =>
      rw [hk] at h
      have hkk := ikEq_iff.1 hk
      subst hkk
      simp only [Bool.not_true, cond_false] at h
      first
        | (cases h; refine ⟨?_, rfl⟩; simp [binOp, Op.intArith, toV]; done)
        | (cases h; refine ⟨?_, rfl⟩; simp [binOp, Op.intCmp, toV]; done)
        | (cases h; refine ⟨?_, rfl⟩; simp [binOp, Op.intBits, toV, bitop]; done)
        | (cases hb : (b == 0) with
           | true => rw [hb] at h; cases h
           | false =>
             rw [hb] at h; cases h
             have : ¬ b = 0 := by simpa using hb
             exact ⟨by simp [binOp, Op.intDiv, this, toV], rfl⟩)

theorem bin_str {P : Program} {w : World} (op : BinOp) (t : TypeId) (a b : ByteArray) {v : AV} (h : binA op (.str a.data.toList) (.str b.data.toList) = some v) :
    (binOp op t (.string a) (.string b)).run P w = .ok (toV v) w ∧ plain v = true := by
  have h1 : a.size = a.data.toList.length := Array.length_toList.symm
  have h2 : b.size = b.data.toList.length := Array.length_toList.symm
  cases op
  case add =>
    simp only [binA] at h
    cases hb : Nat.ble (a.data.toList.length + b.data.toList.length) 9223372036854775807 with
    | false => rw [hb] at h; cases h
    | true =>
      rw [hb] at h; cases h
      have hle := Nat.le_of_ble_eq_true hb
      refine ⟨?_, rfl⟩
      simp only [binOp, Op.stringOp]
      rw [if_neg (by rw [h1, h2]; simp only [IntKind.max, IntKind.signed, IntKind.bits]; omega)]
      have : a ++ b = ⟨(a.data.toList ++ b.data.toList).toArray⟩ := by apply ByteArray.ext; simp
      rw [this]; rfl
  case eql => simp only [binA] at h; cases h; exact ⟨by simp only [binOp, Op.stringOp, ByteArray.toList_eq]; rfl, rfl⟩
  case neq => simp only [binA] at h; cases h; exact ⟨by simp only [binOp, Op.stringOp, ByteArray.toList_eq]; rfl, rfl⟩
  case lss => simp only [binA] at h; cases h; exact ⟨by simp only [binOp, Op.stringOp, ByteArray.toList_eq, bytesLess_eq]; rfl, rfl⟩
  case leq => simp only [binA] at h; cases h; exact ⟨by simp only [binOp, Op.stringOp, ByteArray.toList_eq, bytesLess_eq]; rfl, rfl⟩
  case gtr => simp only [binA] at h; cases h; exact ⟨by simp only [binOp, Op.stringOp, ByteArray.toList_eq, bytesLess_eq]; rfl, rfl⟩
  case geq => simp only [binA] at h; cases h; exact ⟨by simp only [binOp, Op.stringOp, ByteArray.toList_eq, bytesLess_eq]; rfl, rfl⟩
  all_goals (simp only [binA] at h; cases h)

/-! ### Reading memory -/
def Cells (w : World) (blk off : Nat) (xs : List Value) : Prop := ∀ i x, xs[i]? = some x → w.cell? ⟨blk, off + i, none⟩ = some x

theorem Addr.add_none (b o n : Nat) : (⟨b, o, none⟩ : Addr).add n = ⟨b, o + n, none⟩ := by
  unfold Addr.add; split
  · rename_i h; subst h; rfl
  · rfl

theorem run_loadCells_of {P : Program} {w : World} {blk off : Nat} {xs : List Value} (h : Cells w blk off xs) : (loadCells ⟨blk, off, none⟩ xs.length).run P w = .ok xs.toArray w :=
  run_loadCells_list w _ xs fun j v hj => by rw [Addr.add_none]; exact h j v hj

theorem isAgg_some {P : Program} {w : World} {t : TypeId} {n : Nat} (h : aggN P t = some (some n)) : (isAgg t).run P w = .ok true w ∧ sz P t = some n := by
  unfold aggN at h
  split at h
  · rename_i fs hu
    simp only [Option.map_eq_some_iff, Option.some.injEq] at h
    obtain ⟨m, h1, rfl⟩ := h
    exact ⟨by simp [isAgg, run_underlying' hu], h1⟩
  · rename_i fs hu
    simp only [Option.map_eq_some_iff, Option.some.injEq] at h
    obtain ⟨m, h1, rfl⟩ := h
    exact ⟨by simp [isAgg, run_underlying' hu], h1⟩
  · simp at h
  · cases h

theorem isAgg_none {P : Program} {w : World} {t : TypeId} (h : aggN P t = some none) : (isAgg t).run P w = .ok false w := by
  unfold aggN at h
  split at h
  · simp at h
  · simp at h
  · rename_i d h1 h2 hu
    simp only [isAgg, Sem.run_bind, run_underlying' hu, Result.andThen_ok]
    cases d with
    | struct fs => exact (h1 fs rfl).elim
    | array n e => exact (h2 n e rfl).elim
    | _ => rfl
  · cases h

theorem run_loadVar_one {P : Program} {w : World} {t : TypeId} {a : Addr} {x : Value} (h : aggN P t = some none) (hc : w.cell? a = some x) : (loadVar t a).run P w = .ok x w := by
  simp [loadVar, isAgg_none h, hc]

theorem run_loadVar_agg {P : Program} {w : World} {t : TypeId} {blk off : Nat} {xs : List Value} (h : aggN P t = some (some xs.length)) (hc : Cells w blk off xs) : (loadVar t ⟨blk, off, none⟩).run P w = .ok (.agg xs.toArray) w := by
  have := isAgg_some (w := w) h
  simp [loadVar, this.1, run_sizeOf' this.2, run_loadCells_of hc]

/-- What 'one' takes out of related cells, the model loads. -/
theorem load_one {P : Program} {w : World} {I : IMap} {Ms : List MMap} {t : TypeId} {n : Option Nat} {cs : List AV} {xs : List Value} {blk base off : Nat} {v : AV}
    (ht : aggN P t = some n) (hr : RVs I cs Ms true xs) (hc : Cells w blk base xs) (h : one n cs off = some v) : ∃ x, (loadVar t ⟨blk, base + off, none⟩).run P w = .ok x w ∧ RV I v Ms x := by
  cases n with
  | none =>
    obtain ⟨x, h1, h2, _⟩ := hr.get h
    exact ⟨x, run_loadVar_one ht (hc off x h1), h2⟩
  | some n =>
    simp only [one] at h
    cases hb : Nat.ble (off + n) cs.length with
    | false => rw [hb] at h; cases h
    | true =>
      rw [hb] at h; cases h
      have hle := Nat.le_of_ble_eq_true hb
      have hlen := hr.length
      refine ⟨.agg ((xs.drop off).take n).toArray, ?_, ⟨_, rfl, by simpa using (hr.drop off).take n⟩⟩
      have hl : ((xs.drop off).take n).length = n := by simp; omega
      exact run_loadVar_agg (by rw [hl]; exact ht) fun i x hx => by
        rw [List.getElem?_take] at hx
        split at hx
        · rw [List.getElem?_drop] at hx
          have := hc (off + i) x hx
          rwa [← Nat.add_assoc] at this
        · cases hx

/-- The cells of an object of the top level. -/
theorem Rel.cells {P : Program} {g : G} {H : Heap} {S : Stack} {w : World} {M : MMap} {Ms : List MMap} (hg : g.Ms = M :: Ms) (h : Rel P g (H :: S) w) {id : Nat} {cs : List AV} (hid : H[id]? = some (.cells cs)) :
    ∃ blk tot c e, M id cs.length = some (blk, tot) ∧ g.O blk = some (S.length, id) ∧ w.heap[blk]? = some (.cells c e (0, 0)) ∧ cs.length ≤ tot ∧ tot ≤ c.size ∧ RVs g.I cs g.Ms true (c.toList.take cs.length) ∧ Cells w blk 0 (c.toList.take cs.length) := by
  have := h.rs
  rw [hg] at this
  obtain ⟨blk, tot, c, e, h1, h2, h3, h4, h5, _, h6⟩ := this.1 id _ hid
  refine ⟨blk, tot, c, e, h1, h2, h3, h4, h5, ?_, ?_⟩
  · rw [hg]
    refine RVs.of_get (by simp; omega) fun i v hv => ?_
    obtain ⟨x, k1, k2, k3⟩ := h6 i v hv
    have hlt := (List.getElem?_eq_some_iff.1 hv).1
    exact ⟨x, by rw [List.getElem?_take, if_pos hlt, Array.getElem?_toList]; exact k1, k2, fun _ => k3⟩
  · intro i x hx
    rw [List.getElem?_take] at hx
    split at hx
    · rw [Array.getElem?_toList] at hx
      simp [World.cell?, h3, hx]
    · cases hx

theorem Cells.of_I {P : Program} {g : G} {S : Stack} {w : World} (h : Rel P g S w) {blk base : Nat} {c : Array Value} {e : TypeId} {fz : Nat × Nat} {xs : List Value} (hI : g.I blk = some (.cells c e fz))
    (hx : ∀ i y, xs[i]? = some y → c[base + i]? = some y) : Cells w blk base xs := fun i x hi => by
  simp [World.cell?, (h.im blk _ hI).1, hx i x hi]

theorem Rel.Ms_cons {P : Program} {g : G} {H : Heap} {S : Stack} {w : World} (h : Rel P g (H :: S) w) : ∃ M Ms, g.Ms = M :: Ms := by
  have := h.rs
  cases hm : g.Ms with
  | nil => rw [hm] at this; exact this.elim
  | cons M Ms => exact ⟨M, Ms, rfl⟩

end Go.AS
