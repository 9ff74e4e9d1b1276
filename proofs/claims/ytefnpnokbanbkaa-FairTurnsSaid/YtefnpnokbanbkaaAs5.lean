/-
  Operation by operation (2): values, reads, new objects, stores. By an AI agent.
-/
import Derived.Test.YtefnpnokbanbkaaAs4
set_option linter.all false
namespace Go.AS
open Go

section
variable {P : Program} {an : Ann} {fn : Nat} {g : G} {H H' : Heap} {S : Stack} {w : World} {n : Nat} {e : Env} {a : Act} {iop : IOp} {v : AV} {o : Oper}

abbrev Goal (P : Program) (an : Ann) (fn : Nat) (g : G) (H : Heap) (S : Stack) (w : World) (n : Nat) (e : Env) (a : Act) (o : Oper) : Prop :=
  ∀ {iop : IOp} {v : AV} {H' : Heap}, EnvR g.I g.Ms n e a.tmps → Rel P g (H :: S) w → cOp P an fn o.op = some iop → evOp e H iop = some (v, H') → Does P g (H :: S) w (execOp a.eval o) v (H' :: S)

theorem ok_inv {v v' : AV} {H H' : Heap} (h : ok v H = some (v', H')) : v = v' ∧ H = H' := by cases h; exact ⟨rfl, rfl⟩

theorem sim_move {x : Operand} (ho : o.op = .move x) : Goal P an fn g H S w n e a o := by
  intro iop v H' he h hc hv
  rw [ho] at hc
  simp only [cOp, Option.map_eq_some_iff] at hc
  obtain ⟨x', hx, rfl⟩ := hc
  obtain ⟨rfl, rfl⟩ := ok_inv hv
  exact .pure h (by simp [execOp, ho]) (cO_RV hx he)

theorem sim_assign {x : Operand} (ho : o.op = .assign x) : Goal P an fn g H S w n e a o := by
  intro iop v H' he h hc hv
  rw [ho] at hc
  simp only [cOp, Option.map_eq_some_iff] at hc
  obtain ⟨x', hx, rfl⟩ := hc
  obtain ⟨rfl, rfl⟩ := ok_inv hv
  exact .pure h (by simp [execOp, ho]) (cO_RV hx he)

theorem sim_pick {c x y : Operand} (ho : o.op = .pick c x y) : Goal P an fn g H S w n e a o := by
  intro iop v H' he h hc hv
  rw [ho] at hc
  simp only [cOp] at hc
  split at hc
  · rename_i c' x' y' h1 h2 h3
    cases hc
    simp only [evOp] at hv
    split at hv
    · rename_i t ht
      obtain ⟨rfl, rfl⟩ := ok_inv hv
      have hcv := cO_RV h1 he
      rw [ht] at hcv
      have hb := RV.bool_inv hcv
      cases t
      · exact .pure h (by simp [execOp, ho, hb, asBool]) (cO_RV h3 he)
      · exact .pure h (by simp [execOp, ho, hb, asBool]) (cO_RV h2 he)
    · cases hv
  · cases hc

theorem sim_load {t : TypeId} {x : Operand} (ho : o.op = .load t x) : Goal P an fn g H S w n e a o := by
  intro iop v H' he h hc hv
  rw [ho] at hc
  simp only [cOp] at hc
  split at hc
  · rename_i m x' h1 h2
    cases hc
    have hx := cO_RV h2 he
    simp only [evOp] at hv
    split at hv
    · rename_i id lim off hxe
      rw [hxe] at hx
      split at hv
      · rename_i cs hid
        cases hb : Nat.beq cs.length lim with
        | false => rw [hb] at hv; cases hv
        | true =>
          rw [hb] at hv
          simp only [cond_true, Option.map_eq_some_iff, Prod.mk.injEq] at hv
          obtain ⟨v', h3, rfl, rfl⟩ := hv
          have hlim := Nat.eq_of_beq_eq_true hb
          subst hlim
          obtain ⟨M, Ms, hg⟩ := h.Ms_cons
          obtain ⟨blk, tot, c, el, k1, k2, k3, k4, k5, k6, k7⟩ := h.cells hg hid
          obtain ⟨M', Ms', blk', tot', e1, e2, e3⟩ := hx
          rw [hg] at e1
          cases e1
          rw [k1] at e2
          cases e2
          obtain ⟨x, r1, r2⟩ := load_one h1 k6 k7 h3
          rw [Nat.zero_add] at r1
          exact .pure h (by simp [execOp, ho, e3, Instr.loadAt, Instr.sureAddr, r1]) r2
      · cases hv
    · rename_i row off hxe
      rw [hxe] at hx
      simp only [Option.map_eq_some_iff, Prod.mk.injEq] at hv
      obtain ⟨v', h3, rfl, rfl⟩ := hv
      obtain ⟨blk, base, c, el, fz, xs, e3, k1, k2, k3⟩ := hx
      obtain ⟨x, r1, r2⟩ := load_one h1 k2 (Cells.of_I h k1 k3) h3
      exact .pure h (by simp [execOp, ho, e3, Instr.loadAt, Instr.sureAddr, r1]) r2
    · cases hv
  · cases hc

theorem isFn_RV {I : IMap} {x : Value} : ∀ (v : AV) (Ms : List MMap), isFn v = true → RV I v Ms x → x.oneCell = true ∧ x.cells = #[x]
  | .func f fi ca, Ms, _, hv => by
    cases f with
    | func f => obtain ⟨xs, ys, rfl, h1⟩ := hv; exact ⟨rfl, rfl⟩
    | yield l => obtain ⟨M, Ms', blk, tot, h1, h2, rfl⟩ := hv; exact ⟨rfl, rfl⟩
    | method => exact hv.elim
    | methodOf => exact hv.elim
    | via => exact hv.elim
  | .ext v, Ms, h, hv => by obtain ⟨M, Ms', rfl, h1⟩ := hv; exact isFn_RV v Ms' h h1
  | .undef, _, h, _ => by simp [isFn] at h
  | .bool _, _, h, _ => by simp [isFn] at h
  | .int _ _, _, h, _ => by simp [isFn] at h
  | .str _, _, h, _ => by simp [isFn] at h
  | .nilptr, _, h, _ => by simp [isFn] at h
  | .ptr _ _ _, _, h, _ => by simp [isFn] at h
  | .iptr _ _, _, h, _ => by simp [isFn] at h
  | .imm _ _ _ _ _, _, h, _ => by simp [isFn] at h
  | .ref _ _ _ _ _ _ _, _, h, _ => by simp [isFn] at h
  | .nilmap, _, h, _ => by simp [isFn] at h
  | .map _, _, h, _ => by simp [isFn] at h
  | .nilFunc, _, h, _ => by simp [isFn] at h
  | .iface _ _, _, h, _ => by simp [isFn] at h
  | .nilIface, _, h, _ => by simp [isFn] at h
  | .agg _, _, h, _ => by simp [isFn] at h
  | .tuple _, _, h, _ => by simp [isFn] at h

theorem isOne_RV {I : IMap} {Ms : List MMap} {v : AV} {x : Value} (h : isOne v = true) (hv : RV I v Ms x) : x.oneCell = true ∧ x.cells = #[x] := by
  cases v with
  | agg _ => simp [isOne] at h
  | undef => simp [isOne] at h
  | tuple _ => simp [isOne] at h
  | bool b => obtain rfl : x = .bool b := hv; exact ⟨rfl, rfl⟩
  | int k m => obtain rfl : x = .int k m := hv; exact ⟨rfl, rfl⟩
  | str s => obtain ⟨b, rfl, h2⟩ := hv; exact ⟨rfl, rfl⟩
  | nilptr => obtain rfl : x = .pointer none := hv; exact ⟨rfl, rfl⟩
  | ptr i l f => obtain ⟨M, Ms', blk, tot, h1, h2, rfl⟩ := hv; exact ⟨rfl, rfl⟩
  | iptr row off => obtain ⟨blk, base, c, e, fz, xs, rfl, h1⟩ := hv; exact ⟨rfl, rfl⟩
  | imm a b c d f => obtain ⟨p, q, r, rfl, h1⟩ := hv; exact ⟨rfl, rfl⟩
  | ref a b c d f i j => obtain ⟨M, Ms', p, q, r, s, h0, h1, rfl, h2⟩ := hv; exact ⟨rfl, rfl⟩
  | nilmap => obtain rfl : x = .map none := hv; exact ⟨rfl, rfl⟩
  | map id => obtain ⟨M, Ms', blk, tot, h1, h2, rfl⟩ := hv; exact ⟨rfl, rfl⟩
  | func f fi ca => exact isFn_RV _ _ rfl hv
  | nilFunc => obtain rfl : x = .nilFunc := hv; exact ⟨rfl, rfl⟩
  | iface t u => obtain ⟨y, rfl, h1⟩ := hv; exact ⟨rfl, rfl⟩
  | nilIface => obtain rfl : x = .nilIface := hv; exact ⟨rfl, rfl⟩
  | ext u => exact isFn_RV (.ext u) _ h hv

theorem cellsOf_RV {I : IMap} {Ms : List MMap} {v : AV} {cs : List AV} {x : Value} (h : cellsOf v = some cs) (hv : RV I v Ms x) : RVs I cs Ms true x.cells.toList := by
  unfold cellsOf at h
  split at h
  · cases h; obtain ⟨xs, rfl, h1⟩ := hv; exact h1
  · cases ho : isOne v with
    | false => rw [ho] at h; cases h
    | true =>
      rw [ho] at h
      cases h
      obtain ⟨k1, k2⟩ := isOne_RV ho hv
      rw [k2]
      exact ⟨x, [], rfl, hv, fun _ => k1, rfl⟩

end
end Go.AS
