/-
  Operation by operation (4): the rest that makes no new memory. By an AI agent.
-/
import Derived.Test.YtefnpnokbanbkaaAs6
import Derived.Laws.Slices
set_option linter.all false
namespace Go.AS
open Go
section
variable {P : Program} {an : Ann} {fn : Nat} {g : G} {H H' : Heap} {S : Stack} {w : World} {n : Nat} {e : Env} {a : Act} {iop : IOp} {v : AV} {o : Oper} {M : MMap} {Ms : List MMap}

theorem beq_ite {α : Type} {b : Bool} {x : α} {y : Option α} (h : (bif b then some x else none) = y) (hy : y ≠ none) : b = true ∧ y = some x := by
  cases b with
  | true => exact ⟨rfl, h.symm⟩
  | false => exact absurd h.symm hy

theorem sim_nilCheck {x : Operand} (ho : o.op = .nilCheck x) : Goal P an fn g H S w n e a o := by
  intro iop v H' he h hc hv
  rw [ho] at hc
  simp only [cOp, Option.map_eq_some_iff] at hc
  obtain ⟨x', hx, rfl⟩ := hc
  have hp := cO_RV hx he
  simp only [evOp] at hv
  split at hv
  · rename_i hxe
    obtain ⟨rfl, rfl⟩ := ok_inv hv
    rw [hxe] at hp
    obtain ⟨M', Ms', blk, tot, f1, f2, f3⟩ := hp
    exact .pure h (by simp [execOp, ho, f3]) ⟨M', Ms', blk, tot, f1, f2, rfl⟩
  · rename_i hxe
    obtain ⟨rfl, rfl⟩ := ok_inv hv
    rw [hxe] at hp
    obtain ⟨blk, base, c, e, fz, xs, f3, h1⟩ := hp
    exact .pure h (by simp [execOp, ho, f3]) ⟨blk, base, c, e, fz, xs, rfl, h1⟩
  · rename_i hxe
    obtain ⟨rfl, rfl⟩ := ok_inv hv
    rw [hxe] at hp
    obtain ⟨xs, ys, f3, h1⟩ := hp
    exact .pure h (by simp [execOp, ho, f3]) ⟨xs, ys, rfl, h1⟩
  · rename_i hxe
    obtain ⟨rfl, rfl⟩ := ok_inv hv
    rw [hxe] at hp
    obtain ⟨M', Ms', blk, tot, f1, f2, f3⟩ := hp
    exact .pure h (by simp [execOp, ho, f3]) ⟨M', Ms', blk, tot, f1, f2, rfl⟩
  · rename_i hxe
    obtain ⟨rfl, rfl⟩ := ok_inv hv
    rw [hxe] at hp
    obtain ⟨M', Ms', f1, xs, ys, f3, h1⟩ := hp
    exact .pure h (by simp [execOp, ho, f3]) ⟨M', Ms', f1, xs, ys, rfl, h1⟩
  · rename_i hxe
    obtain ⟨rfl, rfl⟩ := ok_inv hv
    rw [hxe] at hp
    obtain ⟨M1, Ms1, f0, M', Ms', blk, tot, f1, f2, f3⟩ := hp
    exact .pure h (by simp [execOp, ho, f3]) ⟨M1, Ms1, f0, M', Ms', blk, tot, f1, f2, rfl⟩
  · cases hv

theorem sim_unOp {op : UnOp} {t : TypeId} {x : Operand} (ho : o.op = .unOp op t x) : Goal P an fn g H S w n e a o := by
  intro iop v H' he h hc hv
  rw [ho] at hc
  simp only [cOp] at hc
  split at hc
  · rename_i x' hx
    cases hc
    have hp := cO_RV hx he
    simp only [evOp] at hv
    split at hv
    · rename_i k m hxe
      obtain ⟨rfl, rfl⟩ := ok_inv hv
      rw [hxe] at hp
      exact .pure h (by simp [execOp, ho, RV.int_inv hp, Op.unary, Op.intArith]) rfl
    · cases hv
  · rename_i x' hx
    cases hc
    have hp := cO_RV hx he
    simp only [evOp] at hv
    split at hv
    · rename_i k m hxe
      obtain ⟨rfl, rfl⟩ := ok_inv hv
      rw [hxe] at hp
      exact .pure h (x := .int k (bitop .xor k (if k.signed then -1 else k.max) m)) (by simp [execOp, ho, RV.int_inv hp, Op.unary, Op.intBits, bitop]) rfl
    · cases hv
  · rename_i x' hx
    cases hc
    have hp := cO_RV hx he
    simp only [evOp] at hv
    split at hv
    · rename_i b hxe
      obtain ⟨rfl, rfl⟩ := ok_inv hv
      rw [hxe] at hp
      exact .pure h (x := .bool (!b)) (by simp [execOp, ho, RV.bool_inv hp, Op.unary]) rfl
    · cases hv
  · cases hc

theorem sim_extract {x : Operand} {i : Nat} (ho : o.op = .extract x i) : Goal P an fn g H S w n e a o := by
  intro iop v H' he h hc hv
  rw [ho] at hc
  simp only [cOp, Option.map_eq_some_iff] at hc
  obtain ⟨x', hx, rfl⟩ := hc
  have hp := cO_RV hx he
  simp only [evOp] at hv
  split at hv
  · rename_i vs hxe
    simp only [Option.map_eq_some_iff, Prod.mk.injEq] at hv
    obtain ⟨v', hi, rfl, rfl⟩ := hv
    rw [hxe] at hp
    obtain ⟨xs, f3, h1⟩ := hp
    obtain ⟨y, e1, e2, _⟩ := h1.get hi
    rw [Array.getElem?_toList] at e1
    exact .pure h (by simp [execOp, ho, f3, Instr.extract, e1]) e2
  · cases hv

theorem sim_fieldAddr {t : TypeId} {x : Operand} {f : Nat} (ho : o.op = .fieldAddr t x f) : Goal P an fn g H S w n e a o := by
  intro iop v H' he h hc hv
  rw [ho] at hc
  simp only [cOp] at hc
  split at hc
  · rename_i fs x' hu hx
    split at hc
    · rename_i fd hf
      split at hc
      · rename_i m hs
        cases hc
        have hp := cO_RV hx he
        have hrun : ∀ (w : World) (blk off : Nat), (Instr.fieldAt t (.pointer (some ⟨blk, off, none⟩)) f).run P w = .ok (.pointer (some ⟨blk, off + fd.offset, none⟩)) w := fun w blk off => by
          simp [Instr.fieldAt, run_underlying' hu, hf, Instr.sureAddr, fieldPlace, run_sizeOf' hs, Addr.add_none]
        simp only [evOp] at hv
        split at hv
        · rename_i id lim off hxe
          obtain ⟨rfl, rfl⟩ := ok_inv hv
          rw [hxe] at hp
          obtain ⟨M', Ms', blk, tot, f1, f2, f3⟩ := hp
          exact .pure h (by simp [execOp, ho, f3, hrun]) ⟨M', Ms', blk, tot, f1, f2, rfl⟩
        · rename_i row off hxe
          obtain ⟨rfl, rfl⟩ := ok_inv hv
          rw [hxe] at hp
          obtain ⟨blk, base, c, e, fz, xs, f3, h1⟩ := hp
          exact .pure h (by simp [execOp, ho, f3, hrun]; rfl) ⟨blk, base, c, e, fz, xs, by rw [Nat.add_assoc], h1⟩
        · cases hv
      · cases hc
    · cases hc
  · cases hc

theorem aggN_isAgg {P : Program} {t : TypeId} {m : Option Nat} (h : aggN P t = some m) : (∀ w, (isAgg t).run P w = .ok m.isSome w) ∧ ∀ k, m = some k → sz P t = some k := by
  cases m with
  | none => exact ⟨fun w => isAgg_none h, fun k hk => by cases hk⟩
  | some k => exact ⟨fun w => (isAgg_some (w := w) h).1, fun k' hk => by cases hk; exact (isAgg_some (w := w) h).2⟩
  where w : World := default

/-- 'part' of related cells. -/
theorem part_one {P : Program} {w : World} {I : IMap} {Ms : List MMap} {t : TypeId} {m : Option Nat} {cs : List AV} {xs : Array Value} {off : Nat} {v : AV}
    (ht : aggN P t = some m) (hr : RVs I cs Ms true xs.toList) (h : one m cs off = some v) : ∃ x, (part t xs off).run P w = .ok x w ∧ RV I v Ms x := by
  obtain ⟨k1, k2⟩ := aggN_isAgg ht
  cases m with
  | none =>
    obtain ⟨x, h1, h2, _⟩ := hr.get h
    rw [Array.getElem?_toList] at h1
    exact ⟨x, by simp [part, k1, h1], h2⟩
  | some m =>
    simp only [one] at h
    cases hb : Nat.ble (off + m) cs.length with
    | false => rw [hb] at h; cases h
    | true =>
      rw [hb] at h; cases h
      have hs := k2 m rfl
      refine ⟨.agg (xs.extract off (off + m)), by simp [part, k1, run_sizeOf' hs], ⟨_, rfl, ?_⟩⟩
      have : (xs.extract off (off + m)).toList = (xs.toList.drop off).take m := by
        rw [Array.toList_extract, List.extract_eq_take_drop]; congr 1; omega
      rw [this]
      exact (hr.drop off).take m

theorem sim_field {t : TypeId} {x : Operand} {f : Nat} (ho : o.op = .field t x f) : Goal P an fn g H S w n e a o := by
  intro iop v H' he h hc hv
  rw [ho] at hc
  simp only [cOp] at hc
  split at hc
  · rename_i fs x' hu hx
    split at hc
    · rename_i fd hf
      simp only [Option.map_eq_some_iff] at hc
      obtain ⟨m, hm, rfl⟩ := hc
      have hp := cO_RV hx he
      simp only [evOp] at hv
      split at hv
      · rename_i cs hxe
        simp only [Option.map_eq_some_iff, Prod.mk.injEq] at hv
        obtain ⟨v', hi, rfl, rfl⟩ := hv
        rw [hxe] at hp
        obtain ⟨xs, f3, h1⟩ := hp
        obtain ⟨y, e1, e2⟩ := part_one (w := w) hm h1 hi
        exact .pure h (by simp [execOp, ho, f3, Instr.field, run_underlying' hu, hf, asAgg, e1]) e2
      · cases hv
    · cases hc
  · cases hc

theorem run_indexAt_slice {P : Program} {w : World} {t el : TypeId} {es : Nat} {ad : Addr} {len cap : Nat} {k : IntKind} {j : Int} (hu : P.underlying t = some (.slice el)) (hs : sz P el = some es) (h0 : 0 ≤ j) (h1 : j < len) :
    (Instr.indexAt t (.slice (some ad) len cap) (.int k j)).run P w = .ok (.pointer (some (ad.add (j.toNat * es)))) w := by
  simp [Instr.indexAt, asIntOf, run_underlying' hu, run_sizeOf' hs, h0, h1]

theorem run_indexAt_array {P : Program} {w : World} {t el : TypeId} {es m : Nat} {ad : Addr} {k : IntKind} {j : Int} (hu : P.underlying t = some (.array m el)) (hs : sz P el = some es) (h0 : 0 ≤ j) (h1 : j < m) :
    (Instr.indexAt t (.pointer (some ad)) (.int k j)).run P w = .ok (.pointer (some (ad.add (j.toNat * es)))) w := by
  simp [Instr.indexAt, asIntOf, run_underlying' hu, run_sizeOf' hs, h0, h1, Instr.sureAddr]

theorem sim_indexAddr {t : TypeId} {x i : Operand} (ho : o.op = .indexAddr t x i) : Goal P an fn g H S w n e a o := by
  intro iop v H' he h hc hv
  rw [ho] at hc
  simp only [cOp] at hc
  split at hc
  · rename_i el x' i' hu hx hi
    split at hc
    · rename_i es hs
      cases hc
      have hp := cO_RV hx he
      have hq := cO_RV hi he
      simp only [evOp] at hv
      split at hv
      · rename_i es' len c cs k j hxe hie
        cases hb : (decide (0 ≤ j) && decide (j < len) && Nat.beq (es + 1) es') with
        | false => rw [hb] at hv; cases hv
        | true =>
          rw [hb] at hv
          obtain ⟨rfl, rfl⟩ := ok_inv hv
          simp only [Bool.and_eq_true, decide_eq_true_eq] at hb
          have hee := Nat.eq_of_beq_eq_true hb.2
          subst hee
          rw [hxe] at hp
          rw [hie] at hq
          have hq' := RV.int_inv hq
          obtain ⟨ad, rcap, xs, f3, g1, g2, g3, g4, g5, g6, g7⟩ := hp
          by_cases hcs : cs = []
          · subst hcs
            have h0 : len * (es + 1) = 0 := by simpa using g5.symm
            have : len = 0 := by
              rcases Nat.mul_eq_zero.1 h0 with h | h
              · exact h
              · omega
            omega
          · obtain ⟨blk, off, c, el', fz, q1, q2, q3⟩ := g7 hcs
            subst q1
            exact .pure h (by simp [execOp, ho, f3, hq', run_indexAt_slice hu hs hb.1.1 hb.1.2, Addr.add_none]) ⟨blk, off, c, el', fz, xs, rfl, q2, g6, q3⟩
      · rename_i id lim off es' len c ex k j hxe hie
        cases hb : (decide (0 ≤ j) && decide (j < len) && Nat.beq (es + 1) es') with
        | false => rw [hb] at hv; cases hv
        | true =>
          rw [hb] at hv
          obtain ⟨rfl, rfl⟩ := ok_inv hv
          simp only [Bool.and_eq_true, decide_eq_true_eq] at hb
          have hee := Nat.eq_of_beq_eq_true hb.2
          subst hee
          rw [hxe] at hp
          rw [hie] at hq
          have hq' := RV.int_inv hq
          obtain ⟨M', Ms', blk, tot, ad, rcap, f1, f2, f3, g1, g2, g3, g4, g5⟩ := hp
          have : rcap ≠ 0 := by omega
          obtain rfl := g5 this
          exact .pure h (by simp [execOp, ho, f3, hq', run_indexAt_slice hu hs hb.1.1 hb.1.2, Addr.add_none]) ⟨M', Ms', blk, tot, f1, f2, rfl⟩
      · cases hv
    · cases hc
  · rename_i m el x' i' hu hx hi
    simp only [Option.map_eq_some_iff] at hc
    obtain ⟨es, hs, rfl⟩ := hc
    have hp := cO_RV hx he
    have hq := cO_RV hi he
    simp only [evOp] at hv
    split at hv
    · rename_i id lim off k j hxe hie
      cases hb : (decide (0 ≤ j) && decide (j < m)) with
      | false => rw [hb] at hv; cases hv
      | true =>
        rw [hb] at hv
        obtain ⟨rfl, rfl⟩ := ok_inv hv
        simp only [Bool.and_eq_true, decide_eq_true_eq] at hb
        rw [hxe] at hp
        rw [hie] at hq
        have hq' := RV.int_inv hq
        obtain ⟨M', Ms', blk, tot, f1, f2, f3⟩ := hp
        exact .pure h (by simp [execOp, ho, f3, hq', run_indexAt_array hu hs hb.1 hb.2, Addr.add_none]) ⟨M', Ms', blk, tot, f1, f2, rfl⟩
    · rename_i row off k j hxe hie
      cases hb : (decide (0 ≤ j) && decide (j < m)) with
      | false => rw [hb] at hv; cases hv
      | true =>
        rw [hb] at hv
        obtain ⟨rfl, rfl⟩ := ok_inv hv
        simp only [Bool.and_eq_true, decide_eq_true_eq] at hb
        rw [hxe] at hp
        rw [hie] at hq
        have hq' := RV.int_inv hq
        obtain ⟨blk, base, c, el', fz, xs, f3, h1⟩ := hp
        exact .pure h (x := .pointer (some ⟨blk, base + off + j.toNat * es, none⟩)) (by simp [execOp, ho, f3, hq', run_indexAt_array hu hs hb.1 hb.2, Addr.add_none]) ⟨blk, base, c, el', fz, xs, by rw [Nat.add_assoc], h1⟩
    · cases hv
  · cases hc

theorem sim_index {t : TypeId} {x i : Operand} (ho : o.op = .index t x i) : Goal P an fn g H S w n e a o := by
  intro iop v H' he h hc hv
  rw [ho] at hc
  simp only [cOp] at hc
  split at hc
  · rename_i x' i' hu hx hi
    cases hc
    have hp := cO_RV hx he
    have hq := cO_RV hi he
    simp only [evOp] at hv
    split at hv
    · rename_i s k j hxe hie
      cases hb : decide (0 ≤ j) with
      | false => rw [hb] at hv; cases hv
      | true =>
        rw [hb] at hv
        simp only [cond_true] at hv
        split at hv
        · rename_i b hs
          obtain ⟨rfl, rfl⟩ := ok_inv hv
          have hj := of_decide_eq_true hb
          rw [hxe] at hp
          rw [hie] at hq
          obtain ⟨bs, f3, rfl⟩ := hp
          have hlt : j.toNat < bs.size := by
            have := (List.getElem?_eq_some_iff.1 hs).1
            rwa [Array.length_toList] at this
          have hget : bs[j.toNat]? = some b := by
            rw [ByteArray.getElem?_lt' bs _ hlt]
            rw [Array.getElem?_toList] at hs
            have : bs.data[j.toNat]? = some (bs[j.toNat]) := by rw [Array.getElem?_eq_getElem (by exact hlt)]; rfl
            rw [this] at hs
            exact hs
          exact .pure h (x := .int .u8 b.toNat) (by simp [execOp, ho, f3, RV.int_inv hq, Instr.index, asIntOf, run_underlying' hu, hj, hget]) rfl
        · cases hv
    · cases hv
  · rename_i m el x' i' hu hx hi
    split at hc
    · rename_i ag es hag hs
      cases hc
      have hp := cO_RV hx he
      have hq := cO_RV hi he
      simp only [evOp] at hv
      split at hv
      · rename_i cs k j hxe hie
        cases hb : (decide (0 ≤ j) && decide (j < m)) with
        | false => rw [hb] at hv; cases hv
        | true =>
          rw [hb] at hv
          simp only [cond_true, Option.map_eq_some_iff, Prod.mk.injEq] at hv
          obtain ⟨v', h3, rfl, rfl⟩ := hv
          simp only [Bool.and_eq_true, decide_eq_true_eq] at hb
          rw [hxe] at hp
          rw [hie] at hq
          obtain ⟨xs, f3, h1⟩ := hp
          have hag2 : (bif ag.isSome then some es else none) = ag := by
            cases ag with
            | none => rfl
            | some k =>
              have := (aggN_isAgg hag).2 k rfl
              rw [hs] at this
              exact this
          rw [hag2] at h3
          obtain ⟨y, e1, e2⟩ := part_one (w := w) hag h1 h3
          exact .pure h (by simp [execOp, ho, f3, RV.int_inv hq, Instr.index, asIntOf, run_underlying' hu, hb.1, hb.2, run_sizeOf' hs, e1]) e2
      · cases hv
    · cases hc
  · cases hc

theorem sim_mkif {t : TypeId} {x : Operand} (ho : o.op = .makeInterface t x) : Goal P an fn g H S w n e a o := by
  intro iop v H' he h hc hv
  rw [ho] at hc
  simp only [cOp] at hc
  split at hc
  · cases hc
  · cases hc
  · rename_i d hd hu
    simp only [Option.map_eq_some_iff] at hc
    obtain ⟨x', hx, rfl⟩ := hc
    obtain ⟨rfl, rfl⟩ := ok_inv hv
    refine .pure h (x := .iface t (a.eval x)) ?_ ⟨_, rfl, cO_RV hx he⟩
    have : (Instr.makeInterface t (a.eval x)).run P w = .ok (.iface t (a.eval x)) w := by
      simp only [Instr.makeInterface, Sem.run_bind, run_underlying' hu, Result.andThen_ok]
      cases d with
      | interface ms => exact (hd ms rfl).elim
      | _ => rfl
    simp [execOp, ho, this]

theorem evs_RVs {I : IMap} {Ms : List MMap} {n : Nat} {e : Env} {a : Act} (he : EnvR I Ms n e a.tmps) : ∀ {xs : List Operand} {os : List Opd}, mapO cO xs = some os → RVs I (evs e os) Ms false (xs.map a.eval)
  | [], _, h => by simp only [mapO, Option.some.injEq] at h; subst h; rfl
  | x :: r, _, h => by
    obtain ⟨y, ys, rfl, h1, h2⟩ := mapO_cons h
    exact ⟨_, _, rfl, cO_RV h1 he, (fun h => by cases h), evs_RVs he h2⟩

theorem sim_mkfn {f : Fn} {fi ca : Array Operand} (ho : o.op = .makeFunc f fi ca) : Goal P an fn g H S w n e a o := by
  intro iop v H' he h hc hv
  rw [ho] at hc
  simp only [cOp] at hc
  split at hc
  · rename_i f' fi' ca' h1 h2
    cases hc
    obtain ⟨rfl, rfl⟩ := ok_inv hv
    have k1 := evs_RVs he h1
    have k2 := evs_RVs he h2
    exact .pure h (x := .func (.func f') (fi.map a.eval) (ca.map a.eval)) (by simp [execOp, ho, Instr.makeFunc]) ⟨_, _, rfl, by simpa using k1, by simpa using k2⟩
  · cases hc

/-- A block that nobody writes. -/
theorem Rel.allocI (h : Rel P g S w) (w' : World) (ob : Obj) (os : w'.os = w.os) (tape : w'.tape = w.tape) (out : w'.output = w.output) (hsz : w'.heap = w.heap.push ob) (lvl : Nat) :
    Rel P { g with I := fun b => if b = w.heap.size then some ob else g.I b } S w' ∧ Le lvl g { g with I := fun b => if b = w.heap.size then some ob else g.I b } w w' := by
  have hIB : ∀ b o, g.I b = some o → b < w.heap.size := fun b o hb => (Array.getElem?_eq_some_iff.1 (h.im b o hb).1).1
  have hI : ∀ b o, g.I b = some o → (if b = w.heap.size then some ob else g.I b) = some o := fun b o hb => by
    rw [if_neg (by have := hIB b o hb; omega)]; exact hb
  have hold : ∀ b, b < w.heap.size → w'.heap[b]? = w.heap[b]? := fun b hb => by rw [hsz, Array.getElem?_push, if_neg (by omega)]
  refine ⟨⟨RelS.frame hI h.rs fun b l id hb _ => ⟨hb, hold b (h.ow b _ hb).1⟩, fun b o hb => ?_, fun b x hx => ?_, fun b hb => ?_, h.lv⟩,
    os, tape, out, by rw [hsz]; simp, .refl _, hI, fun _ _ => rfl, fun b hb => by show (if _ then _ else _) = _; rw [if_neg (by omega)], fun _ _ => Iff.rfl, fun b hb _ => hold b hb⟩
  · by_cases he : b = w.heap.size
    · subst he
      simp only [if_true, Option.some.injEq] at hb
      subst hb
      refine ⟨by rw [hsz]; simp, h.O_new (Nat.le_refl _), fun hB => ?_⟩
      have := (Array.getElem?_eq_some_iff.1 (h.bm _ hB)).1
      omega
    · simp only [he, if_false] at hb
      obtain ⟨k1, k2, k3⟩ := h.im b o hb
      exact ⟨(hold b (hIB b o hb)).trans k1, k2, k3⟩
  · obtain ⟨k1, k2⟩ := h.ow b x hx
    exact ⟨by rw [hsz]; simp; omega, k2⟩
  · have := (Array.getElem?_eq_some_iff.1 (h.bm b hb)).1
    exact (hold b this).trans (h.bm b hb)

theorem bytes_RVs {I : IMap} {Ms : List MMap} {one : Bool} : ∀ (l : List UInt8), RVs I (l.map fun b => AV.int .u8 b.toNat) Ms one (l.map fun b => Value.int .u8 b.toNat)
  | [] => rfl
  | _ :: r => ⟨_, _, rfl, rfl, (fun _ => rfl), bytes_RVs r⟩

theorem bytes_does {b : ByteArray} {el : TypeId} {s : Sem Next} (h : Rel P g S w)
    (hs : s.run P w = ((Conv.stringToBytes el b).run P w).andThen fun v w' => .ok (.value v) w') :
    Does P g S w s (.imm false 1 b.data.toList.length none (b.data.toList.map fun b => .int .u8 b.toNat)) S := by
  have hbs : b.size = b.data.toList.length := Array.length_toList.symm
  have hbs2 : b.data.size = b.size := rfl
  let cp := (Question.appendCap b.size 0 el).cut (w.tape w.drawn (.appendCap b.size 0 el))
  have hcp : b.size ≤ cp := by simp [cp, Question.cut]
  let cells : Array Value := b.data.map (fun x => Value.int .u8 x.toNat) ++ Array.replicate (cp - b.size) (.int .u8 0)
  have hcs : cells.size = cp := by simp [cells, hbs2]; omega
  let w1 : World := { w with drawn := w.drawn + 1, heap := w.heap.push (.cells cells el (cp, cp + 1)) }
  have hrun : s.run P w = .ok (.value (.slice (some ⟨w.heap.size, 0, none⟩) b.size cp)) w1 := by
    rw [hs]
    have h1 : (Conv.stringToBytes el b).run P w = .ok (.slice (some ⟨w.heap.size, 0, none⟩) b.size cp) w1 := by
      simp only [Conv.stringToBytes, Sem.run_bind, run_choose, Question.forced, Bool.false_eq_true, if_false, Result.andThen_ok, newRow, run_newObj, markStringish, run_shape, Sem.run_pure]
      simp only [World.shape?, Array.getElem?_push_size, run_freeze, Result.andThen_ok, World.freeze]
      rw [if_neg (by omega)]
      congr 1
      simp only [w1, World.mk.injEq, and_true]
      refine Array.ext' (List.ext_getElem? fun j => ?_)
      rw [Array.getElem?_toList, Array.getElem?_toList, Array.getElem?_modify, Array.getElem?_push, Array.getElem?_push]
      by_cases hj : j = w.heap.size
      · subst hj
        simp only [if_true, Option.map_some, beq_self_eq_true, cells, cp]
        have hsz : (Array.map (fun b => Value.int IntKind.u8 ↑b.toNat) b.data ++ Array.replicate ((Question.appendCap b.size 0 el).cut (w.tape w.drawn (Question.appendCap b.size 0 el)) - b.size) (Value.int IntKind.u8 0)).size = (Question.appendCap b.size 0 el).cut (w.tape w.drawn (Question.appendCap b.size 0 el)) := hcs
        rw [hsz]
      · simp only [hj, Ne.symm hj, if_false]
    rw [h1]; rfl
  obtain ⟨k1, k2⟩ := Rel.allocI h w1 (.cells cells el (cp, cp + 1)) rfl rfl rfl rfl S.length
  refine ⟨_, w1, _, .inl hrun, k1, k2, ⟨_, cp, b.data.toList.map (fun b => Value.int .u8 b.toNat), by rw [hbs], rfl, (fun hf => by cases hf), by omega, (fun _ hc => by cases hc), by simp, bytes_RVs _, fun _ => ⟨w.heap.size, 0, cells, el, (cp, cp + 1), rfl, by simp, fun i y hy => ?_⟩⟩⟩
  rw [Nat.zero_add]
  have hlt : i < b.data.size := by have := (List.getElem?_eq_some_iff.1 hy).1; simpa using this
  simp only [List.getElem?_map, Array.getElem?_toList] at hy
  simp only [cells]
  rw [Array.getElem?_append_left (by simpa using hlt), Array.getElem?_map]
  exact hy

theorem sim_convert {t u : TypeId} {x : Operand} (ho : o.op = .convert t u x) : Goal P an fn g H S w n e a o := by
  intro iop v H' he h hc hv
  rw [ho] at hc
  simp only [cOp, cConv] at hc
  split at hc
  · rename_i k1 k2 x' hu1 hu2 hx
    cases hc
    have hp := cO_RV hx he
    simp only [evOp] at hv
    split at hv
    · rename_i k m hxe
      obtain ⟨rfl, rfl⟩ := ok_inv hv
      rw [hxe] at hp
      exact .pure h (x := .int k2 (k2.wrap m)) (by simp [execOp, ho, RV.int_inv hp, convert, run_underlying' hu1, run_underlying' hu2, Conv.intToInt]) rfl
    · cases hv
  · rename_i x' hu1 hu2 hx
    cases hc
    have hp := cO_RV hx he
    simp only [evOp] at hv
    split at hv
    · rename_i s hxe
      obtain ⟨rfl, rfl⟩ := ok_inv hv
      rw [hxe] at hp
      obtain ⟨b, f3, rfl⟩ := hp
      exact .pure h (x := .string b) (by simp [execOp, ho, f3, convert, run_underlying' hu1, run_underlying' hu2]) ⟨b, rfl, rfl⟩
    · cases hv
  · rename_i el x' hu1 hu2 hx
    split at hc
    · rename_i hel
      cases hc
      have hp := cO_RV hx he
      simp only [evOp] at hv
      split at hv
      · rename_i s hxe
        obtain ⟨rfl, rfl⟩ := ok_inv hv
        rw [hxe] at hp
        obtain ⟨b, f3, rfl⟩ := hp
        exact bytes_does (el := el) h (by simp [execOp, ho, f3, convert, run_underlying' hu1, run_underlying' hu2, run_underlying' hel])
      · cases hv
    · cases hc
  · cases hc
end
end Go.AS
