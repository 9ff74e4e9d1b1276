import Derived.Laws.Slices
import Derived.Test.YtfffeogjnmalkaaDoorAs4
set_option linter.all false
/-
  Operation by operation (4): the rest that makes no new memory. By an AI agent.
-/
namespace Go.AS
open Go
section
variable {P : Program} {an : Ann} {fn : Nat} {g : G} {H H' : Heap} {S : Stack} {w : World} {n : Nat} {e : Env} {a : Act} {iop : IOp} {v : AV} {o : Oper} {M : MMap} {Ms : List MMap}

theorem beq_ite {α : Type} {b : Bool} {x : α} {y : Option α} (h : (bif b then some x else none) = y) (hy : y ≠ none) : b = true ∧ y = some x := by
  cases b with
  | true => exact ⟨rfl, h.symm⟩
  | false => exact absurd h.symm hy

theorem sim_nilCheck {x : Operand} (ho : o.op = .nilCheck x) : Goal P an fn g H S w n e a o := by
  intro iop v H' he h hc hv
  rw [ho] at hc
  simp only [cOp, Option.map_eq_some_iff] at hc
  obtain ⟨x', hx, rfl⟩ := hc
  have hp := cO_RV hx he
  simp only [evOp] at hv
  split at hv
  · rename_i hxe
    obtain ⟨rfl, rfl⟩ := ok_inv hv
    rw [hxe] at hp
    obtain ⟨M', Ms', blk, tot, f1, f2, f3⟩ := hp
    exact .pure h (by simp [execOp, ho, f3]) ⟨M', Ms', blk, tot, f1, f2, rfl⟩
  · rename_i hxe
    obtain ⟨rfl, rfl⟩ := ok_inv hv
    rw [hxe] at hp
    obtain ⟨blk, base, c, e, fz, xs, f3, h1⟩ := hp
    exact .pure h (by simp [execOp, ho, f3]) ⟨blk, base, c, e, fz, xs, rfl, h1⟩
  · rename_i hxe
    obtain ⟨rfl, rfl⟩ := ok_inv hv
    rw [hxe] at hp
    obtain ⟨xs, ys, f3, h1⟩ := hp
    exact .pure h (by simp [execOp, ho, f3]) ⟨xs, ys, rfl, h1⟩
  · rename_i hxe
    obtain ⟨rfl, rfl⟩ := ok_inv hv
    rw [hxe] at hp
    obtain ⟨M', Ms', blk, tot, f1, f2, f3⟩ := hp
    exact .pure h (by simp [execOp, ho, f3]) ⟨M', Ms', blk, tot, f1, f2, rfl⟩
  · rename_i hxe
    obtain ⟨rfl, rfl⟩ := ok_inv hv
    rw [hxe] at hp
    obtain ⟨M', Ms', f1, xs, ys, f3, h1⟩ := hp
    exact .pure h (by simp [execOp, ho, f3]) ⟨M', Ms', f1, xs, ys, rfl, h1⟩
  · rename_i hxe
    obtain ⟨rfl, rfl⟩ := ok_inv hv
    rw [hxe] at hp
    obtain ⟨M1, Ms1, f0, M', Ms', blk, tot, f1, f2, f3⟩ := hp
    exact .pure h (by simp [execOp, ho, f3]) ⟨M1, Ms1, f0, M', Ms', blk, tot, f1, f2, rfl⟩
  · cases hv

theorem sim_unOp {op : UnOp} {t : TypeId} {x : Operand} (ho : o.op = .unOp op t x) : Goal P an fn g H S w n e a o := by
  intro iop v H' he h hc hv
  rw [ho] at hc
  simp only [cOp] at hc
  split at hc
  · rename_i x' hx
    cases hc
    have hp := cO_RV hx he
    simp only [evOp] at hv
    split at hv
    · rename_i k m hxe
      obtain ⟨rfl, rfl⟩ := ok_inv hv
      rw [hxe] at hp
      exact .pure h (by simp [execOp, ho, RV.int_inv hp, Op.unary, Op.intArith]) rfl
    · cases hv
  · rename_i x' hx
    cases hc
    have hp := cO_RV hx he
    simp only [evOp] at hv
    split at hv
    · rename_i k m hxe
      obtain ⟨rfl, rfl⟩ := ok_inv hv
      rw [hxe] at hp
      exact .pure h (x := .int k (bitop .xor k (if k.signed then -1 else k.max) m)) (by simp [execOp, ho, RV.int_inv hp, Op.unary, Op.intBits, bitop]) rfl
    · cases hv
  · rename_i x' hx
    cases hc
    have hp := cO_RV hx he
    simp only [evOp] at hv
    split at hv
    · rename_i b hxe
      obtain ⟨rfl, rfl⟩ := ok_inv hv
      rw [hxe] at hp
      exact .pure h (x := .bool (!b)) (by simp [execOp, ho, RV.bool_inv hp, Op.unary]) rfl
    · cases hv
  · cases hc

theorem sim_extract {x : Operand} {i : Nat} (ho : o.op = .extract x i) : Goal P an fn g H S w n e a o := by
  intro iop v H' he h hc hv
  rw [ho] at hc
  simp only [cOp, Option.map_eq_some_iff] at hc
  obtain ⟨x', hx, rfl⟩ := hc
  have hp := cO_RV hx he
  simp only [evOp] at hv
  split at hv
  · rename_i vs hxe
    simp only [Option.map_eq_some_iff, Prod.mk.injEq] at hv
    obtain ⟨v', hi, rfl, rfl⟩ := hv
    rw [hxe] at hp
    obtain ⟨xs, f3, h1⟩ := hp
    obtain ⟨y, e1, e2, _⟩ := h1.get hi
    rw [Array.getElem?_toList] at e1
    exact .pure h (by simp [execOp, ho, f3, Instr.extract, e1]) e2
  · cases hv

theorem sim_fieldAddr {t : TypeId} {x : Operand} {f : Nat} (ho : o.op = .fieldAddr t x f) : Goal P an fn g H S w n e a o := by
  intro iop v H' he h hc hv
  rw [ho] at hc
  simp only [cOp] at hc
  split at hc
  · rename_i fs x' hu hx
    split at hc
    · rename_i fd hf
      split at hc
      · rename_i m hs
        cases hc
        have hp := cO_RV hx he
        have hrun : ∀ (w : World) (blk off : Nat), (Instr.fieldAt t (.pointer (some ⟨blk, off, none⟩)) f).run P w = .ok (.pointer (some ⟨blk, off + fd.offset, none⟩)) w := fun w blk off => by
          simp [Instr.fieldAt, run_underlying' hu, hf, Instr.sureAddr, fieldPlace, run_sizeOf' hs, Addr.add_none]
        simp only [evOp] at hv
        split at hv
        · rename_i id lim off hxe
          obtain ⟨rfl, rfl⟩ := ok_inv hv
          rw [hxe] at hp
          obtain ⟨M', Ms', blk, tot, f1, f2, f3⟩ := hp
          exact .pure h (by simp [execOp, ho, f3, hrun]) ⟨M', Ms', blk, tot, f1, f2, rfl⟩
        · rename_i row off hxe
          obtain ⟨rfl, rfl⟩ := ok_inv hv
          rw [hxe] at hp
          obtain ⟨blk, base, c, e, fz, xs, f3, h1⟩ := hp
          exact .pure h (by simp [execOp, ho, f3, hrun]; rfl) ⟨blk, base, c, e, fz, xs, by rw [Nat.add_assoc], h1⟩
        · cases hv
      · cases hc
    · cases hc
  · cases hc

theorem aggN_isAgg {P : Program} {t : TypeId} {m : Option Nat} (h : aggN P t = some m) : (∀ w, (isAgg t).run P w = .ok m.isSome w) ∧ ∀ k, m = some k → sz P t = some k := by
  cases m with
  | none => exact ⟨fun w => isAgg_none h, fun k hk => by cases hk⟩
  | some k => exact ⟨fun w => (isAgg_some (w := w) h).1, fun k' hk => by cases hk; exact (isAgg_some (w := w) h).2⟩
  where w : World := default

/-- 'part' of related cells. -/
theorem part_one {P : Program} {w : World} {I : IMap} {Ms : List MMap} {t : TypeId} {m : Option Nat} {cs : List AV} {xs : Array Value} {off : Nat} {v : AV}
    (ht : aggN P t = some m) (hr : RVs I cs Ms true xs.toList) (h : one m cs off = some v) : ∃ x, (part t xs off).run P w = .ok x w ∧ RV I v Ms x := by
  obtain ⟨k1, k2⟩ := aggN_isAgg ht
  cases m with
  | none =>
    obtain ⟨x, h1, h2, _⟩ := hr.get h
    rw [Array.getElem?_toList] at h1
    exact ⟨x, by simp [part, k1, h1], h2⟩
  | some m =>
    simp only [one] at h
    cases hb : Nat.ble (off + m) cs.length with
    | false => rw [hb] at h; cases h
    | true =>
      rw [hb] at h; cases h
      have hs := k2 m rfl
      refine ⟨.agg (xs.extract off (off + m)), by simp [part, k1, run_sizeOf' hs], ⟨_, rfl, ?_⟩⟩
      have : (xs.extract off (off + m)).toList = (xs.toList.drop off).take m := by
        rw [Array.toList_extract, List.extract_eq_take_drop]; congr 1; omega
      rw [this]
      exact (hr.drop off).take m

theorem sim_field {t : TypeId} {x : Operand} {f : Nat} (ho : o.op = .field t x f) : Goal P an fn g H S w n e a o := by
  intro iop v H' he h hc hv
  rw [ho] at hc
  simp only [cOp] at hc
  split at hc
  · rename_i fs x' hu hx
    split at hc
    · rename_i fd hf
      simp only [Option.map_eq_some_iff] at hc
      obtain ⟨m, hm, rfl⟩ := hc
      have hp := cO_RV hx he
      simp only [evOp] at hv
      split at hv
      · rename_i cs hxe
        simp only [Option.map_eq_some_iff, Prod.mk.injEq] at hv
        obtain ⟨v', hi, rfl, rfl⟩ := hv
        rw [hxe] at hp
        obtain ⟨xs, f3, h1⟩ := hp
        obtain ⟨y, e1, e2⟩ := part_one (w := w) hm h1 hi
        exact .pure h (by simp [execOp, ho, f3, Instr.field, run_underlying' hu, hf, asAgg, e1]) e2
      · cases hv
    · cases hc
  · cases hc

theorem run_indexAt_slice {P : Program} {w : World} {t el : TypeId} {es : Nat} {ad : Addr} {len cap : Nat} {k : IntKind} {j : Int} (hu : P.underlying t = some (.slice el)) (hs : sz P el = some es) (h0 : 0 ≤ j) (h1 : j < len) :
    (Instr.indexAt t (.slice (some ad) len cap) (.int k j)).run P w = .ok (.pointer (some (ad.add (j.toNat * es)))) w := by
  simp [Instr.indexAt, asIntOf, run_underlying' hu, run_sizeOf' hs, h0, h1]

theorem run_indexAt_array {P : Program} {w : World} {t el : TypeId} {es m : Nat} {ad : Addr} {k : IntKind} {j : Int} (hu : P.underlying t = some (.array m el)) (hs : sz P el = some es) (h0 : 0 ≤ j) (h1 : j < m) :
    (Instr.indexAt t (.pointer (some ad)) (.int k j)).run P w = .ok (.pointer (some (ad.add (j.toNat * es)))) w := by
  simp [Instr.indexAt, asIntOf, run_underlying' hu, run_sizeOf' hs, h0, h1, Instr.sureAddr]

theorem sim_indexAddr {t : TypeId} {x i : Operand} (ho : o.op = .indexAddr t x i) : Goal P an fn g H S w n e a o := by
  intro iop v H' he h hc hv
  rw [ho] at hc
  simp only [cOp] at hc
  split at hc
  · rename_i el x' i' hu hx hi
    split at hc
    · rename_i es hs
      cases hc
      have hp := cO_RV hx he
      have hq := cO_RV hi he
      simp only [evOp] at hv
      split at hv
      · rename_i es' len c cs k j hxe hie
        cases hb : (decide (0 ≤ j) && decide (j < len) && Nat.beq (es + 1) es') with
        | false => rw [hb] at hv; cases hv
        | true =>
          rw [hb] at hv
          obtain ⟨rfl, rfl⟩ := ok_inv hv
          simp only [Bool.and_eq_true, decide_eq_true_eq] at hb
          have hee := Nat.eq_of_beq_eq_true hb.2
          subst hee
          rw [hxe] at hp
          rw [hie] at hq
          have hq' := RV.int_inv hq
          obtain ⟨ad, rcap, xs, f3, g1, g2, g3, g4, g5, g6, g7⟩ := hp
          by_cases hcs : cs = []
          · subst hcs
            have h0 : len * (es + 1) = 0 := by simpa using g5.symm
            have : len = 0 := by
              rcases Nat.mul_eq_zero.1 h0 with h | h
              · exact h
              · omega
            omega
          · obtain ⟨blk, off, c, el', fz, q1, q2, q3⟩ := g7 hcs
            subst q1
            exact .pure h (by simp [execOp, ho, f3, hq', run_indexAt_slice hu hs hb.1.1 hb.1.2, Addr.add_none]) ⟨blk, off, c, el', fz, xs, rfl, q2, g6, q3⟩
      · rename_i id lim off es' len c ex k j hxe hie
        cases hb : (decide (0 ≤ j) && decide (j < len) && Nat.beq (es + 1) es') with
        | false => rw [hb] at hv; cases hv
        | true =>
          rw [hb] at hv
          obtain ⟨rfl, rfl⟩ := ok_inv hv
          simp only [Bool.and_eq_true, decide_eq_true_eq] at hb
          have hee := Nat.eq_of_beq_eq_true hb.2
          subst hee
          rw [hxe] at hp
          rw [hie] at hq
          have hq' := RV.int_inv hq
          obtain ⟨M', Ms', blk, tot, ad, rcap, f1, f2, f3, g1, g2, g3, g4, g5⟩ := hp
          have : rcap ≠ 0 := by omega
          obtain rfl := g5 this
          exact .pure h (by simp [execOp, ho, f3, hq', run_indexAt_slice hu hs hb.1.1 hb.1.2, Addr.add_none]) ⟨M', Ms', blk, tot, f1, f2, rfl⟩
      · cases hv
    · cases hc
  · rename_i m el x' i' hu hx hi
    simp only [Option.map_eq_some_iff] at hc
    obtain ⟨es, hs, rfl⟩ := hc
    have hp := cO_RV hx he
    have hq := cO_RV hi he
    simp only [evOp] at hv
    split at hv
    · rename_i id lim off k j hxe hie
      cases hb : (decide (0 ≤ j) && decide (j < m)) with
      | false => rw [hb] at hv; cases hv
      | true =>
        rw [hb] at hv
        obtain ⟨rfl, rfl⟩ := ok_inv hv
        simp only [Bool.and_eq_true, decide_eq_true_eq] at hb
        rw [hxe] at hp
        rw [hie] at hq
        have hq' := RV.int_inv hq
        obtain ⟨M', Ms', blk, tot, f1, f2, f3⟩ := hp
        exact .pure h (by simp [execOp, ho, f3, hq', run_indexAt_array hu hs hb.1 hb.2, Addr.add_none]) ⟨M', Ms', blk, tot, f1, f2, rfl⟩
    · rename_i row off k j hxe hie
      cases hb : (decide (0 ≤ j) && decide (j < m)) with
      | false => rw [hb] at hv; cases hv
      | true =>
        rw [hb] at hv
        obtain ⟨rfl, rfl⟩ := ok_inv hv
        simp only [Bool.and_eq_true, decide_eq_true_eq] at hb
        rw [hxe] at hp
        rw [hie] at hq
        have hq' := RV.int_inv hq
        obtain ⟨blk, base, c, el', fz, xs, f3, h1⟩ := hp
        exact .pure h (x := .pointer (some ⟨blk, base + off + j.toNat * es, none⟩)) (by simp [execOp, ho, f3, hq', run_indexAt_array hu hs hb.1 hb.2, Addr.add_none]) ⟨blk, base, c, el', fz, xs, by rw [Nat.add_assoc], h1⟩
    · cases hv
  · cases hc

theorem sim_index {t : TypeId} {x i : Operand} (ho : o.op = .index t x i) : Goal P an fn g H S w n e a o := by
  intro iop v H' he h hc hv
  rw [ho] at hc
  simp only [cOp] at hc
  split at hc
  · rename_i x' i' hu hx hi
    cases hc
    have hp := cO_RV hx he
    have hq := cO_RV hi he
    simp only [evOp] at hv
    split at hv
    · rename_i s k j hxe hie
      cases hb : decide (0 ≤ j) with
      | false => rw [hb] at hv; cases hv
      | true =>
        rw [hb] at hv
        simp only [cond_true] at hv
        split at hv
        · rename_i b hs
          obtain ⟨rfl, rfl⟩ := ok_inv hv
          have hj := of_decide_eq_true hb
          rw [hxe] at hp
          rw [hie] at hq
          obtain ⟨bs, f3, rfl⟩ := hp
          have hlt : j.toNat < bs.size := by
            have := (List.getElem?_eq_some_iff.1 hs).1
            rwa [Array.length_toList] at this
          have hget : bs[j.toNat]? = some b := by
            rw [ByteArray.getElem?_lt' bs _ hlt]
            rw [Array.getElem?_toList] at hs
            have : bs.data[j.toNat]? = some (bs[j.toNat]) := by rw [Array.getElem?_eq_getElem (by exact hlt)]; rfl
            rw [this] at hs
            exact hs
          exact .pure h (x := .int .u8 b.toNat) (by simp [execOp, ho, f3, RV.int_inv hq, Instr.index, asIntOf, run_underlying' hu, hj, hget]) rfl
        · cases hv
    · cases hv
  · rename_i m el x' i' hu hx hi
    split at hc
    · rename_i ag es hag hs
      cases hc
      have hp := cO_RV hx he
      have hq := cO_RV hi he
      simp only [evOp] at hv
      split at hv
      · rename_i cs k j hxe hie
        cases hb : (decide (0 ≤ j) && decide (j < m)) with
        | false => rw [hb] at hv; cases hv
        | true =>
          rw [hb] at hv
          simp only [cond_true, Option.map_eq_some_iff, Prod.mk.injEq] at hv
          obtain ⟨v', h3, rfl, rfl⟩ := hv
          simp only [Bool.and_eq_true, decide_eq_true_eq] at hb
          rw [hxe] at hp
          rw [hie] at hq
          obtain ⟨xs, f3, h1⟩ := hp
          have hag2 : (bif ag.isSome then some es else none) = ag := by
            cases ag with
            | none => rfl
            | some k =>
              have := (aggN_isAgg hag).2 k rfl
              rw [hs] at this
              exact this
          rw [hag2] at h3
          obtain ⟨y, e1, e2⟩ := part_one (w := w) hag h1 h3
          exact .pure h (by simp [execOp, ho, f3, RV.int_inv hq, Instr.index, asIntOf, run_underlying' hu, hb.1, hb.2, run_sizeOf' hs, e1]) e2
      · cases hv
    · cases hc
  · cases hc

theorem sim_mkif {t : TypeId} {x : Operand} (ho : o.op = .makeInterface t x) : Goal P an fn g H S w n e a o := by
  intro iop v H' he h hc hv
  rw [ho] at hc
  simp only [cOp] at hc
  split at hc
  · cases hc
  · cases hc
  · rename_i d hd hu
    simp only [Option.map_eq_some_iff] at hc
    obtain ⟨x', hx, rfl⟩ := hc
    obtain ⟨rfl, rfl⟩ := ok_inv hv
    refine .pure h (x := .iface t (a.eval x)) ?_ ⟨_, rfl, cO_RV hx he⟩
    have : (Instr.makeInterface t (a.eval x)).run P w = .ok (.iface t (a.eval x)) w := by
      simp only [Instr.makeInterface, Sem.run_bind, run_underlying' hu, Result.andThen_ok]
      cases d with
      | interface ms => exact (hd ms rfl).elim
      | _ => rfl
    simp [execOp, ho, this]

theorem evs_RVs {I : IMap} {Ms : List MMap} {n : Nat} {e : Env} {a : Act} (he : EnvR I Ms n e a.tmps) : ∀ {xs : List Operand} {os : List Opd}, mapO cO xs = some os → RVs I (evs e os) Ms false (xs.map a.eval)
  | [], _, h => by simp only [mapO, Option.some.injEq] at h; subst h; rfl
  | x :: r, _, h => by
    obtain ⟨y, ys, rfl, h1, h2⟩ := mapO_cons h
    exact ⟨_, _, rfl, cO_RV h1 he, (fun h => by cases h), evs_RVs he h2⟩

theorem sim_mkfn {f : Fn} {fi ca : Array Operand} (ho : o.op = .makeFunc f fi ca) : Goal P an fn g H S w n e a o := by
  intro iop v H' he h hc hv
  rw [ho] at hc
  simp only [cOp] at hc
  split at hc
  · rename_i f' fi' ca' h1 h2
    cases hc
    obtain ⟨rfl, rfl⟩ := ok_inv hv
    have k1 := evs_RVs he h1
    have k2 := evs_RVs he h2
    exact .pure h (x := .func (.func f') (fi.map a.eval) (ca.map a.eval)) (by simp [execOp, ho, Instr.makeFunc]) ⟨_, _, rfl, by simpa using k1, by simpa using k2⟩
  · cases hc

/-- A block that nobody writes. -/
theorem Rel.allocI (h : Rel P g S w) (w' : World) (ob : Obj) (os : w'.os = w.os) (tape : w'.tape = w.tape) (out : w'.output = w.output) (hsz : w'.heap = w.heap.push ob) (lvl : Nat) :
    Rel P { g with I := fun b => if b = w.heap.size then some ob else g.I b } S w' ∧ Le lvl g { g with I := fun b => if b = w.heap.size then some ob else g.I b } w w' := by
  have hIB : ∀ b o, g.I b = some o → b < w.heap.size := fun b o hb => (Array.getElem?_eq_some_iff.1 (h.im b o hb).1).1
  have hI : ∀ b o, g.I b = some o → (if b = w.heap.size then some ob else g.I b) = some o := fun b o hb => by
    rw [if_neg (by have := hIB b o hb; omega)]; exact hb
  have hold : ∀ b, b < w.heap.size → w'.heap[b]? = w.heap[b]? := fun b hb => by rw [hsz, Array.getElem?_push, if_neg (by omega)]
  refine ⟨⟨RelS.frame hI h.rs fun b l id hb _ => ⟨hb, hold b (h.ow b _ hb).1⟩, fun b o hb => ?_, fun b x hx => ?_, fun b hb => ?_, h.lv⟩,
    os, tape, out, by rw [hsz]; simp, .refl _, hI, fun _ _ => rfl, fun b hb => by show (if _ then _ else _) = _; rw [if_neg (by omega)], fun _ _ => Iff.rfl, fun b hb _ => hold b hb⟩
  · by_cases he : b = w.heap.size
    · subst he
      simp only [if_true, Option.some.injEq] at hb
      subst hb
      refine ⟨by rw [hsz]; simp, h.O_new (Nat.le_refl _), fun hB => ?_⟩
      have := (Array.getElem?_eq_some_iff.1 (h.bm _ hB)).1
      omega
    · simp only [he, if_false] at hb
      obtain ⟨k1, k2, k3⟩ := h.im b o hb
      exact ⟨(hold b (hIB b o hb)).trans k1, k2, k3⟩
  · obtain ⟨k1, k2⟩ := h.ow b x hx
    exact ⟨by rw [hsz]; simp; omega, k2⟩
  · have := (Array.getElem?_eq_some_iff.1 (h.bm b hb)).1
    exact (hold b this).trans (h.bm b hb)

theorem bytes_RVs {I : IMap} {Ms : List MMap} {one : Bool} : ∀ (l : List UInt8), RVs I (l.map fun b => AV.int .u8 b.toNat) Ms one (l.map fun b => Value.int .u8 b.toNat)
  | [] => rfl
  | _ :: r => ⟨_, _, rfl, rfl, (fun _ => rfl), bytes_RVs r⟩

theorem bytes_does {b : ByteArray} {el : TypeId} {s : Sem Next} (h : Rel P g S w)
    (hs : s.run P w = ((Conv.stringToBytes el b).run P w).andThen fun v w' => .ok (.value v) w') :
    Does P g S w s (.imm false 1 b.data.toList.length none (b.data.toList.map fun b => .int .u8 b.toNat)) S := by
  have hbs : b.size = b.data.toList.length := Array.length_toList.symm
  have hbs2 : b.data.size = b.size := rfl
  let cp := (Question.appendCap b.size 0 el).cut (w.tape w.drawn (.appendCap b.size 0 el))
  have hcp : b.size ≤ cp := by simp [cp, Question.cut]
  let cells : Array Value := b.data.map (fun x => Value.int .u8 x.toNat) ++ Array.replicate (cp - b.size) (.int .u8 0)
  have hcs : cells.size = cp := by simp [cells, hbs2]; omega
  let w1 : World := { w with drawn := w.drawn + 1, heap := w.heap.push (.cells cells el (cp, cp + 1)) }
  have hrun : s.run P w = .ok (.value (.slice (some ⟨w.heap.size, 0, none⟩) b.size cp)) w1 := by
    rw [hs]
    have h1 : (Conv.stringToBytes el b).run P w = .ok (.slice (some ⟨w.heap.size, 0, none⟩) b.size cp) w1 := by
      simp only [Conv.stringToBytes, Sem.run_bind, run_choose, Question.forced, Bool.false_eq_true, if_false, Result.andThen_ok, newRow, run_newObj, markStringish, run_shape, Sem.run_pure]
      simp only [World.shape?, Array.getElem?_push_size, run_freeze, Result.andThen_ok, World.freeze]
      rw [if_neg (by omega)]
      congr 1
      simp only [w1, World.mk.injEq, and_true]
      refine Array.ext' (List.ext_getElem? fun j => ?_)
      rw [Array.getElem?_toList, Array.getElem?_toList, Array.getElem?_modify, Array.getElem?_push, Array.getElem?_push]
      by_cases hj : j = w.heap.size
      · subst hj
        simp only [if_true, Option.map_some, beq_self_eq_true, cells, cp]
        have hsz : (Array.map (fun b => Value.int IntKind.u8 ↑b.toNat) b.data ++ Array.replicate ((Question.appendCap b.size 0 el).cut (w.tape w.drawn (Question.appendCap b.size 0 el)) - b.size) (Value.int IntKind.u8 0)).size = (Question.appendCap b.size 0 el).cut (w.tape w.drawn (Question.appendCap b.size 0 el)) := hcs
        rw [hsz]
      · simp only [hj, Ne.symm hj, if_false]
    rw [h1]; rfl
  obtain ⟨k1, k2⟩ := Rel.allocI h w1 (.cells cells el (cp, cp + 1)) rfl rfl rfl rfl S.length
  refine ⟨_, w1, _, .inl hrun, k1, k2, ⟨_, cp, b.data.toList.map (fun b => Value.int .u8 b.toNat), by rw [hbs], rfl, (fun hf => by cases hf), by omega, (fun _ hc => by cases hc), by simp, bytes_RVs _, fun _ => ⟨w.heap.size, 0, cells, el, (cp, cp + 1), rfl, by simp, fun i y hy => ?_⟩⟩⟩
  rw [Nat.zero_add]
  have hlt : i < b.data.size := by have := (List.getElem?_eq_some_iff.1 hy).1; simpa using this
  simp only [List.getElem?_map, Array.getElem?_toList] at hy
  simp only [cells]
  rw [Array.getElem?_append_left (by simpa using hlt), Array.getElem?_map]
  exact hy

end
end Go.AS

/-
  Operation by operation (5): rows that are built. By an AI agent.
-/
namespace Go.AS
open Go
section
variable {P : Program} {an : Ann} {fn : Nat} {g : G} {H H' : Heap} {S : Stack} {w : World} {n : Nat} {e : Env} {a : Act} {iop : IOp} {v : AV} {o : Oper} {M : MMap} {Ms : List MMap}

theorem foldl_set : ∀ (vs : List Value) (off k : Nat) (c : Array Value), off + k + vs.length ≤ c.size →
    ((vs.zipIdx k).foldl (fun (cs : Array Value) (p : Value × Nat) => cs.setIfInBounds (off + p.2) p.1) c).size = c.size ∧
    ∀ j, ((vs.zipIdx k).foldl (fun (cs : Array Value) (p : Value × Nat) => cs.setIfInBounds (off + p.2) p.1) c)[j]? = if off + k ≤ j ∧ j < off + k + vs.length then vs[j - (off + k)]? else c[j]?
  | [], off, k, c, _ => ⟨rfl, fun j => by rw [if_neg (by simp only [List.length_nil]; omega)]; rfl⟩
  | v :: r, off, k, c, h => by
    simp only [List.length_cons] at h
    simp only [List.zipIdx_cons, List.foldl_cons]
    obtain ⟨h1, h2⟩ := foldl_set r off (k + 1) (c.setIfInBounds (off + k) v) (by simp; omega)
    refine ⟨by rw [h1]; simp, fun j => ?_⟩
    rw [h2 j]
    by_cases hj : j = off + k
    · subst hj
      rw [if_neg (by omega), if_pos (by simp)]
      simp [show off + k < c.size from by omega]
    · by_cases hj2 : off + k ≤ j ∧ j < off + k + (r.length + 1)
      · rw [if_pos (by omega), if_pos (by simpa using hj2), show j - (off + k) = (j - (off + (k + 1))) + 1 from by omega]
        simp
      · rw [if_neg (by omega), if_neg (by simpa using hj2)]
        simp [Ne.symm hj]

theorem fill_RVs {I : IMap} {Ms : List MMap} {n : Nat} {e : Env} {a : Act} {place : Nat → Option (Nat × Nat)} (he : EnvR I Ms n e a.tmps) :
    ∀ {parts : List (Nat × Operand)} {ps : List (Nat × Nat × Opd)} {cs cs' : List AV} {c : Array Value}, cParts place parts = some ps → fillA e cs ps = some cs' → RVs I cs Ms true c.toList →
      ∃ c', Instr.fill place c (parts.map fun p => (p.1, a.eval p.2)) = some c' ∧ RVs I cs' Ms true c'.toList ∧ c'.size = c.size
  | [], _, cs, cs', c, h1, h2, h3 => by
    simp only [cParts, Option.some.injEq] at h1
    subst h1
    simp only [fillA, Option.some.injEq] at h2
    subst h2
    exact ⟨c, rfl, h3, rfl⟩
  | (i, x) :: r, _, cs, cs', c, h1, h2, h3 => by
    simp only [cParts] at h1
    split at h1
    · rename_i off m x' l k1 k2 k3
      cases h1
      simp only [fillA] at h2
      split at h2
      · rename_i vs hvs
        cases hb : (Nat.beq vs.length m && Nat.ble (off + m) cs.length) with
        | false => rw [hb] at h2; cases h2
        | true =>
          rw [hb] at h2
          simp only [Bool.and_eq_true] at hb
          have e1 := Nat.eq_of_beq_eq_true hb.1
          have e2 := Nat.le_of_ble_eq_true hb.2
          subst e1
          simp only [cond_true] at h2
          have hr := cellsOf_RV hvs (cO_RV k2 he)
          have hl := hr.length
          have hcl := h3.length
          have hvl : (a.eval x).cells.size = vs.length := by rw [← Array.length_toList]; exact hl
          have hcs : c.size = cs.length := by rw [← Array.length_toList]; exact hcl
          obtain ⟨f1, f2⟩ := foldl_set (a.eval x).cells.toList off 0 c (by omega)
          have hnext : RVs I (splice cs off vs) Ms true (((a.eval x).cells.toList.zipIdx 0).foldl (fun (cs : Array Value) (p : Value × Nat) => cs.setIfInBounds (off + p.2) p.1) c).toList := by
            refine RVs.of_get (by rw [Array.length_toList, f1, hcs, splice_length e2]) fun j u hu => ?_
            rw [splice_get e2] at hu
            have := f2 j
            simp only [Nat.add_zero] at this
            rw [Array.getElem?_toList, this, hl]
            by_cases hc : off ≤ j ∧ j < off + vs.length
            · rw [if_pos hc] at hu ⊢
              exact hr.get hu
            · rw [if_neg hc] at hu ⊢
              obtain ⟨y, q1, q2⟩ := h3.get hu
              rw [Array.getElem?_toList] at q1
              exact ⟨y, q1, q2⟩
          obtain ⟨c', q1, q2, q3⟩ := fill_RVs he k3 h2 hnext
          refine ⟨c', ?_, q2, by rw [q3, f1]⟩
          simp only [List.map_cons, Instr.fill, k1]
          rw [if_neg (by simp [hvl]; omega)]
          rw [← q1]
          congr 1
          rw [← Array.foldl_toList]
          simp [Array.toList_zipIdx]
      · cases h2
    · cases h1

theorem repl_length (z : List AV) : ∀ k, (repl z k).length = k * z.length
  | 0 => by simp [repl]
  | k + 1 => by simp [repl, repl_length z k, Nat.succ_mul, Nat.add_comm]

theorem repl_get (z : List AV) : ∀ (k i : Nat), i < k * z.length → (repl z k)[i]? = z[i % z.length]?
  | 0, i, h => by simp at h
  | k + 1, i, h => by
    simp only [repl]
    rw [List.getElem?_append]
    by_cases hi : i < z.length
    · rw [if_pos hi, Nat.mod_eq_of_lt hi]
    · rw [if_neg hi, repl_get z k _ (by rw [Nat.succ_mul] at h; omega)]
      congr 1
      rw [← Nat.mod_eq_sub_mod (by omega)]

theorem zeros_RVs {I : IMap} {Ms : List MMap} {z : List AV} {zc : Array Value} (h : RVs I z Ms true zc.toList) (k : Nat) (f : Nat → Value) (hf : ∀ i, i < k * z.length → f i = zc[i % zc.size]!) :
    RVs I (repl z k) Ms true ((Array.range (k * z.length)).map f).toList := by
  have hzl : zc.size = z.length := by rw [← Array.length_toList]; exact h.length
  refine RVs.of_get (by simp [repl_length]) fun i v hv => ?_
  have hi := (List.getElem?_eq_some_iff.1 hv).1
  rw [repl_length] at hi
  rw [repl_get z k i hi] at hv
  obtain ⟨x, h1, h2, h3⟩ := h.get hv
  rw [Array.getElem?_toList] at h1
  refine ⟨x, ?_, h2, h3⟩
  rw [Array.getElem?_toList, Array.getElem?_map, Array.getElem?_range, if_pos hi]
  simp only [Option.map_some, hf i hi, hzl]
  rw [getElem!_def, h1]

theorem run_mapM_list {α β : Type} {w : World} {f : α → Sem β} {q : α → Option β} (h : ∀ x y, q x = some y → (f x).run P w = .ok y w) : ∀ {l : List α} {ys : List β}, mapO q l = some ys → (l.mapM f).run P w = .ok ys w
  | [], _, e => by simp only [mapO, Option.some.injEq] at e; subst e; rfl
  | x :: r, _, e => by
    obtain ⟨y, ys', rfl, e1, e2⟩ := mapO_cons e
    simp [List.mapM_cons, h x y e1, run_mapM_list h e2]

theorem run_mapM_arr {α β : Type} {w : World} {f : α → Sem β} {q : α → Option β} (h : ∀ x y, q x = some y → (f x).run P w = .ok y w) {l : Array α} {ys : List β} (e : mapO q l.toList = some ys) : (l.mapM f).run P w = .ok ys.toArray w := by
  rw [Array.mapM_eq_mapM_toList]
  simp [run_mapM_list h e]

theorem sim_build {t : TypeId} {parts : Array (Nat × Operand)} (ho : o.op = .build t parts) : Goal P an fn g H S w n e a o := by
  intro iop v H' he h hc hv
  rw [ho] at hc
  simp only [cOp] at hc
  split at hc
  · rename_i z fs hz hu
    split at hc
    · rename_i pl hpl
      simp only [Option.map_eq_some_iff] at hc
      obtain ⟨ps, hps, rfl⟩ := hc
      simp only [evOp] at hv
      split at hv
      · rename_i cs hcs
        obtain ⟨rfl, rfl⟩ := ok_inv hv
        obtain ⟨i, zv, hi, hzv, hr⟩ := zeroCs_RV hz g.I g.Ms
        obtain ⟨c', q1, q2, q3⟩ := fill_RVs (a := a) he hps hcs hr
        refine .pure h (x := .agg c') ?_ ⟨_, rfl, q2⟩
        have hpl2 : ∀ w, (fs.mapM (fun f => do pure (f.offset, ← sizeOf f.type) : Field → Sem (Nat × Nat))).run P w = .ok pl.toArray w := fun w =>
          run_mapM_arr (fun f p hf => by
            simp only [Option.map_eq_some_iff] at hf
            obtain ⟨k, h1, rfl⟩ := hf
            simp [run_sizeOf' h1]) hpl
        have : (Instr.build t (parts.map fun (i, x) => (i, a.eval x))).run P w = .ok (.agg c') w := by
          simp only [Instr.build, Sem.run_bind, run_zeroValue hi hzv, Result.andThen_ok, run_underlying' hu, hpl2]
          have e1 : (parts.map fun (x : Nat × Operand) => (x.1, a.eval x.2)).toList = parts.toList.map fun p => (p.1, a.eval p.2) := by simp
          have e2 : (fun x : Nat => pl.toArray[x]?) = fun x : Nat => pl[x]? := by funext x; simp
          rw [e2]
          simp only [e1, q1]
          rfl
        simp [execOp, ho, this]
      · cases hv
    · cases hc
  · rename_i z m el hz hu
    split at hc
    · rename_i es hes
      simp only [Option.map_eq_some_iff] at hc
      obtain ⟨ps, hps, rfl⟩ := hc
      simp only [evOp] at hv
      split at hv
      · rename_i cs hcs
        obtain ⟨rfl, rfl⟩ := ok_inv hv
        obtain ⟨i, zv, hi, hzv, hr⟩ := zeroCs_RV hz g.I g.Ms
        obtain ⟨c', q1, q2, q3⟩ := fill_RVs (a := a) he hps hcs hr
        refine .pure h (x := .agg c') ?_ ⟨_, rfl, q2⟩
        have : (Instr.build t (parts.map fun (i, x) => (i, a.eval x))).run P w = .ok (.agg c') w := by
          simp only [Instr.build, Sem.run_bind, run_zeroValue hi hzv, Result.andThen_ok, run_underlying' hu, run_sizeOf' hes]
          have e1 : (parts.map fun (x : Nat × Operand) => (x.1, a.eval x.2)).toList = parts.toList.map fun p => (p.1, a.eval p.2) := by simp
          simp only [e1, q1]
          rfl
        simp [execOp, ho, this]
      · cases hv
    · cases hc
  · cases hc

end
end Go.AS

/-
  Operation by operation (6): slices, maps' making, lengths. By an AI agent.
-/
namespace Go.AS
open Go
section
variable {P : Program} {an : Ann} {fn : Nat} {g : G} {H H' : Heap} {S : Stack} {w : World} {n : Nat} {e : Env} {a : Act} {iop : IOp} {v : AV} {o : Oper} {M : MMap} {Ms : List MMap}

theorem sim_buildSlice {t : TypeId} {len : Nat} {parts : Array (Nat × Operand)} (ho : o.op = .buildSlice t len parts) : Goal P an fn g H S w n e a o := by
  intro iop v H' he h hc hv
  rw [ho] at hc
  simp only [cOp] at hc
  split at hc
  · rename_i el hu
    split at hc
    · rename_i es z hes hz
      cases hb : (Nat.ble (len * es) 16777216 && Nat.beq z.length es) with
      | false => rw [hb] at hc; cases hc
      | true =>
        rw [hb] at hc
        simp only [cond_true, Option.map_eq_some_iff] at hc
        obtain ⟨ps, hps, rfl⟩ := hc
        simp only [Bool.and_eq_true] at hb
        have b1 := Nat.le_of_ble_eq_true hb.1
        have b2 := Nat.eq_of_beq_eq_true hb.2
        subst b2
        obtain ⟨i, zv, hi, hzv, hr⟩ := zeroCs_RV hz g.I g.Ms
        simp only [evOp] at hv
        split at hv
        · rename_i cs hcs
          -- the zeros that the model begins with
          obtain ⟨z0, hz0, hz1⟩ : ∃ z0 : Array Value, ((len * z.length = 0 ∧ z0 = #[]) ∨ (¬ len * z.length = 0 ∧ z0 = zv.cells)) ∧ ∀ i, i < len * z.length → z0[i % z0.size]! = zv.cells[i % zv.cells.size]! := by
            by_cases hl : len * z.length = 0
            · exact ⟨#[], .inl ⟨hl, rfl⟩, fun i hi => by omega⟩
            · exact ⟨zv.cells, .inr ⟨hl, rfl⟩, fun i _ => rfl⟩
          have hzr := zeros_RVs hr len (fun i => z0[i % z0.size]!) (fun i hi => hz1 i hi)
          obtain ⟨c', q1, q2, q3⟩ := fill_RVs (a := a) he hps hcs hzr
          have hcl := q2.length
          have hcl2 : c'.size = cs.length := by rw [← Array.length_toList]; exact hcl
          have hsz : c'.size = len * z.length := by rw [q3]; simp
          have hrun : (execOp a.eval o).run P w = .ok (.value (.slice (some ⟨w.heap.size, 0, none⟩) len len)) (w.alloc (.cells c' el)) := by
            have : (Instr.buildSlice t len (parts.map fun (i, x) => (i, a.eval x))).run P w = .ok (.slice (some ⟨w.heap.size, 0, none⟩) len len) (w.alloc (.cells c' el)) := by
              have e1 : (parts.map fun (x : Nat × Operand) => (x.1, a.eval x.2)).toList = parts.toList.map fun p => (p.1, a.eval p.2) := by simp
              simp only [Instr.buildSlice, Sem.run_bind, run_underlying' hu, Result.andThen_ok, run_sizeOf' hes]
              rw [if_neg (by omega)]
              rcases hz0 with ⟨hl, rfl⟩ | ⟨hl, rfl⟩
              · rw [if_pos hl]
                simp only [Sem.run_bind, Sem.run_pure, Result.andThen_ok, e1, q1]
                rfl
              · rw [if_neg hl]
                simp only [Sem.run_bind, Sem.run_pure, Result.andThen_ok, run_zeroValue hi hzv, e1, q1]
                rfl
            simp [execOp, ho, this]
          cases hm : memN fn an.muts with
          | true =>
            rw [hm] at hv
            obtain ⟨rfl, rfl⟩ := ok_inv hv
            obtain ⟨M, Ms, hg⟩ := h.Ms_cons
            obtain ⟨g', k1, k2, M', k3, k4⟩ := Rel.allocCells hg h (c := c') el (by rw [take_all _ hcl]; exact q2) (Nat.le_refl _) (by omega)
            refine ⟨g', _, _, .inl hrun, k1, k2, M', Ms, _, _, _, len, k3, by rw [← hsz, hcl2]; exact k4, rfl, Nat.le_refl _, Nat.le_refl _, by omega, fun _ => rfl, fun _ => rfl⟩
          | false =>
            rw [hm] at hv
            obtain ⟨rfl, rfl⟩ := ok_inv hv
            obtain ⟨k1, k2⟩ := Rel.allocI h (w.alloc (.cells c' el)) (.cells c' el) rfl rfl rfl rfl (S.length + 1)
            refine ⟨_, _, _, .inl hrun, k1, k2, RV.imm0 ⟨some ⟨w.heap.size, 0, none⟩, len, c'.toList, rfl, rfl, (fun hf => by cases hf), Nat.le_refl _, (fun c hc => by cases hc; rfl), by omega, RVs.mono k2.im _ (MsLe.refl _) q2, fun _ => ⟨w.heap.size, 0, c', el, (0, 0), rfl, by simp, fun i y hy => by rw [Nat.zero_add]; rwa [Array.getElem?_toList] at hy⟩⟩⟩
        · cases hv
    · cases hc
  · cases hc

theorem sim_makeMap {t : TypeId} {r : Option Operand} (ho : o.op = .makeMap t r) : Goal P an fn g H S w n e a o := by
  intro iop v H' he h hc hv
  rw [ho] at hc
  have hrun : iop = .mkmap ∧ (execOp a.eval o).run P w = .ok (.value (.map (some w.heap.size))) (w.alloc (.map #[] 0)) := by
    simp only [cOp] at hc
    split at hc
    · cases hc; exact ⟨rfl, by simp [execOp, ho, Instr.makeMap]⟩
    · split at hc
      · rename_i hu
        cases hc
        exact ⟨rfl, by simp [execOp, ho, Instr.makeMap, run_underlying' hu, Act.eval, asInt, asIntOf]⟩
      · cases hc
    · cases hc
  obtain ⟨rfl, hrun⟩ := hrun
  obtain ⟨rfl, rfl⟩ := ok_inv hv
  obtain ⟨M, Ms, hg⟩ := h.Ms_cons
  obtain ⟨g', k1, k2, M', k3, k4⟩ := Rel.alloc hg h (.map [] 0) (.map #[] 0) 0 0 fun O' M' hp' hM k1 _ k2 k3 => ⟨_, _, #[], k1, k2, k3, rfl, fun i k v b hh => by simp at hh⟩
  exact ⟨g', _, _, .inl hrun, k1, k2, M', Ms, _, _, k3, k4, rfl⟩

theorem sim_makeSlice {t : TypeId} {x y : Operand} (ho : o.op = .makeSlice t x y) : Goal P an fn g H S w n e a o := by
  intro iop v H' he h hc hv
  rw [ho] at hc
  simp only [cOp] at hc
  split at hc
  · rename_i el hu
    split at hc
    · rename_i i z x' y' hi hz hx hy
      cases hb : Nat.beq z.length i.size with
      | false => rw [hb] at hc; cases hc
      | true =>
        rw [hb] at hc
        cases hc
        have b2 := Nat.eq_of_beq_eq_true hb
        obtain ⟨i', zv, hi', hzv, hr⟩ := zeroCs_RV hz g.I g.Ms
        rw [hi] at hi'
        cases hi'
        have hp := cO_RV hx he
        have hq := cO_RV hy he
        simp only [evOp] at hv
        split at hv
        · rename_i kx l ky c hxe hye
          cases hb2 : (decide (0 ≤ l) && decide (l ≤ c) && Nat.ble (c.toNat * i.bytes) roomMost && Nat.ble c.toNat maxInt) with
          | false => rw [hb2] at hv; cases hv
          | true =>
            rw [hb2] at hv
            obtain ⟨rfl, rfl⟩ := ok_inv hv
            simp only [Bool.and_eq_true, decide_eq_true_eq] at hb2
            obtain ⟨⟨⟨c1, c2⟩, c3⟩, c4⟩ := hb2
            have c3 := Nat.le_of_ble_eq_true c3
            have c4 := Nat.le_of_ble_eq_true c4
            rw [hxe] at hp
            rw [hye] at hq
            have wrapc : ∀ m : Int, 0 ≤ m → m.toNat ≤ maxInt → IntKind.i64.wrap m = m := fun m h0 h1 => by
              unfold maxInt at h1
              simp only [IntKind.wrap, IntKind.bits, IntKind.signed, Bool.true_and]
              rw [if_neg (by simp; omega)]
              omega
            have wl := wrapc l c1 (by omega)
            have wc := wrapc c (by omega) c4
            have hzl : zv.cells.size = i.size := by rw [← Array.length_toList, hr.length, b2]
            obtain ⟨z0, hz0, hz1⟩ : ∃ z0 : Array Value, ((c.toNat * i.size = 0 ∧ z0 = #[]) ∨ (¬ c.toNat * i.size = 0 ∧ z0 = zv.cells)) ∧ ∀ j, j < c.toNat * i.size → z0[j % z0.size]! = zv.cells[j % zv.cells.size]! := by
              by_cases hl : c.toNat * i.size = 0
              · exact ⟨#[], .inl ⟨hl, rfl⟩, fun i hi => by omega⟩
              · exact ⟨zv.cells, .inr ⟨hl, rfl⟩, fun i _ => rfl⟩
            have hzr := zeros_RVs hr c.toNat (fun j => z0[j % z0.size]!) (fun j hj => hz1 j (by rw [← b2]; exact hj))
            rw [b2] at hzr
            let cs : Array Value := (Array.range (c.toNat * i.size)).map (fun j => z0[j % z0.size]!)
            have hsz : cs.size = c.toNat * i.size := by simp [cs]
            have hrun : (execOp a.eval o).run P w = .ok (.value (.slice (some ⟨w.heap.size, 0, none⟩) l.toNat c.toNat)) (w.alloc (.cells cs el)) := by
              have hsize := run_sizeOf' (P := P) (w := w) (t := el) (n := i.size) (by simp [sz, hi])
              have : (Instr.makeSlice t (a.eval x) (a.eval y)).run P w = .ok (.slice (some ⟨w.heap.size, 0, none⟩) l.toNat c.toNat) (w.alloc (.cells cs el)) := by
                have tl : ∀ m : Int, 0 ≤ m → m ≤ c → (decide (m < 0) || decide ((i.bytes : Int) * m > 2 ^ 48)) = false := fun m h0 h1 => by
                  have : ((i.bytes : Int) * m) ≤ (i.bytes : Int) * c := Int.mul_le_mul_of_nonneg_left h1 (Int.natCast_nonneg _)
                  have h2 : (i.bytes : Int) * c ≤ 2 ^ 48 := by
                    have h3 : ((c.toNat * i.bytes : Nat) : Int) ≤ (roomMost : Nat) := by exact_mod_cast c3
                    have h4 : ((c.toNat : Nat) : Int) = c := Int.toNat_of_nonneg (by omega)
                    rw [Int.natCast_mul, h4, Int.mul_comm] at h3
                    exact h3
                  simp; omega
                have h1 := tl c (by omega) (Int.le_refl _)
                have h2 : decide (l < 0) = false := by simp; omega
                have h3 : decide (l > c) = false := by simp; omega
                rw [RV.int_inv hp, RV.int_inv hq]
                simp only [Instr.makeSlice, Sem.run_bind, run_underlying' hu, Result.andThen_ok, asInt, asIntOf, Sem.run_pure, run_typeInfo' hi, wl, wc, h1, h2, h3, Bool.or_false, Bool.false_or, Bool.false_eq_true, if_false, run_askRoom, hsize]
                rcases hz0 with ⟨hl, rfl⟩ | ⟨hl, rfl⟩
                · rw [if_pos hl]
                  rfl
                · rw [if_neg hl]
                  simp only [Sem.run_bind, Sem.run_pure, Result.andThen_ok, run_zeroValue hi hzv]
                  rfl
              simp [execOp, ho, this]
            obtain ⟨M, Ms, hg⟩ := h.Ms_cons
            have hcl : cs.toList.length = (repl z c.toNat).length := by simp [repl_length, b2, hsz]
            obtain ⟨g', k1, k2, M', k3, k4⟩ := Rel.allocCells hg h (cs := repl z c.toNat) (c := cs) el (by rw [take_all _ hcl]; exact hzr) (Nat.le_refl _) (by rw [repl_length, b2, hsz]; exact Nat.le_refl _)
            rw [repl_length, b2] at k4
            exact ⟨g', _, _, .inl hrun, k1, k2, M', Ms, _, _, _, c.toNat, k3, k4, rfl, by omega, Nat.le_refl _, by omega, fun _ => rfl, fun _ => rfl⟩
        · cases hv
    · cases hc
  · cases hc
end
end Go.AS

/-
  Operation by operation (7): slicing, lengths, comparisons. By an AI agent.
-/
namespace Go.AS
open Go
section
variable {P : Program} {an : Ann} {fn : Nat} {g : G} {H H' : Heap} {S : Stack} {w : World} {n : Nat} {e : Env} {a : Act} {iop : IOp} {v : AV} {o : Oper} {M : MMap} {Ms : List MMap}

theorem cOo_RV {I : IMap} {Ms : List MMap} {n : Nat} {e : Env} {a : Act} (he : EnvR I Ms n e a.tmps) {x : Option Operand} {y : Option Opd} (h : cOo x = some y) :
    (x = none ∧ y = none) ∨ ∃ p q, x = some p ∧ y = some q ∧ RV I (q.ev e) Ms (a.eval p) := by
  cases x with
  | none => simp only [cOo, Option.some.injEq] at h; exact .inl ⟨rfl, h.symm⟩
  | some p =>
    simp only [cOo, Option.map_eq_some_iff] at h
    obtain ⟨q, h1, rfl⟩ := h
    exact .inr ⟨p, q, rfl, rfl, cO_RV h1 he⟩

theorem bnd_run {I : IMap} {Ms : List MMap} {e : Env} {x : Value} {o : Opd} (hr : RV I (o.ev e) Ms x) {most k : Nat} (h : bnd o e most = some k) {cap : Nat} (hc : most ≤ cap) (code : BoundsCode) :
    (Instr.sliceBound x cap code).run P w = .ok k w ∧ k ≤ most := by
  unfold bnd at h
  split at h
  · rename_i kd m hk
    cases hb : (decide (0 ≤ m) && decide (m ≤ (most : Int))) with
    | false => rw [hb] at h; cases h
    | true =>
      rw [hb] at h
      cases h
      simp only [Bool.and_eq_true, decide_eq_true_eq] at hb
      rw [hk] at hr
      rw [RV.int_inv hr]
      exact ⟨run_sliceBound w _ _ _ _ hb.1 (by omega), by omega⟩
  · cases h

/-- The bounds of a slicing without a maximum. 'most': as far as the evaluator lets it go. -/
theorem cut_run {I : IMap} {Ms : List MMap} {n : Nat} {e : Env} {a : Act} (he : EnvR I Ms n e a.tmps) {lo hi : Option Operand} {lo' hi' : Option Opd} (hlo : cOo lo = some lo') (hhi : cOo hi = some hi') {len most l h : Nat}
    (hc : cut lo' hi' e len most = some (l, h)) (isSlice : Bool) (cap : Nat) (hm : most ≤ cap) (hl : len ≤ most) :
    (Instr.sliceBounds isSlice len cap (lo.map a.eval) (hi.map a.eval) none).run P w = .ok (l, h, cap) w ∧ l ≤ h ∧ h ≤ most := by
  unfold cut at hc
  split at hc
  · cases hc
  · rename_i h0 hh
    simp only [Option.map_eq_some_iff, Prod.mk.injEq] at hc
    obtain ⟨l0, hl0, rfl, rfl⟩ := hc
    rcases cOo_RV he hhi with ⟨rfl, rfl⟩ | ⟨p, q, rfl, rfl, hr⟩
    · simp only [cutHi, Option.some.injEq] at hh
      subst hh
      rcases cOo_RV he hlo with ⟨rfl, rfl⟩ | ⟨p, q, rfl, rfl, hr⟩
      · simp only [cutLo, Option.some.injEq] at hl0
        subst hl0
        exact ⟨by simp [Instr.sliceBounds], Nat.zero_le _, hl⟩
      · obtain ⟨k1, k2⟩ := bnd_run (P := P) (w := w) hr hl0 (Nat.le_refl _) .sliceB
        exact ⟨by simp [Instr.sliceBounds, k1], k2, hl⟩
    · obtain ⟨k1, k2⟩ := bnd_run (P := P) (w := w) hr hh hm (if isSlice then .sliceAcap else .sliceAlen)
      rcases cOo_RV he hlo with ⟨rfl, rfl⟩ | ⟨p', q', rfl, rfl, hr'⟩
      · simp only [cutLo, Option.some.injEq] at hl0
        subst hl0
        exact ⟨by simp [Instr.sliceBounds, k1], Nat.zero_le _, k2⟩
      · obtain ⟨k3, k4⟩ := bnd_run (P := P) (w := w) hr' hl0 (Nat.le_refl _) .sliceB
        exact ⟨by simp [Instr.sliceBounds, k1, k3], k4, k2⟩

theorem cut3_run {I : IMap} {Ms : List MMap} {n : Nat} {e : Env} {a : Act} (he : EnvR I Ms n e a.tmps) {lo hi : Option Operand} {m : Operand} {lo' hi' : Option Opd} {m' : Opd} (hlo : cOo lo = some lo') (hhi : cOo hi = some hi') (hm' : cO m = some m') {len most l h k : Nat}
    (hc : cut3 lo' hi' m' e most = some (l, h, k)) (isSlice : Bool) (cap : Nat) (hm : most ≤ cap) :
    (Instr.sliceBounds isSlice len cap (lo.map a.eval) (hi.map a.eval) (some (a.eval m))).run P w = .ok (l, h, k) w ∧ l ≤ h ∧ h ≤ k ∧ k ≤ most := by
  unfold cut3 at hc
  split at hc
  · rename_i k0 o hk0
    split at hc
    · rename_i h0 hh
      simp only [Option.map_eq_some_iff, Prod.mk.injEq] at hc
      obtain ⟨l0, hl0, rfl, rfl, rfl⟩ := hc
      obtain ⟨r1, r2⟩ := bnd_run (P := P) (w := w) (cO_RV hm' he) hk0 hm (if isSlice then .slice3Acap else .slice3Alen)
      rcases cOo_RV he hhi with ⟨rfl, hq⟩ | ⟨p, q, rfl, hq, hr⟩
      · cases hq
      · cases hq
        obtain ⟨k1, k2⟩ := bnd_run (P := P) (w := w) hr hh (Nat.le_refl _) .slice3B
        rcases cOo_RV he hlo with ⟨rfl, rfl⟩ | ⟨p', q', rfl, rfl, hr'⟩
        · simp only [cutLo, Option.some.injEq] at hl0
          subst hl0
          exact ⟨by simp [Instr.sliceBounds, r1, k1], Nat.zero_le _, k2, r2⟩
        · obtain ⟨k3, k4⟩ := bnd_run (P := P) (w := w) hr' hl0 (Nat.le_refl _) .slice3C
          exact ⟨by simp [Instr.sliceBounds, r1, k1, k3], k4, k2, r2⟩
    · cases hc
  · cases hc

/-- A part of a row that nobody writes. -/
theorem RV.sub {I : IMap} {Ms : List MMap} {nl : Bool} {es es' len : Nat} {cap : Option Nat} {cs : List AV} {ad : Option Addr} {rcap : Nat} (hr : RV I (.imm nl es' len cap cs) Ms (.slice ad len rcap)) (he : es = es' ∨ len = 0) {l h m : Nat} (h1 : l ≤ h) (h2 : h ≤ len) (h3 : h ≤ m) (h4 : m ≤ rcap)
    (cap' : Option Nat) (hcap : ∀ c, cap' = some c → m - l = c) :
    RV I (.imm nl es (h - l) cap' ((cs.drop (l * es)).take ((h - l) * es))) Ms (.slice (if m = l then ad else ad.map (·.add (l * es))) (h - l) (m - l)) := by
  obtain ⟨a, rc, xs, f3, g1, g2, g3, g4, g5, g6, g7⟩ := hr
  cases f3
  have hlen : cs.length = len * es := by
    rcases he with rfl | h0
    · exact g5
    · subst h0; simpa using g5
  refine ⟨_, _, (xs.drop (l * es)).take ((h - l) * es), rfl, ?_, ?_, by omega, fun c hc => hcap c hc, ?_, (g6.drop _).take _, ?_⟩
  · rw [g1]
    split
    · rfl
    · cases ad <;> rfl
  · intro hn
    have := g2 hn
    omega
  · rw [List.length_take, List.length_drop, hlen, Nat.min_eq_left]
    rw [← Nat.sub_mul]
    exact Nat.mul_le_mul_right _ (by omega)
  · intro hne
    have hcs : cs ≠ [] := by
      intro h0; subst h0; simp at hne
    obtain ⟨blk, off, c, el, fz, q1, q2, q3⟩ := g7 hcs
    have hml : ¬ m = l := by
      intro e0
      have : h - l = 0 := by omega
      rw [this] at hne
      simp at hne
    subst q1
    refine ⟨blk, off + l * es, c, el, fz, by rw [if_neg hml]; simp [Addr.add_none], q2, fun i y hy => ?_⟩
    rw [List.getElem?_take] at hy
    split at hy
    · rw [List.getElem?_drop] at hy
      have := q3 _ _ hy
      rwa [← Nat.add_assoc] at this
    · cases hy

theorem sim_slice {t : TypeId} {x : Operand} {lo hi mx : Option Operand} (ho : o.op = .slice t x lo hi mx) : Goal P an fn g H S w n e a o := by
  intro iop v H' he h hc hv
  rw [ho] at hc
  simp only [cOp] at hc
  split at hc
  · rename_i x' lo' hi' hu hx hlo hhi hmx
    cases hc
    have hmx0 : mx = none := by
      cases mx with
      | none => rfl
      | some y => simp [cOo] at hmx
    subst hmx0
    have hp := cO_RV hx he
    simp only [evOp] at hv
    split at hv
    · rename_i s hxe
      split at hv
      · rename_i l h' hcut
        obtain ⟨rfl, rfl⟩ := ok_inv hv
        rw [hxe] at hp
        obtain ⟨b, f3, rfl⟩ := hp
        have hbs : b.size = b.data.toList.length := Array.length_toList.symm
        obtain ⟨r1, r2, r3⟩ := cut_run (P := P) (w := w) he hlo hhi hcut false _ (Nat.le_refl _) (Nat.le_refl _)
        rw [← hbs] at r1
        refine .pure h (x := .string (b.extract l h')) (by simp [execOp, ho, f3, Instr.sliceAt, Instr.slice, run_underlying' hu, r1]) ⟨_, rfl, ?_⟩
        rw [ByteArray.data_extract, Array.toList_extract, List.extract_eq_take_drop]
      · cases hv
    · cases hv
  · rename_i el x' lo' hi' mx' hu hx hlo hhi hmx
    simp only [Option.map_eq_some_iff] at hc
    obtain ⟨es, hs, rfl⟩ := hc
    have hp := cO_RV hx he
    have hrun : ∀ ad len rcap l h' m, (Instr.sliceBounds true len rcap (lo.map a.eval) (hi.map a.eval) (mx.map a.eval)).run P w = .ok (l, h', m) w →
        (Instr.sliceAt t (.slice ad len rcap) (lo.map a.eval) (hi.map a.eval) (mx.map a.eval)).run P w = .ok (.slice (if m = l then ad else ad.map (·.add (l * es))) (h' - l) (m - l)) w := fun ad len rcap l h' m hb => by
      simp [Instr.sliceAt, Instr.slice, run_underlying' hu, hb, run_sizeOf' hs]
    simp only [evOp] at hv
    split at hv
    · rename_i nl es' len cap cs hxe
      cases hb : (Nat.beq es es' || Nat.beq len 0) with
      | false => rw [hb] at hv; cases hv
      | true =>
        rw [hb] at hv
        simp only [Bool.not_true, cond_false] at hv
        have hes : es = es' ∨ len = 0 := by
          simp only [Bool.or_eq_true] at hb
          rcases hb with hb | hb
          · exact .inl (Nat.eq_of_beq_eq_true hb)
          · exact .inr (Nat.eq_of_beq_eq_true hb)
        rw [hxe] at hp
        have hp' := hp
        obtain ⟨ad, rcap, xs, f3, g1, g2, g3, g4, _⟩ := hp'
        rw [f3] at hp
        rcases cOo_RV he hmx with ⟨rfl, rfl⟩ | ⟨p, q, rfl, rfl, hr⟩
        · simp only at hv
          split at hv
          · rename_i l h' hcut
            obtain ⟨rfl, rfl⟩ := ok_inv hv
            obtain ⟨r1, r2, r3⟩ := cut_run (P := P) (w := w) he hlo hhi hcut true rcap g3 (Nat.le_refl _)
            refine .pure h (by simp [execOp, ho, f3]; rw [show (none : Option Value) = (none : Option Operand).map a.eval from rfl, hrun _ _ _ _ _ _ r1]; rfl) (RV.imm0 (RV.sub hp hes r2 r3 (by omega) (Nat.le_refl _) _ fun c hc => ?_))
            simp only [Option.map_eq_some_iff] at hc
            obtain ⟨c0, hc0, rfl⟩ := hc
            rw [g4 c0 hc0]
          · cases hv
        · simp only at hv
          split at hv
          · rename_i l h' m hcut
            obtain ⟨rfl, rfl⟩ := ok_inv hv
            have hq : cO p = some q := by simpa [cOo] using hmx
            obtain ⟨r1, r2, r3, r4⟩ := cut3_run (P := P) (w := w) (len := len) he hlo hhi hq hcut true rcap g3
            exact .pure h (by simp [execOp, ho, f3]; rw [show some (a.eval p) = (some p).map a.eval from rfl, hrun _ _ _ _ _ _ r1]; rfl) (RV.imm0 (RV.sub hp hes r2 (by omega) r3 (by omega) _ fun c hc => by cases hc; rfl))
          · cases hv
    · rename_i id lim off es' len cap ex hxe
      cases hb : Nat.beq es es' with
      | false => rw [hb] at hv; cases hv
      | true =>
        rw [hb] at hv
        simp only [Bool.not_true, cond_false] at hv
        have hes := Nat.eq_of_beq_eq_true hb
        subst hes
        rw [hxe] at hp
        obtain ⟨M', Ms', blk, tot, ad, rcap, f1, f2, f3, g1, g2, g3, g4, g5⟩ := hp
        have hadd : ∀ l m, l ≤ m → m ≤ rcap → (m - l ≠ 0 → (if m = l then some ad else (some ad).map (·.add (l * es))) = some ⟨blk, off + l * es, none⟩) := fun l m h1 h2 h3 => by
          rw [if_neg (by omega)]
          have := g5 (by omega)
          subst this
          simp [Addr.add_none]
        have hsome : ∀ l m, ∃ ad', (if m = l then some ad else (some ad).map (·.add (l * es))) = some ad' := fun l m => by split <;> exact ⟨_, rfl⟩
        rcases cOo_RV he hmx with ⟨rfl, rfl⟩ | ⟨p, q, rfl, rfl, hr⟩
        · simp only at hv
          split at hv
          · rename_i l h' hcut
            obtain ⟨rfl, rfl⟩ := ok_inv hv
            obtain ⟨r1, r2, r3⟩ := cut_run (P := P) (w := w) he hlo hhi hcut true rcap g2 g1
            obtain ⟨ad', had⟩ := hsome l rcap
            refine .pure h (by simp [execOp, ho, f3]; rw [show (none : Option Value) = (none : Option Operand).map a.eval from rfl, hrun _ _ _ _ _ _ r1]; rfl) ⟨M', Ms', blk, tot, ad', rcap - l, f1, f2, by rw [had], by omega, by omega, ?_, fun hx => by rw [g4 hx], fun h0 => ?_⟩
            · have : l * es + (rcap - l) * es = rcap * es := by rw [← Nat.add_mul]; congr 1; omega
              omega
            · have := hadd l rcap (by omega) (Nat.le_refl _) h0
              rw [had] at this
              exact Option.some.inj this
          · cases hv
        · simp only at hv
          split at hv
          · rename_i l h' m hcut
            obtain ⟨rfl, rfl⟩ := ok_inv hv
            have hq : cO p = some q := by simpa [cOo] using hmx
            obtain ⟨r1, r2, r3, r4⟩ := cut3_run (P := P) (w := w) (len := len) he hlo hhi hq hcut true rcap g2
            obtain ⟨ad', had⟩ := hsome l m
            refine .pure h (by simp [execOp, ho, f3]; rw [show some (a.eval p) = (some p).map a.eval from rfl, hrun _ _ _ _ _ _ r1]; rfl) ⟨M', Ms', blk, tot, ad', m - l, f1, f2, by rw [had], by omega, by omega, ?_, fun hx => rfl, fun h0 => ?_⟩
            · have : l * es + (m - l) * es = m * es := by rw [← Nat.add_mul]; congr 1; omega
              have : m * es ≤ rcap * es := Nat.mul_le_mul_right _ (by omega)
              omega
            · have := hadd l m (by omega) (by omega) h0
              rw [had] at this
              exact Option.some.inj this
          · cases hv
    · cases hv
  · rename_i m el x' lo' hi' mx' hu hx hlo hhi hmx
    simp only [Option.map_eq_some_iff] at hc
    obtain ⟨es, hs, rfl⟩ := hc
    have hp := cO_RV hx he
    simp only [evOp] at hv
    split at hv
    · rename_i id lim off hxe
      have hmx0 : mx = none := by
        rcases cOo_RV he hmx with ⟨rfl, _⟩ | ⟨p, q, rfl, hq, _⟩
        · rfl
        · cases hq
      subst hmx0
      split at hv
      · rename_i l h' cs hcut hid
        cases hb : (Nat.beq cs.length lim && Nat.ble (off + m * es) lim) with
        | false => rw [hb] at hv; cases hv
        | true =>
          rw [hb] at hv
          obtain ⟨rfl, rfl⟩ := ok_inv hv
          simp only [Bool.and_eq_true] at hb
          have hle := Nat.le_of_ble_eq_true hb.2
          have hlm := Nat.eq_of_beq_eq_true hb.1
          subst hlm
          rw [hxe] at hp
          obtain ⟨M', Ms', blk, tot, f1, f2, f3⟩ := hp
          obtain ⟨r1, r2, r3⟩ := cut_run (P := P) (w := w) he hlo hhi hcut false m (Nat.le_refl _) (Nat.le_refl _)
          have htot : cs.length ≤ tot := by
            obtain ⟨M, Ms, hg⟩ := h.Ms_cons
            obtain ⟨blk', tot', c, el', k1, k2, k3, k4, k5, k6, k7⟩ := h.cells hg hid
            rw [hg] at f1
            cases f1
            rw [f2] at k1
            cases k1
            exact k4
          refine .pure h (x := .slice (some (if m = l then ⟨blk, off, none⟩ else (⟨blk, off, none⟩ : Addr).add (l * es))) (h' - l) (m - l)) (by simp [execOp, ho, f3, Instr.sliceAt, Instr.sureAddr, run_underlying' hu, r1, run_sizeOf' hs]) ⟨M', Ms', blk, tot, _, m - l, f1, f2, rfl, by omega, Nat.le_refl _, ?_, fun _ => rfl, fun h0 => ?_⟩
          · have : l * es + (m - l) * es = m * es := by rw [← Nat.add_mul]; congr 1; omega
            omega
          · rw [if_neg (by omega), Addr.add_none]
      · cases hv
    · cases hv
  · cases hc
end
end Go.AS
