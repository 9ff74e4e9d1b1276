/-
  Operation by operation (3): new objects and stores. By an AI agent.
-/
import Derived.Test.YtefnpnokbanbkaaAs5
set_option linter.all false
namespace Go.AS
open Go

theorem oneCell_eq (v : Value) : v.oneCell' = v.oneCell := by cases v <;> rfl

/-- One block alone has changed. -/
structure Upd (w w' : World) (blk : Nat) : Prop where
  os : w'.os = w.os
  tape : w'.tape = w.tape
  output : w'.output = w.output
  size : w'.heap.size = w.heap.size
  other : ∀ b, b ≠ blk → w'.heap[b]? = w.heap[b]?

theorem Upd.refl (w : World) (blk : Nat) : Upd w w blk := ⟨rfl, rfl, rfl, rfl, fun _ _ => rfl⟩
theorem Upd.trans {w w' w'' : World} {blk : Nat} (h : Upd w w' blk) (k : Upd w' w'' blk) : Upd w w'' blk :=
  ⟨k.os.trans h.os, k.tape.trans h.tape, k.output.trans h.output, k.size.trans h.size, fun b hb => (k.other b hb).trans (h.other b hb)⟩

theorem upd_setCell {w : World} {blk off : Nat} {v : Value} {c : Array Value} {e : TypeId} {fz : Nat × Nat} (h : w.heap[blk]? = some (.cells c e fz)) :
    Upd w (w.setCell ⟨blk, off, none⟩ v) blk ∧ (w.setCell ⟨blk, off, none⟩ v).heap[blk]? = some (.cells (c.setIfInBounds off v) e fz) := by
  refine ⟨⟨rfl, rfl, rfl, by simp [World.setCell], fun b hb => ?_⟩, ?_⟩
  · simp only [World.setCell, Array.getElem?_modify]
    rw [if_neg (by omega)]
  · simp only [World.setCell, Array.getElem?_modify]
    simp [h]

theorem run_storeCells {P : Program} {blk off : Nat} {e : TypeId} : ∀ (vs : List Value) (i : Nat) (w : World) (c : Array Value), w.heap[blk]? = some (.cells c e (0, 0)) → (∀ v ∈ vs, v.oneCell = true) → off + i + vs.length ≤ c.size →
    ∃ w' c', (storeCells ⟨blk, off, none⟩ vs i).run P w = .ok () w' ∧ Upd w w' blk ∧ w'.heap[blk]? = some (.cells c' e (0, 0)) ∧ c'.size = c.size ∧
      ∀ j, c'[j]? = if off + i ≤ j ∧ j < off + i + vs.length then vs[j - (off + i)]? else c[j]?
  | [], i, w, c, h, _, _ => ⟨w, c, rfl, .refl _ _, h, rfl, fun j => by rw [if_neg (by simp only [List.length_nil]; omega)]⟩
  | v :: r, i, w, c, h, h1, hfit => by
    simp only [List.length_cons] at hfit
    have hlt : off + i < c.size := by omega
    obtain ⟨u1, u2⟩ := upd_setCell (off := off + i) (v := v) h
    obtain ⟨w', c', k1, k2, k3, k4, k5⟩ := run_storeCells (P := P) (off := off) r (i + 1) _ _ u2 (fun u hu => h1 u (by simp [hu])) (by simp; omega)
    refine ⟨w', c', ?_, u1.trans k2, k3, by simpa using k4, fun j => ?_⟩
    · simp only [storeCells, Sem.run_bind, Addr.add_none]
      rw [run_store P w _ v _ (by rw [oneCell_eq]; exact h1 v (by simp))]
      have hc : w.cell? ⟨blk, off + i, none⟩ = some c[off + i] := by simp [World.cell?, h, hlt]
      have hf : w.frozen? ⟨blk, off + i, none⟩ = false := by simp [World.frozen?, h]
      simp only [hc, hf, Bool.false_eq_true, if_false, Result.andThen_ok]
      exact k1
    · rw [k5 j]
      by_cases hj : j = off + i
      · subst hj
        rw [if_neg (by omega), if_pos (by simp)]
        simp [hlt]
      · by_cases hj2 : off + i ≤ j ∧ j < off + i + (r.length + 1)
        · rw [if_pos (by omega), if_pos (by simpa using hj2), show j - (off + i) = (j - (off + (i + 1))) + 1 from by omega]
          simp
        · rw [if_neg (by omega), if_neg (by simpa using hj2)]
          simp [Ne.symm hj]

theorem splice_length {cs vs : List AV} {off : Nat} (h : off + vs.length ≤ cs.length) : (splice cs off vs).length = cs.length := by simp [splice]; omega
theorem splice_get {cs vs : List AV} {off : Nat} (h : off + vs.length ≤ cs.length) (j : Nat) : (splice cs off vs)[j]? = if off ≤ j ∧ j < off + vs.length then vs[j - off]? else cs[j]? := by
  unfold splice
  have hl : (cs.take off).length = off := by simp; omega
  rw [List.append_assoc, List.getElem?_append]
  by_cases h1 : j < off
  · rw [if_pos (by rw [hl]; exact h1), if_neg (by omega), List.getElem?_take, if_pos h1]
  · rw [if_neg (by rw [hl]; exact h1), hl, List.getElem?_append]
    by_cases h2 : j < off + vs.length
    · rw [if_pos (by omega), if_pos (by omega)]
    · rw [if_neg (by omega), if_neg (by omega), List.getElem?_drop]
      congr 1; omega

section
variable {P : Program} {an : Ann} {fn : Nat} {g : G} {H H' : Heap} {S : Stack} {w : World} {n : Nat} {e : Env} {a : Act} {iop : IOp} {v : AV} {o : Oper} {M : MMap} {Ms : List MMap}

/-- A new row of cells. -/
theorem Rel.allocCells (hg : g.Ms = M :: Ms) (h : Rel P g (H :: S) w) {cs : List AV} {c : Array Value} (t : TypeId) (hr : RVs g.I cs g.Ms true (c.toList.take cs.length)) {tot : Nat} (h1 : cs.length ≤ tot) (h2 : tot ≤ c.size) :
    ∃ g', Rel P g' ((H ++ [.cells cs]) :: S) (w.alloc (.cells c t)) ∧ Le (S.length + 1) g g' w (w.alloc (.cells c t)) ∧ ∃ M', g'.Ms = M' :: Ms ∧ M' H.length cs.length = some (w.heap.size, tot) := by
  refine Rel.alloc hg h (.cells cs) (.cells c t) cs.length tot fun O' M' hp' hM k1 k0 k2 k3 => ?_
  refine ⟨w.heap.size, tot, c, t, k1, k2, k3, h1, h2, fun l p hp => Nat.le_of_eq (k0 l p hp), fun i v hv => ?_⟩
  obtain ⟨x, e1, e2, e3⟩ := hr.get hv
  rw [hg] at e2
  have hlt := (List.getElem?_eq_some_iff.1 hv).1
  rw [List.getElem?_take, if_pos hlt, Array.getElem?_toList] at e1
  exact ⟨x, e1, RV.mono (fun _ _ h => h) v hM e2, e3 rfl⟩

theorem take_all {α : Type} (l : List α) {n : Nat} (h : l.length = n) : l.take n = l := by subst h; simp

theorem run_newVar {P : Program} {w : World} (t : TypeId) (v : Value) : (newVar t v).run P w = .ok ⟨w.heap.size, 0, none⟩ (w.alloc (.cells v.cells t)) := rfl

theorem sim_box {t : TypeId} {x : Operand} (ho : o.op = .box t x) : Goal P an fn g H S w n e a o := by
  intro iop v H' he h hc hv
  rw [ho] at hc
  simp only [cOp] at hc
  split at hc
  · rename_i m x' h1 h2
    cases hc
    simp only [evOp] at hv
    split at hv
    · rename_i cs hcs
      cases hb : Nat.beq cs.length m with
      | false => rw [hb] at hv; cases hv
      | true =>
        rw [hb] at hv
        obtain ⟨rfl, rfl⟩ := ok_inv hv
        have hm := Nat.eq_of_beq_eq_true hb
        subst hm
        obtain ⟨M, Ms, hg⟩ := h.Ms_cons
        have hr := cellsOf_RV hcs (cO_RV h2 he)
        have hl := hr.length
        obtain ⟨g', k1, k2, M', k3, k4⟩ := Rel.allocCells hg h (c := (a.eval x).cells) t (by rw [take_all _ hl]; exact hr) (Nat.le_refl _) (by rw [← Array.length_toList]; omega)
        exact ⟨g', _, _, .inl (by simp [execOp, ho, Instr.box, run_newVar]), k1, k2, M', Ms, _, _, k3, k4, rfl⟩
    · cases hv
  · cases hc

theorem zeroCs_RV {P : Program} {t : TypeId} {z : List AV} (h : zeroCs P t = some z) (I : IMap) (Ms : List MMap) : ∃ i zv, P.info? t = some i ∧ i.zero = some zv ∧ RVs I z Ms true zv.cells.toList := by
  simp only [zeroCs, zeroOf, Option.bind_eq_some_iff] at h
  obtain ⟨v, ⟨x, ⟨i, h1, h2⟩, h3⟩, h4⟩ := h
  exact ⟨i, x, h1, h2, cellsOf_RV h4 (cV_RV 20 _ _ h3)⟩

theorem run_zeroValue {P : Program} {w : World} {t : TypeId} {i : TypeInfo} {z : Value} (h : P.info? t = some i) (hz : i.zero = some z) : (zeroValue t).run P w = .ok z w := by
  simp [zeroValue, run_typeInfo' h, hz]

theorem sim_alloc {t : TypeId} (ho : o.op = .alloc t) : Goal P an fn g H S w n e a o := by
  intro iop v H' he h hc hv
  rw [ho] at hc
  simp only [cOp] at hc
  split at hc
  · rename_i z m h1 h2
    cases hb : Nat.beq z.length m with
    | false => rw [hb] at hc; cases hc
    | true =>
      rw [hb] at hc
      cases hc
      obtain ⟨rfl, rfl⟩ := ok_inv hv
      obtain ⟨M, Ms, hg⟩ := h.Ms_cons
      obtain ⟨i, zv, hi, hz, hr⟩ := zeroCs_RV h1 g.I g.Ms
      have hl := hr.length
      obtain ⟨g', k1, k2, M', k3, k4⟩ := Rel.allocCells hg h (c := zv.cells) t (by rw [take_all _ hl]; exact hr) (Nat.le_refl _) (by rw [← Array.length_toList]; omega)
      exact ⟨g', _, _, .inl (by simp [execOp, ho, Instr.alloc, run_zeroValue hi hz, run_newVar]), k1, k2, M', Ms, _, _, k3, k4, rfl⟩
  · cases hc

/-- Values into an object's cells. -/
theorem Rel.store (hg : g.Ms = M :: Ms) (h : Rel P g (H :: S) w) {id : Nat} {cs : List AV} (hid : H[id]? = some (.cells cs)) {blk tot : Nat} (hM : M id cs.length = some (blk, tot)) {off : Nat} {vs : List AV} {xs : List Value}
    (hr : RVs g.I vs g.Ms true xs) (hfit : off + vs.length ≤ cs.length) :
    ∃ w', (storeCells ⟨blk, off, none⟩ xs).run P w = .ok () w' ∧ Rel P g (H.set id (.cells (splice cs off vs)) :: S) w' ∧ Le (S.length + 1) g g w w' := by
  have rs := h.rs
  rw [hg] at rs
  obtain ⟨blk', tot', c, el, k1, k2, k3, k4, k5, k7, k6⟩ := rs.1 id _ hid
  rw [hM] at k1
  cases k1
  have hxl := hr.length
  obtain ⟨w', c', r1, r2, r3, r4, r5⟩ := run_storeCells (P := P) (blk := blk) (off := off) (e := el) xs 0 w c k3 (fun v hv => by
    obtain ⟨i, hi⟩ := List.getElem?_of_mem hv
    have hi2 : i < vs.length := by have := (List.getElem?_eq_some_iff.1 hi).1; omega
    obtain ⟨x, e1, _, e3⟩ := hr.get (List.getElem?_eq_getElem hi2)
    rw [hi] at e1
    cases e1
    exact e3 rfl) (by omega)
  refine ⟨w', r1, ?_⟩
  have hidlt := (List.getElem?_eq_some_iff.1 hid).1
  have hsl := splice_length (cs := cs) (vs := vs) (off := off) hfit
  have := Rel.change (w' := w') hg h id (.cells (splice cs off vs)) (H.set id (.cells (splice cs off vs))) M g.O r2.os r2.tape r2.output (by rw [r2.size]; exact Nat.le_refl _)
    (fun b hb hne => r2.other b (by intro e; subst e; exact hne k2))
    (fun j hj => by rw [List.getElem?_set, if_neg (fun e => hj e.symm)]) (by rw [List.getElem?_set]; simp [hidlt]) (by simp)
    (fun _ _ _ => rfl) (fun _ _ h => h) (fun lim p hp => (rs.2.1 _ _ _ hp).2) (fun _ _ => rfl)
    (fun b hb x hx => by rw [h.O_new hb] at hx; cases hx)
    (by
      refine ⟨blk, tot, c', el, by rw [hsl]; exact hM, k2, r3, by rw [hsl]; exact k4, by rw [r4]; exact k5, fun l p hp => by rw [hsl]; exact k7 l p hp, fun i v hv => ?_⟩
      rw [splice_get hfit] at hv
      have hr5 := r5 i
      simp only [Nat.add_zero] at hr5
      rw [hr5, hxl]
      by_cases hc : off ≤ i ∧ i < off + vs.length
      · rw [if_pos hc] at hv ⊢
        obtain ⟨x, e1, e2, e3⟩ := hr.get hv
        exact ⟨x, e1, by rw [← hg]; exact e2, e3 rfl⟩
      · rw [if_neg hc] at hv ⊢
        exact k6 i v hv)
  rw [show ({ g with Ms := M :: Ms, O := g.O } : G) = g from by cases g; cases hg; rfl] at this
  exact this

theorem sim_store {t : TypeId} {x y : Operand} (ho : o.op = .store t x y) : Goal P an fn g H S w n e a o := by
  intro iop v H' he h hc hv
  rw [ho] at hc
  simp only [cOp] at hc
  split at hc
  · rename_i m x' y' h1 h2 h3
    cases hc
    simp only [evOp] at hv
    split at hv
    · rename_i id lim off vs hx hvs
      split at hv
      · rename_i cs hid
        cases hb : (Nat.beq cs.length lim && Nat.beq vs.length m && Nat.ble (off + m) lim) with
        | false => rw [hb] at hv; cases hv
        | true =>
          rw [hb] at hv
          obtain ⟨rfl, rfl⟩ := ok_inv hv
          simp only [Bool.and_eq_true] at hb
          have e1 := Nat.eq_of_beq_eq_true hb.1.1
          have e2 := Nat.eq_of_beq_eq_true hb.1.2
          have e3 := Nat.le_of_ble_eq_true hb.2
          subst e1 e2
          obtain ⟨M, Ms, hg⟩ := h.Ms_cons
          have hp := cO_RV h2 he
          rw [hx] at hp
          obtain ⟨M', Ms', blk, tot, f1, f2, f3⟩ := hp
          rw [hg] at f1
          cases f1
          have hr := cellsOf_RV hvs (cO_RV h3 he)
          obtain ⟨w', r1, r2, r3⟩ := Rel.store hg h hid f2 (off := off) hr e3
          refine ⟨g, w', undef, .inr ⟨?_, rfl⟩, r2, r3, trivial⟩
          have hsz : (a.eval y).cells.size = vs.length := by rw [← Array.length_toList]; exact hr.length
          simp [execOp, ho, f3, Instr.storeAt, Instr.sureAddr, storeVar, run_sizeOf' h1, hsz, r1]
      · cases hv
    · cases hv
  · cases hc
end
end Go.AS
