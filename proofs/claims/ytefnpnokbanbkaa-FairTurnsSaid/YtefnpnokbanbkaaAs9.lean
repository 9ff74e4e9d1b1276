/-
  Operation by operation (6): slices, maps' making, lengths. By an AI agent.
-/
import Derived.Test.YtefnpnokbanbkaaAs8
set_option linter.all false
namespace Go.AS
open Go
section
variable {P : Program} {an : Ann} {fn : Nat} {g : G} {H H' : Heap} {S : Stack} {w : World} {n : Nat} {e : Env} {a : Act} {iop : IOp} {v : AV} {o : Oper} {M : MMap} {Ms : List MMap}

theorem sim_buildSlice {t : TypeId} {len : Nat} {parts : Array (Nat × Operand)} (ho : o.op = .buildSlice t len parts) : Goal P an fn g H S w n e a o := by
  intro iop v H' he h hc hv
  rw [ho] at hc
  simp only [cOp] at hc
  split at hc
  · rename_i el hu
    split at hc
    · rename_i es z hes hz
      cases hb : (Nat.ble (len * es) 16777216 && Nat.beq z.length es) with
      | false => rw [hb] at hc; cases hc
      | true =>
        rw [hb] at hc
        simp only [cond_true, Option.map_eq_some_iff] at hc
        obtain ⟨ps, hps, rfl⟩ := hc
        simp only [Bool.and_eq_true] at hb
        have b1 := Nat.le_of_ble_eq_true hb.1
        have b2 := Nat.eq_of_beq_eq_true hb.2
        subst b2
        obtain ⟨i, zv, hi, hzv, hr⟩ := zeroCs_RV hz g.I g.Ms
        simp only [evOp] at hv
        split at hv
        · rename_i cs hcs
          -- the zeros that the model begins with
          obtain ⟨z0, hz0, hz1⟩ : ∃ z0 : Array Value, ((len * z.length = 0 ∧ z0 = #[]) ∨ (¬ len * z.length = 0 ∧ z0 = zv.cells)) ∧ ∀ i, i < len * z.length → z0[i % z0.size]! = zv.cells[i % zv.cells.size]! := by
            by_cases hl : len * z.length = 0
            · exact ⟨#[], .inl ⟨hl, rfl⟩, fun i hi => by omega⟩
            · exact ⟨zv.cells, .inr ⟨hl, rfl⟩, fun i _ => rfl⟩
          have hzr := zeros_RVs hr len (fun i => z0[i % z0.size]!) (fun i hi => hz1 i hi)
          obtain ⟨c', q1, q2, q3⟩ := fill_RVs (a := a) he hps hcs hzr
          have hcl := q2.length
          have hcl2 : c'.size = cs.length := by rw [← Array.length_toList]; exact hcl
          have hsz : c'.size = len * z.length := by rw [q3]; simp
          have hrun : (execOp a.eval o).run P w = .ok (.value (.slice (some ⟨w.heap.size, 0, none⟩) len len)) (w.alloc (.cells c' el)) := by
            have : (Instr.buildSlice t len (parts.map fun (i, x) => (i, a.eval x))).run P w = .ok (.slice (some ⟨w.heap.size, 0, none⟩) len len) (w.alloc (.cells c' el)) := by
              have e1 : (parts.map fun (x : Nat × Operand) => (x.1, a.eval x.2)).toList = parts.toList.map fun p => (p.1, a.eval p.2) := by simp
              simp only [Instr.buildSlice, Sem.run_bind, run_underlying' hu, Result.andThen_ok, run_sizeOf' hes]
              rw [if_neg (by omega)]
              rcases hz0 with ⟨hl, rfl⟩ | ⟨hl, rfl⟩
              · rw [if_pos hl]
                simp only [Sem.run_bind, Sem.run_pure, Result.andThen_ok, e1, q1]
                rfl
              · rw [if_neg hl]
                simp only [Sem.run_bind, Sem.run_pure, Result.andThen_ok, run_zeroValue hi hzv, e1, q1]
                rfl
            simp [execOp, ho, this]
          cases hm : memN fn an.muts with
          | true =>
            rw [hm] at hv
            obtain ⟨rfl, rfl⟩ := ok_inv hv
            obtain ⟨M, Ms, hg⟩ := h.Ms_cons
            obtain ⟨g', k1, k2, M', k3, k4⟩ := Rel.allocCells hg h (c := c') el (by rw [take_all _ hcl]; exact q2) (Nat.le_refl _) (by omega)
            refine ⟨g', _, _, .inl hrun, k1, k2, M', Ms, _, _, _, len, k3, by rw [← hsz, hcl2]; exact k4, rfl, Nat.le_refl _, Nat.le_refl _, by omega, fun _ => rfl, fun _ => rfl⟩
          | false =>
            rw [hm] at hv
            obtain ⟨rfl, rfl⟩ := ok_inv hv
            obtain ⟨k1, k2⟩ := Rel.allocI h (w.alloc (.cells c' el)) (.cells c' el) rfl rfl rfl rfl (S.length + 1)
            refine ⟨_, _, _, .inl hrun, k1, k2, RV.imm0 ⟨some ⟨w.heap.size, 0, none⟩, len, c'.toList, rfl, rfl, (fun hf => by cases hf), Nat.le_refl _, (fun c hc => by cases hc; rfl), by omega, RVs.mono k2.im _ (MsLe.refl _) q2, fun _ => ⟨w.heap.size, 0, c', el, (0, 0), rfl, by simp, fun i y hy => by rw [Nat.zero_add]; rwa [Array.getElem?_toList] at hy⟩⟩⟩
        · cases hv
    · cases hc
  · cases hc

theorem sim_makeMap {t : TypeId} {r : Option Operand} (ho : o.op = .makeMap t r) : Goal P an fn g H S w n e a o := by
  intro iop v H' he h hc hv
  rw [ho] at hc
  have hrun : iop = .mkmap ∧ (execOp a.eval o).run P w = .ok (.value (.map (some w.heap.size))) (w.alloc (.map #[] 0)) := by
    simp only [cOp] at hc
    split at hc
    · cases hc; exact ⟨rfl, by simp [execOp, ho, Instr.makeMap]⟩
    · split at hc
      · rename_i hu
        cases hc
        exact ⟨rfl, by simp [execOp, ho, Instr.makeMap, run_underlying' hu, Act.eval, asInt, asIntOf]⟩
      · cases hc
    · cases hc
  obtain ⟨rfl, hrun⟩ := hrun
  obtain ⟨rfl, rfl⟩ := ok_inv hv
  obtain ⟨M, Ms, hg⟩ := h.Ms_cons
  obtain ⟨g', k1, k2, M', k3, k4⟩ := Rel.alloc hg h (.map [] 0) (.map #[] 0) 0 0 fun O' M' hp' hM k1 _ k2 k3 => ⟨_, _, #[], k1, k2, k3, rfl, fun i k v b hh => by simp at hh⟩
  exact ⟨g', _, _, .inl hrun, k1, k2, M', Ms, _, _, k3, k4, rfl⟩

theorem sim_makeSlice {t : TypeId} {x y : Operand} (ho : o.op = .makeSlice t x y) : Goal P an fn g H S w n e a o := by
  intro iop v H' he h hc hv
  rw [ho] at hc
  simp only [cOp] at hc
  split at hc
  · rename_i el hu
    split at hc
    · rename_i i z x' y' hi hz hx hy
      cases hb : Nat.beq z.length i.size with
      | false => rw [hb] at hc; cases hc
      | true =>
        rw [hb] at hc
        cases hc
        have b2 := Nat.eq_of_beq_eq_true hb
        obtain ⟨i', zv, hi', hzv, hr⟩ := zeroCs_RV hz g.I g.Ms
        rw [hi] at hi'
        cases hi'
        have hp := cO_RV hx he
        have hq := cO_RV hy he
        simp only [evOp] at hv
        split at hv
        · rename_i kx l ky c hxe hye
          cases hb2 : (decide (0 ≤ l) && decide (l ≤ c) && Nat.ble (c.toNat * i.bytes) roomMost && Nat.ble c.toNat maxInt) with
          | false => rw [hb2] at hv; cases hv
          | true =>
            rw [hb2] at hv
            obtain ⟨rfl, rfl⟩ := ok_inv hv
            simp only [Bool.and_eq_true, decide_eq_true_eq] at hb2
            obtain ⟨⟨⟨c1, c2⟩, c3⟩, c4⟩ := hb2
            have c3 := Nat.le_of_ble_eq_true c3
            have c4 := Nat.le_of_ble_eq_true c4
            rw [hxe] at hp
            rw [hye] at hq
            have wrapc : ∀ m : Int, 0 ≤ m → m.toNat ≤ maxInt → IntKind.i64.wrap m = m := fun m h0 h1 => by
              unfold maxInt at h1
              simp only [IntKind.wrap, IntKind.bits, IntKind.signed, Bool.true_and]
              rw [if_neg (by simp; omega)]
              omega
            have wl := wrapc l c1 (by omega)
            have wc := wrapc c (by omega) c4
            have hzl : zv.cells.size = i.size := by rw [← Array.length_toList, hr.length, b2]
            obtain ⟨z0, hz0, hz1⟩ : ∃ z0 : Array Value, ((c.toNat * i.size = 0 ∧ z0 = #[]) ∨ (¬ c.toNat * i.size = 0 ∧ z0 = zv.cells)) ∧ ∀ j, j < c.toNat * i.size → z0[j % z0.size]! = zv.cells[j % zv.cells.size]! := by
              by_cases hl : c.toNat * i.size = 0
              · exact ⟨#[], .inl ⟨hl, rfl⟩, fun i hi => by omega⟩
              · exact ⟨zv.cells, .inr ⟨hl, rfl⟩, fun i _ => rfl⟩
            have hzr := zeros_RVs hr c.toNat (fun j => z0[j % z0.size]!) (fun j hj => hz1 j (by rw [← b2]; exact hj))
            rw [b2] at hzr
            let cs : Array Value := (Array.range (c.toNat * i.size)).map (fun j => z0[j % z0.size]!)
            have hsz : cs.size = c.toNat * i.size := by simp [cs]
            have hrun : (execOp a.eval o).run P w = .ok (.value (.slice (some ⟨w.heap.size, 0, none⟩) l.toNat c.toNat)) (w.alloc (.cells cs el)) := by
              have hsize := run_sizeOf' (P := P) (w := w) (t := el) (n := i.size) (by simp [sz, hi])
              have : (Instr.makeSlice t (a.eval x) (a.eval y)).run P w = .ok (.slice (some ⟨w.heap.size, 0, none⟩) l.toNat c.toNat) (w.alloc (.cells cs el)) := by
                have tl : ∀ m : Int, 0 ≤ m → m ≤ c → (decide (m < 0) || decide ((i.bytes : Int) * m > 2 ^ 48)) = false := fun m h0 h1 => by
                  have : ((i.bytes : Int) * m) ≤ (i.bytes : Int) * c := Int.mul_le_mul_of_nonneg_left h1 (Int.natCast_nonneg _)
                  have h2 : (i.bytes : Int) * c ≤ 2 ^ 48 := by
                    have h3 : ((c.toNat * i.bytes : Nat) : Int) ≤ (roomMost : Nat) := by exact_mod_cast c3
                    have h4 : ((c.toNat : Nat) : Int) = c := Int.toNat_of_nonneg (by omega)
                    rw [Int.natCast_mul, h4, Int.mul_comm] at h3
                    exact h3
                  simp; omega
                have h1 := tl c (by omega) (Int.le_refl _)
                have h2 : decide (l < 0) = false := by simp; omega
                have h3 : decide (l > c) = false := by simp; omega
                rw [RV.int_inv hp, RV.int_inv hq]
                simp only [Instr.makeSlice, Sem.run_bind, run_underlying' hu, Result.andThen_ok, asInt, asIntOf, Sem.run_pure, run_typeInfo' hi, wl, wc, h1, h2, h3, Bool.or_false, Bool.false_or, Bool.false_eq_true, if_false, run_askRoom, hsize]
                rcases hz0 with ⟨hl, rfl⟩ | ⟨hl, rfl⟩
                · rw [if_pos hl]
                  rfl
                · rw [if_neg hl]
                  simp only [Sem.run_bind, Sem.run_pure, Result.andThen_ok, run_zeroValue hi hzv]
                  rfl
              simp [execOp, ho, this]
            obtain ⟨M, Ms, hg⟩ := h.Ms_cons
            have hcl : cs.toList.length = (repl z c.toNat).length := by simp [repl_length, b2, hsz]
            obtain ⟨g', k1, k2, M', k3, k4⟩ := Rel.allocCells hg h (cs := repl z c.toNat) (c := cs) el (by rw [take_all _ hcl]; exact hzr) (Nat.le_refl _) (by rw [repl_length, b2, hsz]; exact Nat.le_refl _)
            rw [repl_length, b2] at k4
            exact ⟨g', _, _, .inl hrun, k1, k2, M', Ms, _, _, _, c.toNat, k3, k4, rfl, by omega, Nat.le_refl _, by omega, fun _ => rfl, fun _ => rfl⟩
        · cases hv
    · cases hc
  · cases hc
end
end Go.AS
