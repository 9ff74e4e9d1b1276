/-
  Operation by operation (5): rows that are built. By an AI agent.
-/
import Derived.Test.YtefnpnokbanbkaaAs7
set_option linter.all false
namespace Go.AS
open Go
section
variable {P : Program} {an : Ann} {fn : Nat} {g : G} {H H' : Heap} {S : Stack} {w : World} {n : Nat} {e : Env} {a : Act} {iop : IOp} {v : AV} {o : Oper} {M : MMap} {Ms : List MMap}

theorem foldl_set : ∀ (vs : List Value) (off k : Nat) (c : Array Value), off + k + vs.length ≤ c.size →
    ((vs.zipIdx k).foldl (fun (cs : Array Value) (p : Value × Nat) => cs.setIfInBounds (off + p.2) p.1) c).size = c.size ∧
    ∀ j, ((vs.zipIdx k).foldl (fun (cs : Array Value) (p : Value × Nat) => cs.setIfInBounds (off + p.2) p.1) c)[j]? = if off + k ≤ j ∧ j < off + k + vs.length then vs[j - (off + k)]? else c[j]?
  | [], off, k, c, _ => ⟨rfl, fun j => by rw [if_neg (by simp only [List.length_nil]; omega)]; rfl⟩
  | v :: r, off, k, c, h => by
    simp only [List.length_cons] at h
    simp only [List.zipIdx_cons, List.foldl_cons]
    obtain ⟨h1, h2⟩ := foldl_set r off (k + 1) (c.setIfInBounds (off + k) v) (by simp; omega)
    refine ⟨by rw [h1]; simp, fun j => ?_⟩
    rw [h2 j]
    by_cases hj : j = off + k
    · subst hj
      rw [if_neg (by omega), if_pos (by simp)]
      simp [show off + k < c.size from by omega]
    · by_cases hj2 : off + k ≤ j ∧ j < off + k + (r.length + 1)
      · rw [if_pos (by omega), if_pos (by simpa using hj2), show j - (off + k) = (j - (off + (k + 1))) + 1 from by omega]
        simp
      · rw [if_neg (by omega), if_neg (by simpa using hj2)]
        simp [Ne.symm hj]

theorem fill_RVs {I : IMap} {Ms : List MMap} {n : Nat} {e : Env} {a : Act} {place : Nat → Option (Nat × Nat)} (he : EnvR I Ms n e a.tmps) :
    ∀ {parts : List (Nat × Operand)} {ps : List (Nat × Nat × Opd)} {cs cs' : List AV} {c : Array Value}, cParts place parts = some ps → fillA e cs ps = some cs' → RVs I cs Ms true c.toList →
      ∃ c', Instr.fill place c (parts.map fun p => (p.1, a.eval p.2)) = some c' ∧ RVs I cs' Ms true c'.toList ∧ c'.size = c.size
  | [], _, cs, cs', c, h1, h2, h3 => by
    simp only [cParts, Option.some.injEq] at h1
    subst h1
    simp only [fillA, Option.some.injEq] at h2
    subst h2
    exact ⟨c, rfl, h3, rfl⟩
  | (i, x) :: r, _, cs, cs', c, h1, h2, h3 => by
    simp only [cParts] at h1
    split at h1
    · rename_i off m x' l k1 k2 k3
      cases h1
      simp only [fillA] at h2
      split at h2
      · rename_i vs hvs
        cases hb : (Nat.beq vs.length m && Nat.ble (off + m) cs.length) with
        | false => rw [hb] at h2; cases h2
        | true =>
          rw [hb] at h2
          simp only [Bool.and_eq_true] at hb
          have e1 := Nat.eq_of_beq_eq_true hb.1
          have e2 := Nat.le_of_ble_eq_true hb.2
          subst e1
          simp only [cond_true] at h2
          have hr := cellsOf_RV hvs (cO_RV k2 he)
          have hl := hr.length
          have hcl := h3.length
          have hvl : (a.eval x).cells.size = vs.length := by rw [← Array.length_toList]; exact hl
          have hcs : c.size = cs.length := by rw [← Array.length_toList]; exact hcl
          obtain ⟨f1, f2⟩ := foldl_set (a.eval x).cells.toList off 0 c (by omega)
          have hnext : RVs I (splice cs off vs) Ms true (((a.eval x).cells.toList.zipIdx 0).foldl (fun (cs : Array Value) (p : Value × Nat) => cs.setIfInBounds (off + p.2) p.1) c).toList := by
            refine RVs.of_get (by rw [Array.length_toList, f1, hcs, splice_length e2]) fun j u hu => ?_
            rw [splice_get e2] at hu
            have := f2 j
            simp only [Nat.add_zero] at this
            rw [Array.getElem?_toList, this, hl]
            by_cases hc : off ≤ j ∧ j < off + vs.length
            · rw [if_pos hc] at hu ⊢
              exact hr.get hu
            · rw [if_neg hc] at hu ⊢
              obtain ⟨y, q1, q2⟩ := h3.get hu
              rw [Array.getElem?_toList] at q1
              exact ⟨y, q1, q2⟩
          obtain ⟨c', q1, q2, q3⟩ := fill_RVs he k3 h2 hnext
          refine ⟨c', ?_, q2, by rw [q3, f1]⟩
          simp only [List.map_cons, Instr.fill, k1]
          rw [if_neg (by simp [hvl]; omega)]
          rw [← q1]
          congr 1
          rw [← Array.foldl_toList]
          simp [Array.toList_zipIdx]
      · cases h2
    · cases h1

theorem repl_length (z : List AV) : ∀ k, (repl z k).length = k * z.length
  | 0 => by simp [repl]
  | k + 1 => by simp [repl, repl_length z k, Nat.succ_mul, Nat.add_comm]

theorem repl_get (z : List AV) : ∀ (k i : Nat), i < k * z.length → (repl z k)[i]? = z[i % z.length]?
  | 0, i, h => by simp at h
  | k + 1, i, h => by
    simp only [repl]
    rw [List.getElem?_append]
    by_cases hi : i < z.length
    · rw [if_pos hi, Nat.mod_eq_of_lt hi]
    · rw [if_neg hi, repl_get z k _ (by rw [Nat.succ_mul] at h; omega)]
      congr 1
      rw [← Nat.mod_eq_sub_mod (by omega)]

theorem zeros_RVs {I : IMap} {Ms : List MMap} {z : List AV} {zc : Array Value} (h : RVs I z Ms true zc.toList) (k : Nat) (f : Nat → Value) (hf : ∀ i, i < k * z.length → f i = zc[i % zc.size]!) :
    RVs I (repl z k) Ms true ((Array.range (k * z.length)).map f).toList := by
  have hzl : zc.size = z.length := by rw [← Array.length_toList]; exact h.length
  refine RVs.of_get (by simp [repl_length]) fun i v hv => ?_
  have hi := (List.getElem?_eq_some_iff.1 hv).1
  rw [repl_length] at hi
  rw [repl_get z k i hi] at hv
  obtain ⟨x, h1, h2, h3⟩ := h.get hv
  rw [Array.getElem?_toList] at h1
  refine ⟨x, ?_, h2, h3⟩
  rw [Array.getElem?_toList, Array.getElem?_map, Array.getElem?_range, if_pos hi]
  simp only [Option.map_some, hf i hi, hzl]
  rw [getElem!_def, h1]

theorem run_mapM_list {α β : Type} {w : World} {f : α → Sem β} {q : α → Option β} (h : ∀ x y, q x = some y → (f x).run P w = .ok y w) : ∀ {l : List α} {ys : List β}, mapO q l = some ys → (l.mapM f).run P w = .ok ys w
  | [], _, e => by simp only [mapO, Option.some.injEq] at e; subst e; rfl
  | x :: r, _, e => by
    obtain ⟨y, ys', rfl, e1, e2⟩ := mapO_cons e
    simp [List.mapM_cons, h x y e1, run_mapM_list h e2]

theorem run_mapM_arr {α β : Type} {w : World} {f : α → Sem β} {q : α → Option β} (h : ∀ x y, q x = some y → (f x).run P w = .ok y w) {l : Array α} {ys : List β} (e : mapO q l.toList = some ys) : (l.mapM f).run P w = .ok ys.toArray w := by
  rw [Array.mapM_eq_mapM_toList]
  simp [run_mapM_list h e]

theorem sim_build {t : TypeId} {parts : Array (Nat × Operand)} (ho : o.op = .build t parts) : Goal P an fn g H S w n e a o := by
  intro iop v H' he h hc hv
  rw [ho] at hc
  simp only [cOp] at hc
  split at hc
  · rename_i z fs hz hu
    split at hc
    · rename_i pl hpl
      simp only [Option.map_eq_some_iff] at hc
      obtain ⟨ps, hps, rfl⟩ := hc
      simp only [evOp] at hv
      split at hv
      · rename_i cs hcs
        obtain ⟨rfl, rfl⟩ := ok_inv hv
        obtain ⟨i, zv, hi, hzv, hr⟩ := zeroCs_RV hz g.I g.Ms
        obtain ⟨c', q1, q2, q3⟩ := fill_RVs (a := a) he hps hcs hr
        refine .pure h (x := .agg c') ?_ ⟨_, rfl, q2⟩
        have hpl2 : ∀ w, (fs.mapM (fun f => do pure (f.offset, ← sizeOf f.type) : Field → Sem (Nat × Nat))).run P w = .ok pl.toArray w := fun w =>
          run_mapM_arr (fun f p hf => by
            simp only [Option.map_eq_some_iff] at hf
            obtain ⟨k, h1, rfl⟩ := hf
            simp [run_sizeOf' h1]) hpl
        have : (Instr.build t (parts.map fun (i, x) => (i, a.eval x))).run P w = .ok (.agg c') w := by
          simp only [Instr.build, Sem.run_bind, run_zeroValue hi hzv, Result.andThen_ok, run_underlying' hu, hpl2]
          have e1 : (parts.map fun (x : Nat × Operand) => (x.1, a.eval x.2)).toList = parts.toList.map fun p => (p.1, a.eval p.2) := by simp
          have e2 : (fun x : Nat => pl.toArray[x]?) = fun x : Nat => pl[x]? := by funext x; simp
          rw [e2]
          simp only [e1, q1]
          rfl
        simp [execOp, ho, this]
      · cases hv
    · cases hc
  · rename_i z m el hz hu
    split at hc
    · rename_i es hes
      simp only [Option.map_eq_some_iff] at hc
      obtain ⟨ps, hps, rfl⟩ := hc
      simp only [evOp] at hv
      split at hv
      · rename_i cs hcs
        obtain ⟨rfl, rfl⟩ := ok_inv hv
        obtain ⟨i, zv, hi, hzv, hr⟩ := zeroCs_RV hz g.I g.Ms
        obtain ⟨c', q1, q2, q3⟩ := fill_RVs (a := a) he hps hcs hr
        refine .pure h (x := .agg c') ?_ ⟨_, rfl, q2⟩
        have : (Instr.build t (parts.map fun (i, x) => (i, a.eval x))).run P w = .ok (.agg c') w := by
          simp only [Instr.build, Sem.run_bind, run_zeroValue hi hzv, Result.andThen_ok, run_underlying' hu, run_sizeOf' hes]
          have e1 : (parts.map fun (x : Nat × Operand) => (x.1, a.eval x.2)).toList = parts.toList.map fun p => (p.1, a.eval p.2) := by simp
          simp only [e1, q1]
          rfl
        simp [execOp, ho, this]
      · cases hv
    · cases hc
  · cases hc

end
end Go.AS
