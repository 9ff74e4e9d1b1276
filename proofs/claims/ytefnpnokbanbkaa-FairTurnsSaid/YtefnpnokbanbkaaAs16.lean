/-
  Operation by operation (13): copy, clear, maps. By an AI agent.
-/
import Derived.Test.YtefnpnokbanbkaaAs15
set_option linter.all false
namespace Go.AS
open Go
section
variable {P : Program} {an : Ann} {fn : Nat} {g : G} {H H' : Heap} {S : Stack} {w : World} {n : Nat} {e : Env} {a : Act} {iop : IOp} {v : AV} {o : Oper} {M : MMap} {Ms : List MMap}

theorem bs_copy {t : TypeId} {ts : List TypeId} {d s : Operand} : BGoal P g H S w n e a .copy (t :: ts) [d, s] := by
  intro iop v H' he h hc hv cs ty
  simp only [cBuiltin] at hc
  split at hc
  · rename_i el hu
    split at hc
    · rename_i es d' s' hes hd hs
      cases hc
      have hp := cO_RV hd he
      have hq := cO_RV hs he
      have hrun : ∀ ad len rcap m (ys : List Value) w', a.eval d = .slice ad len rcap → (Builtin.lenOf (a.eval s)).run P w = .ok m w → (Builtin.firstCells es (min m len) (a.eval s)).run P w = .ok ys.toArray w →
          (match ad with | some ad => storeCells ad ys | none => pure ()).run P w = .ok () w' → (builtin .copy (t :: ts).toArray ty cs ([d, s].map a.eval).toArray).run P w = .ok (.value (.int .i64 (min m len : Nat))) w' := by
        intro ad len rcap m ys w' h1 h2 h3 h4
        have hmin : Nat.min m len = min m len := rfl
        cases ad with
        | none =>
          simp only [Sem.run_pure, Result.ok.injEq, true_and] at h4
          subst h4
          simp [builtin, Builtin.copy_, run_underlying' hu, h1, h2, run_sizeOf' hes, hmin, h3, goInt]
        | some ad =>
          simp only at h4
          simp [builtin, Builtin.copy_, run_underlying' hu, h1, h2, run_sizeOf' hes, hmin, h3, h4, goInt]
      simp only [evOp] at hv
      split at hv
      · rename_i id lim off es' len cap ex hde
        cases hb : Nat.beq es es' with
        | false => rw [hb] at hv; cases hv
        | true =>
          rw [hb] at hv
          simp only [Bool.not_true, cond_false] at hv
          have := Nat.eq_of_beq_eq_true hb
          subst this
          split at hv
          · rename_i m new cs' hm hnew hid
            cases hb2 : (Nat.beq cs'.length lim && Nat.ble (off + len * es) lim) with
            | false => rw [hb2] at hv; cases hv
            | true =>
              rw [hb2] at hv
              obtain ⟨rfl, rfl⟩ := ok_inv hv
              simp only [Bool.and_eq_true] at hb2
              have b1 := Nat.eq_of_beq_eq_true hb2.1
              have b2 := Nat.le_of_ble_eq_true hb2.2
              subst b1
              rw [hde] at hp
              obtain ⟨ys, hys, hyl, hlen, hfirst⟩ := holds_cells h hq hm hnew
              obtain ⟨M, Ms, hg⟩ := h.Ms_cons
              obtain ⟨M', Ms', blk, tot, ad, rcap, f1, f2, r1, g1, g2, g3, g4, g5⟩ := hp
              rw [hg] at f1
              cases f1
              have hle : min m len * es ≤ m * es := Nat.mul_le_mul_right _ (Nat.min_le_left _ _)
              have hle2 : min m len * es ≤ len * es := Nat.mul_le_mul_right _ (Nat.min_le_right _ _)
              have hnl : (new.take (min m len * es)).length = min m len * es := by rw [List.length_take]; omega
              obtain ⟨w', s1, s2, s3⟩ := Rel.store hg h hid f2 (off := off) (hys.take (min m len * es)) (by omega)
              have hyl2 := hys.length
              have hst : (match (some ad : Option Addr) with | some ad => storeCells ad (ys.take (min m len * es)) | none => pure ()).run P w = .ok () w' := by
                by_cases hr0 : rcap = 0
                · have hl0 : len = 0 := by omega
                  subst hl0
                  simp only [Nat.min_zero, Nat.zero_mul, List.take_zero, storeCells, Sem.run_pure] at s1 ⊢
                  exact s1
                · have := g5 hr0
                  subst this
                  exact s1
              exact ⟨g, w', _, .inl (hrun _ _ _ _ _ _ r1 hlen (hfirst _ (Nat.min_le_left _ _) w rfl) hst), s2, s3, rfl⟩
          · cases hv
      · rename_i nl es' cap cs' hde
        split at hv
        · rename_i m hm
          obtain ⟨rfl, rfl⟩ := ok_inv hv
          rw [hde] at hp
          obtain ⟨ad, rcap, xs, r1, _⟩ := hp
          have hlen : (Builtin.lenOf (a.eval s)).run P w = .ok m w := by
            unfold srcLen at hm
            split at hm
            · rename_i hx; cases hm; rw [hx] at hq; obtain ⟨_, _, _, r, _⟩ := hq; rw [r]; rfl
            · rename_i hx; cases hm; rw [hx] at hq; obtain ⟨b, r, rfl⟩ := hq; rw [r]; simp [Builtin.lenOf]
            · rename_i hx; cases hm; rw [hx] at hq; obtain ⟨_, _, _, _, _, _, _, _, r, _⟩ := hq; rw [r]; rfl
            · cases hm
          have hfc : (Builtin.firstCells es (min m 0) (a.eval s)).run P w = .ok ([] : List Value).toArray w := by
            rw [Nat.min_zero]
            unfold srcLen at hm
            split at hm
            · rename_i hx; rw [hx] at hq; obtain ⟨ad, _, _, r, _⟩ := hq; rw [r]; cases ad <;> simp [Builtin.firstCells, loadCells, loadCellsFrom]
            · rename_i hx; rw [hx] at hq; obtain ⟨b, r, rfl⟩ := hq; rw [r]; simp [Builtin.firstCells]
            · rename_i hx; rw [hx] at hq; obtain ⟨_, _, _, _, _, _, _, _, r, _⟩ := hq; rw [r]; simp [Builtin.firstCells, loadCells, loadCellsFrom]
            · cases hm
          have := hrun ad 0 rcap m [] w r1 hlen hfc (by cases ad <;> rfl)
          rw [Nat.min_zero] at this
          exact .pure h this rfl
        · cases hv
      · cases hv
    · cases hc
  · cases hc

/-! ### Maps -/
theorem Rel.mapObj (hg : g.Ms = M :: Ms) (h : Rel P g (H :: S) w) {id : Nat} {es : List (AV × AV × Nat)} {c : Nat} (hid : H[id]? = some (.map es c)) {x : Value} (hx : RV g.I (.map id) g.Ms x) :
    ∃ blk es', x = .map (some blk) ∧ g.O blk = some (S.length, id) ∧ (∃ tot, M id 0 = some (blk, tot)) ∧ w.heap[blk]? = some (.map es' c) ∧ es'.size = es.length ∧
      ∀ (i : Nat) (k v : AV) (b : Nat), es[i]? = some (k, v, b) → ∃ y : MapEntry, es'[i]? = some y ∧ RV g.I k g.Ms y.key ∧ RV g.I v g.Ms y.val ∧ y.born = b := by
  have rs := h.rs
  rw [hg] at rs
  obtain ⟨blk, tot, es', k1, k2, k3, k4, k5⟩ := rs.1 id _ hid
  obtain ⟨M', Ms', blk', tot', f1, f2, rfl⟩ := hx
  rw [hg] at f1
  cases f1
  rw [k1] at f2
  cases f2
  exact ⟨blk, es', rfl, k2, ⟨tot, k1⟩, k3, k4, by rw [hg]; exact k5⟩

theorem run_getMap {P : Program} {w : World} {blk : Nat} {es' : Array MapEntry} {c : Nat} (h : w.heap[blk]? = some (.map es' c)) : (getObj blk).run P w = .ok (.map es' c) w := by simp [getObj, Sem.run, h]
theorem run_setMap {P : Program} {w : World} {blk : Nat} {es' : Array MapEntry} {c : Nat} (o : Obj) (h : w.heap[blk]? = some (.map es' c)) : (setObj blk o).run P w = .ok () { w with heap := w.heap.setIfInBounds blk o } := by simp [setObj, Sem.run, h]

/-- A map's entries change. -/
theorem Rel.setMap (hg : g.Ms = M :: Ms) (h : Rel P g (H :: S) w) {id : Nat} {es es2 : List (AV × AV × Nat)} {c c2 blk : Nat} (hid : H[id]? = some (.map es c)) {tot : Nat} (hM : M id 0 = some (blk, tot)) (hO : g.O blk = some (S.length, id)) {es2' : Array MapEntry} (hsz : es2'.size = es2.length)
    (hes : ∀ (i : Nat) (k v : AV) (b : Nat), es2[i]? = some (k, v, b) → ∃ y : MapEntry, es2'[i]? = some y ∧ RV g.I k g.Ms y.key ∧ RV g.I v g.Ms y.val ∧ y.born = b) :
    Rel P g (H.set id (.map es2 c2) :: S) { w with heap := w.heap.setIfInBounds blk (.map es2' c2) } ∧ Le (S.length + 1) g g w { w with heap := w.heap.setIfInBounds blk (.map es2' c2) } := by
  have rs := h.rs
  rw [hg] at rs
  have hidlt := (List.getElem?_eq_some_iff.1 hid).1
  have hblk := (h.ow _ _ hO).1
  have := Rel.change (w' := { w with heap := w.heap.setIfInBounds blk (.map es2' c2) }) hg h id (.map es2 c2) (H.set id (.map es2 c2)) M g.O rfl rfl rfl (by simp)
    (fun b hb hne => by
      show (w.heap.setIfInBounds blk _)[b]? = _
      rw [Array.getElem?_setIfInBounds_ne]
      intro e; subst e; exact hne hO)
    (fun j hj => by rw [List.getElem?_set, if_neg (fun e => hj e.symm)]) (by rw [List.getElem?_set]; simp [hidlt]) (by simp)
    (fun _ _ _ => rfl) (fun _ _ h => h) (fun lim p hp => (rs.2.1 _ _ _ hp).2) (fun _ _ => rfl)
    (fun b hb x hx => by rw [h.O_new hb] at hx; cases hx)
    ⟨blk, tot, es2', hM, hO, by simp [hblk], hsz, by rw [← hg]; exact hes⟩
  rw [show ({ g with Ms := M :: Ms, O := g.O } : G) = g from by cases g; cases hg; rfl] at this
  exact this

theorem checkKey_run {P : Program} {w : World} {t : TypeId} {kk : Nat} (hk : kindOf P t = some kk) (b : Bool) (d : Nat) (v : Value) : (Instr.checkKey b (d + 1) t v).run P w = .ok () w := by
  unfold kindOf at hk
  split at hk
  · rename_i hu; simp [Instr.checkKey, run_underlying' hu]
  · rename_i hu; simp [Instr.checkKey, run_underlying' hu]
  · rename_i hu; simp [Instr.checkKey, run_underlying' hu]
  · cases hk

theorem sameNow_eq {P : Program} {I : IMap} {Ms : List MMap} {t : TypeId} {kk : Nat} {k k' : AV} {x y : Value} {b : Bool} (hk : kindOf P t = some kk) (h : primEq kk k k' = some b) (hx : RV I k Ms x) (hy : RV I k' Ms y) :
    ∃ d, P.underlying t = some d ∧ Instr.sameNow d x y = some b ∧ (b = true → Instr.sameBits 10000 y x = true) := by
  unfold primEq at h
  split at h
  · rename_i kd m kd' m'
    cases hb : ikEq kd kd' with
    | false => rw [hb] at h; cases h
    | true =>
      rw [hb] at h; cases h
      have := ikEq_iff.1 hb
      subst this
      rw [RV.int_inv hx, RV.int_inv hy]
      unfold kindOf at hk
      split at hk
      · rename_i k0 hu
        refine ⟨_, hu, by simp [Instr.sameNow], fun hb => ?_⟩
        have : m = m' := by simpa using hb
        subst this
        simp [Instr.sameBits]
      all_goals simp at hk
  · rename_i s s'
    cases h
    obtain ⟨b1, rfl, rfl⟩ := RV.str_inv hx
    obtain ⟨b2, rfl, rfl⟩ := RV.str_inv hy
    unfold kindOf at hk
    split at hk
    · simp at hk
    · rename_i hu
      refine ⟨_, hu, by simp [Instr.sameNow, beq_toListBytes, ByteArray.toList_eq], fun hb => ?_⟩
      have : b1 = b2 := by
        have h0 : b1.data.toList = b2.data.toList := by simpa using hb
        exact ByteArray.ext (Array.ext' h0)
      subst this
      simp [Instr.sameBits, beq_toListBytes]
    all_goals simp at hk
  · rename_i s s'
    cases h
    rw [RV.bool_inv hx, RV.bool_inv hy]
    unfold kindOf at hk
    split at hk
    · simp at hk
    · simp at hk
    · rename_i hu
      refine ⟨_, hu, by simp [Instr.sameNow], fun hb => ?_⟩
      have : s = s' := by simpa using hb
      subst this
      simp [Instr.sameBits]
    · simp at hk
  · cases h

theorem findK_now {P : Program} {I : IMap} {Ms : List MMap} {t : TypeId} {kk : Nat} {d : TypeDesc} (hk : kindOf P t = some kk) (hd : P.underlying t = some d) {k : AV} {x : Value} (hx : RV I k Ms x) :
    ∀ {es : List (AV × AV × Nat)} {l : List MapEntry} {i : Nat} {r : Option (Nat × AV × Nat)}, l.length = es.length → (∀ (j : Nat) (k v : AV) (b : Nat), es[j]? = some (k, v, b) → ∃ y : MapEntry, l[j]? = some y ∧ RV I k Ms y.key ∧ RV I v Ms y.val ∧ y.born = b) →
      findK kk k i es = some r → match r with
        | none => Instr.findNow d x l i = some none
        | some (j, v, b) => i ≤ j ∧ ∃ (k' : AV) (y : MapEntry), es[j - i]? = some (k', v, b) ∧ l[j - i]? = some y ∧ Instr.findNow d x l i = some (some (j, y.val)) ∧ Instr.sameBits 10000 y.key x = true
  | [], l, i, r, hl, _, h => by
    simp only [findK, Option.some.injEq] at h
    subst h
    have : l = [] := List.length_eq_zero_iff.1 hl
    subst this
    rfl
  | (k', v, b) :: rest, l, i, r, hl, hes, h => by
    cases l with
    | nil => simp at hl
    | cons y l =>
      obtain ⟨y', e1, e2, e3, e4⟩ := hes 0 k' v b rfl
      simp at e1
      subst e1
      simp only [findK] at h
      split at h
      · rename_i hb
        cases h
        obtain ⟨d', hd', s1, s2⟩ := sameNow_eq hk hb hx e2
        rw [hd] at hd'
        cases hd'
        refine ⟨Nat.le_refl _, k', y, by simp, by simp, ?_, s2 rfl⟩
        simp [Instr.findNow, s1]
      · rename_i hb
        obtain ⟨d', hd', s1, _⟩ := sameNow_eq hk hb hx e2
        rw [hd] at hd'
        cases hd'
        have := findK_now hk hd hx (es := rest) (l := l) (i := i + 1) (r := r) (by simpa using hl) (fun j k v b hj => by simpa using hes (j + 1) k v b (by simpa using hj)) h
        cases r with
        | none => simpa [Instr.findNow, s1] using this
        | some r =>
          obtain ⟨j, v', b'⟩ := r
          obtain ⟨q1, k'', y'', q2, q3, q4, q5⟩ := this
          refine ⟨by omega, k'', y'', ?_, ?_, by simpa [Instr.findNow, s1] using q4, q5⟩
          · rw [show j - i = (j - (i + 1)) + 1 from by omega]; simpa using q2
          · rw [show j - i = (j - (i + 1)) + 1 from by omega]; simpa using q3
      · cases h

theorem kindOf_some {P : Program} {t : TypeId} {kk : Nat} (hk : kindOf P t = some kk) : ∃ d, P.underlying t = some d := by
  unfold kindOf at hk
  split at hk
  · exact ⟨_, by assumption⟩
  · exact ⟨_, by assumption⟩
  · exact ⟨_, by assumption⟩
  · cases hk
end
end Go.AS
