/-
  Operation by operation (10): the built-in functions. By an AI agent.
-/
import Derived.Test.YtefnpnokbanbkaaAs12
set_option linter.all false
namespace Go.AS
open Go
section
variable {P : Program} {an : Ann} {fn : Nat} {g : G} {H H' : Heap} {S : Stack} {w : World} {n : Nat} {e : Env} {a : Act} {iop : IOp} {v : AV} {o : Oper} {M : MMap} {Ms : List MMap}

/-- What a built-in function comes to. -/
abbrev BGoal (P : Program) (g : G) (H : Heap) (S : Stack) (w : World) (n : Nat) (e : Env) (a : Act) (b : Builtin) (ts : List TypeId) (as : List Operand) : Prop :=
  ∀ {iop : IOp} {v : AV} {H' : Heap}, EnvR g.I g.Ms n e a.tmps → Rel P g (H :: S) w → cBuiltin P b ts as = some iop → evOp e H iop = some (v, H') →
    ∀ cs ty, Does P g (H :: S) w (builtin b ts.toArray ty cs (as.map a.eval).toArray) v (H' :: S)

theorem bs_len {t : TypeId} {ts : List TypeId} {x : Operand} : BGoal P g H S w n e a .len (t :: ts) [x] := by
  intro iop v H' he h hc hv cs ty
  simp only [cBuiltin] at hc
  split at hc
  · rename_i hu
    simp only [Option.map_eq_some_iff] at hc
    obtain ⟨x', hx, rfl⟩ := hc
    have hp := cO_RV hx he
    simp only [evOp] at hv
    split at hv
    · rename_i s hxe
      obtain ⟨rfl, rfl⟩ := ok_inv hv
      rw [hxe] at hp
      obtain ⟨b, r1, rfl⟩ := RV.str_inv hp
      have hb : b.data.toList.length = b.size := Array.length_toList
      exact .pure h (x := .int .i64 b.data.toList.length) (by rw [hb]; simp [builtin, Builtin.len_, r1, run_underlying' hu, goInt]) rfl
    · cases hv
  · rename_i el hu
    simp only [Option.map_eq_some_iff] at hc
    obtain ⟨x', hx, rfl⟩ := hc
    have hp := cO_RV hx he
    simp only [evOp] at hv
    split at hv
    · rename_i m c cs' hxe
      obtain ⟨rfl, rfl⟩ := ok_inv hv
      rw [hxe] at hp
      obtain ⟨ad, rcap, xs, r1, _⟩ := hp
      exact .pure h (x := .int .i64 m) (by simp [builtin, Builtin.len_, r1, run_underlying' hu, goInt]) rfl
    · rename_i m c ex hxe
      obtain ⟨rfl, rfl⟩ := ok_inv hv
      rw [hxe] at hp
      obtain ⟨M', Ms', blk, tot, ad, rcap, _, _, r1, _⟩ := hp
      exact .pure h (x := .int .i64 m) (by simp [builtin, Builtin.len_, r1, run_underlying' hu, goInt]) rfl
    · cases hv
  · rename_i kt el hu
    simp only [Option.map_eq_some_iff] at hc
    obtain ⟨x', hx, rfl⟩ := hc
    have hp := cO_RV hx he
    simp only [evOp] at hv
    split at hv
    · rename_i hxe
      obtain ⟨rfl, rfl⟩ := ok_inv hv
      rw [hxe] at hp
      have r1 : a.eval x = .map none := hp
      exact .pure h (x := .int .i64 0) (by simp [builtin, Builtin.len_, r1, run_underlying' hu, goInt]) rfl
    · rename_i id hxe
      split at hv
      · rename_i es c hid
        obtain ⟨rfl, rfl⟩ := ok_inv hv
        rw [hxe] at hp
        obtain ⟨M, Ms, hg⟩ := h.Ms_cons
        obtain ⟨M', Ms', blk, tot, f1, f2, r1⟩ := hp
        have rs := h.rs
        rw [hg] at rs f1
        cases f1
        obtain ⟨blk', tot', es', k1, k2, k3, k4, k5⟩ := rs.1 id _ hid
        rw [f2] at k1
        cases k1
        exact .pure h (x := .int .i64 es.length) (by simp [builtin, Builtin.len_, r1, run_underlying' hu, goInt, getObj, Sem.run, k3, k4]) rfl
      · cases hv
    · cases hv
  · rename_i m el hu
    cases hc
    obtain ⟨rfl, rfl⟩ := ok_inv hv
    exact .pure h (x := .int .i64 m) (by simp [builtin, Builtin.len_, run_underlying' hu, goInt]) rfl
  · cases hc

theorem bs_cap {t : TypeId} {ts : List TypeId} {x : Operand} : BGoal P g H S w n e a .cap (t :: ts) [x] := by
  intro iop v H' he h hc hv cs ty
  simp only [cBuiltin] at hc
  split at hc
  · rename_i el hu
    simp only [Option.map_eq_some_iff] at hc
    obtain ⟨x', hx, rfl⟩ := hc
    have hp := cO_RV hx he
    simp only [evOp] at hv
    split at hv
    · rename_i c cs' hxe
      obtain ⟨rfl, rfl⟩ := ok_inv hv
      rw [hxe] at hp
      obtain ⟨ad, rcap, xs, r1, _, _, _, hc, _⟩ := hp
      have := hc _ rfl
      subst this
      exact .pure h (x := .int .i64 rcap) (by simp [builtin, Builtin.cap_, r1, run_underlying' hu, goInt]) rfl
    · rename_i c hxe
      obtain ⟨rfl, rfl⟩ := ok_inv hv
      rw [hxe] at hp
      obtain ⟨M', Ms', blk, tot, ad, rcap, _, _, r1, _, _, _, hc, _⟩ := hp
      have := hc rfl
      subst this
      exact .pure h (x := .int .i64 rcap) (by simp [builtin, Builtin.cap_, r1, run_underlying' hu, goInt]) rfl
    · cases hv
  · cases hc

theorem intsMM_run {I : IMap} {Ms : List MMap} {mx : Bool} {k : IntKind} : ∀ {vs : List AV} {xs : List Value} {m : Int} {v : AV}, RVs I vs Ms false xs → intsMM mx k m vs = some v → ∃ r, v = .int k r ∧ (xs.foldlM (if mx then Builtin.max2 else Builtin.min2) (.int k m)).run P w = .ok (.int k r) w
  | [], _, m, v, hr, h => by
    rw [show _ = [] from hr]
    simp only [intsMM, Option.some.injEq] at h
    exact ⟨m, h.symm, rfl⟩
  | u :: r, _, m, v, hr, h => by
    obtain ⟨x, xs', rfl, h1, _, h3⟩ := hr
    cases u with
    | int k' m' =>
      simp only [intsMM] at h
      cases hk : ikEq k k' with
      | false => rw [hk] at h; cases h
      | true =>
        rw [hk] at h
        have := ikEq_iff.1 hk
        subst this
        rw [RV.int_inv h1]
        obtain ⟨q, q1, q2⟩ := intsMM_run h3 h
        refine ⟨q, q1, ?_⟩
        rw [List.foldlM_cons, ← q2]
        cases mx
        · by_cases hlt : m' < m
          · simp [Builtin.min2, hlt]
          · simp [Builtin.min2, hlt]
        · by_cases hlt : m < m'
          · simp [Builtin.max2, hlt]
          · simp [Builtin.max2, hlt]
    | _ => simp [intsMM] at h

theorem strsMM_run {I : IMap} {Ms : List MMap} {mx : Bool} : ∀ {vs : List AV} {xs : List Value} {b : ByteArray} {v : AV}, RVs I vs Ms false xs → strsMM mx b.data.toList vs = some v → ∃ q : ByteArray, v = .str q.data.toList ∧ (xs.foldlM (if mx then Builtin.max2 else Builtin.min2) (.string b)).run P w = .ok (.string q) w
  | [], _, b, v, hr, h => by
    rw [show _ = [] from hr]
    simp only [strsMM, Option.some.injEq] at h
    exact ⟨b, h.symm, rfl⟩
  | u :: r, _, b, v, hr, h => by
    obtain ⟨x, xs', rfl, h1, _, h3⟩ := hr
    cases u with
    | str s =>
      obtain ⟨c, rfl, rfl⟩ := RV.str_inv h1
      simp only [strsMM] at h
      have key : ∃ d : ByteArray, (bif mx then (bif bytesLt b.data.toList c.data.toList then c.data.toList else b.data.toList) else (bif bytesLt b.data.toList c.data.toList || b.data.toList == c.data.toList then b.data.toList else c.data.toList)) = d.data.toList ∧
          ((if mx then Builtin.max2 else Builtin.min2) (.string b) (.string c)).run P w = .ok (.string d) w := by
        cases mx
        · refine ⟨if (bytesLt b.data.toList c.data.toList || b.data.toList == c.data.toList) = true then b else c, ?_, ?_⟩
          · cases (bytesLt b.data.toList c.data.toList || b.data.toList == c.data.toList) <;> rfl
          · simp only [Bool.false_eq_true, if_false, Builtin.min2, Op.stringOp, ByteArray.toList_eq, bytesLess_eq, Sem.run_bind, Sem.run_pure, Result.andThen_ok, asBool]
        · refine ⟨if (bytesLt b.data.toList c.data.toList) = true then c else b, ?_, ?_⟩
          · cases bytesLt b.data.toList c.data.toList <;> rfl
          · simp only [if_true, Builtin.max2, Op.stringOp, ByteArray.toList_eq, bytesLess_eq, Sem.run_bind, Sem.run_pure, Result.andThen_ok, asBool]
            cases bytesLt b.data.toList c.data.toList <;> rfl
      obtain ⟨d, hd, hrun⟩ := key
      rw [hd] at h
      obtain ⟨q, q1, q2⟩ := strsMM_run h3 h
      refine ⟨q, q1, ?_⟩
      rw [List.foldlM_cons, Sem.run_bind, hrun]
      exact q2
    | _ => simp [strsMM] at h

theorem bs_min {t : List TypeId} {xs : List Operand} : BGoal P g H S w n e a .min t xs := by
  intro iop v H' he h hc hv cs ty
  simp only [cBuiltin, Option.map_eq_some_iff] at hc
  obtain ⟨os, hos, rfl⟩ := hc
  have hr := evs_RVs he hos
  simp only [evOp, Option.map_eq_some_iff, Prod.mk.injEq] at hv
  obtain ⟨v', hm, rfl, rfl⟩ := hv
  unfold minmaxA at hm
  split at hm
  · rename_i k m r hev
    rw [hev] at hr
    obtain ⟨x, xs', e1, h1, _, h3⟩ := hr
    obtain ⟨q, rfl, q2⟩ := intsMM_run (P := P) (w := w) h3 hm
    refine .pure h (x := .int k q) ?_ rfl
    simp only [builtin, Builtin.min_, Sem.run_bind]
    rw [e1, RV.int_inv h1]
    simp only at q2 ⊢
    rw [show (if false = true then Builtin.max2 else Builtin.min2) = Builtin.min2 from rfl] at q2
    rw [q2]; rfl
  · rename_i s r hev
    rw [hev] at hr
    obtain ⟨x, xs', e1, h1, _, h3⟩ := hr
    obtain ⟨b, r1, rfl⟩ := RV.str_inv h1
    obtain ⟨q, rfl, q2⟩ := strsMM_run (P := P) (w := w) h3 hm
    refine .pure h (x := .string q) ?_ ⟨q, rfl, rfl⟩
    simp only [builtin, Builtin.min_, Sem.run_bind]
    rw [e1, r1]
    simp only at q2 ⊢
    rw [show (if false = true then Builtin.max2 else Builtin.min2) = Builtin.min2 from rfl] at q2
    rw [q2]; rfl
  · cases hm

theorem bs_max {t : List TypeId} {xs : List Operand} : BGoal P g H S w n e a .max t xs := by
  intro iop v H' he h hc hv cs ty
  simp only [cBuiltin, Option.map_eq_some_iff] at hc
  obtain ⟨os, hos, rfl⟩ := hc
  have hr := evs_RVs he hos
  simp only [evOp, Option.map_eq_some_iff, Prod.mk.injEq] at hv
  obtain ⟨v', hm, rfl, rfl⟩ := hv
  unfold minmaxA at hm
  split at hm
  · rename_i k m r hev
    rw [hev] at hr
    obtain ⟨x, xs', e1, h1, _, h3⟩ := hr
    obtain ⟨q, rfl, q2⟩ := intsMM_run (P := P) (w := w) h3 hm
    refine .pure h (x := .int k q) ?_ rfl
    simp only [builtin, Builtin.max_, Sem.run_bind]
    rw [e1, RV.int_inv h1]
    simp only [if_true] at q2 ⊢
    rw [q2]; rfl
  · rename_i s r hev
    rw [hev] at hr
    obtain ⟨x, xs', e1, h1, _, h3⟩ := hr
    obtain ⟨b, r1, rfl⟩ := RV.str_inv h1
    obtain ⟨q, rfl, q2⟩ := strsMM_run (P := P) (w := w) h3 hm
    refine .pure h (x := .string q) ?_ ⟨q, rfl, rfl⟩
    simp only [builtin, Builtin.max_, Sem.run_bind]
    rw [e1, r1]
    simp only [if_true] at q2 ⊢
    rw [q2]; rfl
  · cases hm

/-! ### append, copy -/
theorem holds_cells (h : Rel P g (H :: S) w) {x : AV} {y : Value} {es : Nat} {cs : List AV} {m : Nat} (hr : RV g.I x g.Ms y) (hl : srcLen x = some m) (hc : srcCells x H es = some cs) :
    ∃ xs, RVs g.I cs g.Ms true xs ∧ cs.length = m * es ∧ (Builtin.lenOf y).run P w = .ok m w ∧ (∀ k, k ≤ m → ∀ w' : World, w'.heap = w.heap → (Builtin.firstCells es k y).run P w' = .ok (xs.take (k * es)).toArray w') := by
  have hcell : ∀ (w' : World) (ad : Addr), w'.heap = w.heap → w'.cell? ad = w.cell? ad := fun w' ad hw => by simp [World.cell?, hw]
  unfold srcCells at hc
  split at hc
  · rename_i nl es' len cap cs'
    cases hb : (Nat.beq es' es || Nat.beq len 0) with
    | false => rw [hb] at hc; cases hc
    | true =>
      rw [hb] at hc; cases hc
      simp only [srcLen, Option.some.injEq] at hl
      subst hl
      obtain ⟨ad, rcap, xs, rfl, g1, g2, g3, g4, g5, g6, g7⟩ := hr
      have hlen : cs.length = len * es := by
        simp only [Bool.or_eq_true] at hb
        rcases hb with hb | hb
        · have := Nat.eq_of_beq_eq_true hb; subst this; exact g5
        · have := Nat.eq_of_beq_eq_true hb; subst this; simpa using g5
      refine ⟨xs, g6, hlen, by simp [Builtin.lenOf], fun k hk w' hw => ?_⟩
      have hxl := g6.length
      cases ad with
      | none =>
        have := g2 (by rw [g1]; rfl)
        obtain rfl : k = 0 := by omega
        simp [Builtin.firstCells]
      | some ad =>
        by_cases hcs : cs = []
        · subst hcs
          have : xs = [] := by cases xs <;> simp at hxl ⊢
          subst this
          have h0 : k * es = 0 := by
            have : k * es ≤ len * es := Nat.mul_le_mul_right _ hk
            have h2 : len * es = 0 := by simpa using hlen.symm
            omega
          simp [Builtin.firstCells, h0, loadCells, loadCellsFrom]
        · obtain ⟨blk, off, c, el, fz, q1, q2, q3⟩ := g7 hcs
          cases q1
          have hk2 : k * es ≤ len * es := Nat.mul_le_mul_right _ hk
          have hl2 : (xs.take (k * es)).length = k * es := by simp; omega
          have := run_firstCells_some (P := P) w' es k ⟨blk, off, none⟩ len rcap (xs.take (k * es)) hl2 fun j v hj => by
            rw [Addr.add_none, hcell _ _ hw]
            rw [List.getElem?_take] at hj
            split at hj
            · exact Cells.of_I h q2 q3 j v hj
            · cases hj
          exact this
  · rename_i s
    cases hb : Nat.beq es 1 with
    | false => rw [hb] at hc; cases hc
    | true =>
      rw [hb] at hc; cases hc
      have := Nat.eq_of_beq_eq_true hb
      subst this
      simp only [srcLen, Option.some.injEq] at hl
      subst hl
      obtain ⟨b, rfl, rfl⟩ := hr
      have hb2 : b.data.toList.length = b.size := Array.length_toList
      refine ⟨_, bytes_RVs _, by simp, by simp [Builtin.lenOf, hb2], fun k hk w' hw => ?_⟩
      simp only [Builtin.firstCells, Sem.run_pure, Nat.mul_one]
      congr 1
      rw [ByteArray.data_extract]
      apply Array.ext'
      simp [List.extract_eq_take_drop]
  · rename_i id lim off es' len cap ex
    split at hc
    · rename_i cs' hid
      cases hb : (Nat.beq cs'.length lim && Nat.beq es' es && Nat.ble (off + len * es') lim) with
      | false => rw [hb] at hc; cases hc
      | true =>
        rw [hb] at hc; cases hc
        simp only [Bool.and_eq_true] at hb
        obtain ⟨⟨b1, b2⟩, b3⟩ := hb
        have b1 := Nat.eq_of_beq_eq_true b1
        have b2 := Nat.eq_of_beq_eq_true b2
        have b3 := Nat.le_of_ble_eq_true b3
        subst b1 b2
        simp only [srcLen, Option.some.injEq] at hl
        subst hl
        obtain ⟨M, Ms, hg⟩ := h.Ms_cons
        obtain ⟨blk, tot, c, el, k1, k2, k3, k4, k5, k6, k7⟩ := h.cells hg hid
        obtain ⟨M', Ms', blk', tot', ad, rcap, f1, f2, rfl, g1, g2, g3, g4, g5⟩ := hr
        rw [hg] at f1
        cases f1
        rw [k1] at f2
        cases f2
        refine ⟨((c.toList.take cs'.length).drop off).take (len * es'), (k6.drop off).take _, by simp; omega, by simp [Builtin.lenOf], fun k hk w' hw => ?_⟩
        have hk2 : k * es' ≤ len * es' := Nat.mul_le_mul_right _ hk
        have hcl : c.toList.length = c.size := Array.length_toList
        rw [List.take_take, Nat.min_eq_left hk2]
        by_cases hk0 : k = 0
        · subst hk0; simp [Builtin.firstCells, loadCells, loadCellsFrom]
        · have hrc : rcap ≠ 0 := by omega
          have := g5 hrc
          subst this
          have hl2 : (((c.toList.take cs'.length).drop off).take (k * es')).length = k * es' := by simp; omega
          have := run_firstCells_some (P := P) w' es' k ⟨blk, off, none⟩ len rcap _ hl2 fun j v hj => by
            rw [Addr.add_none, hcell _ _ hw]
            rw [List.getElem?_take] at hj
            split at hj
            · rw [List.getElem?_drop] at hj
              have := k7 _ _ hj
              rwa [Nat.zero_add] at this
            · cases hj
          exact this
    · cases hc
  · cases hc
end
end Go.AS
