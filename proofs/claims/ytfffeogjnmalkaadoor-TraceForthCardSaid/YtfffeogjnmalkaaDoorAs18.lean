import Derived.Laws.Externs
import Derived.Lib.Bytealg
import Derived.KernelRfl
import Derived.Test.YtfffeogjnmalkaaDoorAs11
set_option linter.all false
/-
  Operation by operation (15): all of them. By an AI agent.
-/
namespace Go.AS
open Go
section
variable {P : Program} {an : Ann} {fn : Nat} {g : G} {H H' : Heap} {S : Stack} {w : World} {n : Nat} {e : Env} {a : Act} {iop : IOp} {v : AV} {o : Oper} {M : MMap} {Ms : List MMap}

theorem bs_clear {t : TypeId} {ts : List TypeId} {x : Operand} : BGoal P g H S w n e a .clear (t :: ts) [x] := by
  intro iop v H' he h hc hv cs ty
  simp only [cBuiltin] at hc
  split at hc
  · rename_i kt el hu
    simp only [Option.map_eq_some_iff] at hc
    obtain ⟨x', hx, rfl⟩ := hc
    have hp := cO_RV hx he
    simp only [evOp] at hv
    split at hv
    · rename_i hxe
      obtain ⟨rfl, rfl⟩ := ok_inv hv
      rw [hxe] at hp
      have r1 : a.eval x = .map none := hp
      exact .pure h (x := .tuple #[]) (by simp [builtin, Builtin.clear_, r1, run_underlying' hu]) ⟨_, rfl, rfl⟩
    · rename_i id hxe
      split at hv
      · rename_i es c hid
        obtain ⟨rfl, rfl⟩ := ok_inv hv
        rw [hxe] at hp
        obtain ⟨M, Ms, hg⟩ := h.Ms_cons
        obtain ⟨blk, es', r1, r2, ⟨tot, r3⟩, r4, r5, r6⟩ := Rel.mapObj hg h hid hp
        obtain ⟨s1, s2⟩ := Rel.setMap (c2 := c) hg h hid r3 r2 (es2 := []) (es2' := #[]) rfl (fun j k v b hj => by simp at hj)
        exact ⟨g, _, .tuple #[], .inl (by simp [builtin, Builtin.clear_, r1, run_underlying' hu, run_getMap r4, run_setMap _ r4]), s1, s2, ⟨_, rfl, rfl⟩⟩
      · cases hv
    · cases hv
  · rename_i el hu
    split at hc
    · rename_i i za x' hi hza hx
      cases hb : Nat.beq za.length i.size with
      | false => rw [hb] at hc; cases hc
      | true =>
        rw [hb] at hc
        cases hc
        have hzl := Nat.eq_of_beq_eq_true hb
        have hp := cO_RV hx he
        obtain ⟨i', z, hi', hz0, hzr⟩ := zeroCs_RV hza g.I g.Ms
        rw [hi] at hi'
        cases hi'
        have hzs : z.cells.size = i.size := by rw [← Array.length_toList, hzr.length, hzl]
        simp only [evOp] at hv
        split at hv
        · rename_i nl es c cs0 hxe
          obtain ⟨rfl, rfl⟩ := ok_inv hv
          rw [hxe] at hp
          obtain ⟨ad, rcap, xs, r1, _⟩ := hp
          refine .pure h (x := .tuple #[]) ?_ ⟨_, rfl, rfl⟩
          cases ad <;> simp [builtin, Builtin.clear_, r1, run_underlying' hu]
        · rename_i id lim off es' len cap ex hxe
          split at hv
          · rename_i cs' hid
            cases hb3 : (Nat.beq cs'.length lim && Nat.beq i.size es' && Nat.beq za.length i.size && Nat.ble (off + len * i.size) lim) with
            | false => rw [hb3] at hv; cases hv
            | true =>
              rw [hb3] at hv
              obtain ⟨rfl, rfl⟩ := ok_inv hv
              simp only [Bool.and_eq_true] at hb3
              have b1 := Nat.eq_of_beq_eq_true hb3.1.1.1
              have b2 := Nat.eq_of_beq_eq_true hb3.1.1.2
              have b4 := Nat.le_of_ble_eq_true hb3.2
              subst b1 b2
              rw [hxe] at hp
              obtain ⟨M, Ms, hg⟩ := h.Ms_cons
              obtain ⟨M', Ms', blk, tot, ad, rcap, f1, f2, r1, g1, g2, g3, g4, g5⟩ := hp
              rw [hg] at f1
              cases f1
              have hys : RVs g.I (repl za len) g.Ms true (Builtin.zeroCells z.cells len).toList := by
                have := zeros_RVs hzr len (fun j => z.cells[j % z.cells.size]!) (fun _ _ => rfl)
                rw [hzl, ← hzs] at this; exact this
              have hyl : (repl za len).length = len * i.size := by rw [repl_length, hzl]
              obtain ⟨w', s1, s2, s3⟩ := Rel.store hg h hid f2 (off := off) hys (by rw [hyl]; exact b4)
              by_cases hl0 : len = 0
              · subst hl0
                have : (Builtin.zeroCells z.cells 0).toList = [] := by simp [Builtin.zeroCells]
                rw [this] at s1
                simp only [storeCells, Sem.run_pure, Result.ok.injEq, true_and] at s1
                subst s1
                refine ⟨g, _, .tuple #[], .inl ?_, s2, s3, ⟨_, rfl, rfl⟩⟩
                simp [builtin, Builtin.clear_, r1, run_underlying' hu]
              · have hr0 : rcap ≠ 0 := by omega
                have := g5 hr0
                subst this
                refine ⟨g, _, .tuple #[], .inl ?_, s2, s3, ⟨_, rfl, rfl⟩⟩
                simp [builtin, Builtin.clear_, r1, run_underlying' hu, hl0, zeroValue, typeInfo, hi, hz0]
                rw [s1]
                rfl
          · cases hv
        · cases hv
    · cases hc
  · cases hc

theorem bs_delete {t : TypeId} {ts : List TypeId} {m k : Operand} : BGoal P g H S w n e a .delete (t :: ts) [m, k] := by
  intro iop v H' he h hc hv cs ty
  simp only [cBuiltin] at hc
  split at hc
  · rename_i kt el hu
    split at hc
    · rename_i kk m' k' hkk hm hk
      cases hc
      have hp := cO_RV hm he
      have hq := cO_RV hk he
      obtain ⟨d, hd⟩ := kindOf_some hkk
      simp only [evOp] at hv
      cases hkok : keyOk kk (k'.ev e) with
      | false => rw [hkok] at hv; cases hv
      | true =>
        rw [hkok] at hv
        simp only [Bool.not_true, cond_false] at hv
        have hck : ∀ b (v : Value), (Instr.checkKey b 10000 kt v).run P w = .ok () w := fun b v => checkKey_run hkk b 9999 v
        split at hv
        · rename_i hme
          obtain ⟨rfl, rfl⟩ := ok_inv hv
          rw [hme] at hp
          have r1 : a.eval m = .map none := hp
          exact .pure h (x := .tuple #[]) (by simp [builtin, Builtin.delete_, r1, run_underlying' hu, hck]) ⟨_, rfl, rfl⟩
        · rename_i id hme
          rw [hme] at hp
          split at hv
          · rename_i es c hid
            obtain ⟨M, Ms, hg⟩ := h.Ms_cons
            obtain ⟨blk, es', r1, r2, ⟨tot, r3⟩, r4, r5, r6⟩ := Rel.mapObj hg h hid hp
            split at hv
            · rename_i i u b hfound
              obtain ⟨rfl, rfl⟩ := ok_inv hv
              have hf := findK_now hkk hd hq (es := es) (l := es'.toList) (i := 0) (by simpa using r5) (fun j k v b hj => by simpa using r6 j k v b hj) hfound
              obtain ⟨_, kk', y, q2, q3, q4, q5⟩ := hf
              rw [Nat.sub_zero] at q2 q3
              have hilt := (List.getElem?_eq_some_iff.1 q2).1
              have htl : (es'.eraseIdxIfInBounds i).toList = es'.toList.eraseIdx i := by
                unfold Array.eraseIdxIfInBounds
                rw [dif_pos (by omega)]
                simp
              obtain ⟨s1, s2⟩ := Rel.setMap (c2 := c) hg h hid r3 r2 (es2 := es.eraseIdx i) (es2' := es'.eraseIdxIfInBounds i) (by
                  rw [← Array.length_toList, htl, List.length_eraseIdx, List.length_eraseIdx, Array.length_toList, r5]) (fun j k v b' hj => by
                rw [List.getElem?_eraseIdx] at hj
                rw [← Array.getElem?_toList]
                rw [htl, List.getElem?_eraseIdx]
                split at hj
                · rename_i hlt
                  rw [if_pos hlt, Array.getElem?_toList]
                  exact r6 j k v b' hj
                · rename_i hlt
                  rw [if_neg hlt, Array.getElem?_toList]
                  exact r6 (j + 1) k v b' hj)
              refine ⟨g, _, .tuple #[], .inl ?_, s1, s2, ⟨_, rfl, rfl⟩⟩
              simp [builtin, Builtin.delete_, r1, run_underlying' hu, hck, run_getMap r4, findKey_some (w := w) hd q4, run_setMap _ r4]
            · rename_i hfound
              obtain ⟨rfl, rfl⟩ := ok_inv hv
              have hf := findK_now hkk hd hq (es := es) (l := es'.toList) (i := 0) (by simpa using r5) (fun j k v b hj => by simpa using r6 j k v b hj) hfound
              obtain ⟨s1, s2⟩ := Rel.setMap (c2 := c) hg h hid r3 r2 (es2 := es) (es2' := es') r5 r6
              rw [set_same hid] at s1
              refine ⟨g, _, .tuple #[], .inl ?_, s1, s2, ⟨_, rfl, rfl⟩⟩
              simp [builtin, Builtin.delete_, r1, run_underlying' hu, hck, run_getMap r4, findKey_none (w := w) hd hf, run_setMap _ r4]
            · cases hv
          · cases hv
        · cases hv
    · cases hc
  · cases hc

theorem run_call_builtin {c : Call} {b : Builtin} (ho : o.op = .call c) (hb : c.callee = .builtin b) :
    ∃ cs, (execOp a.eval o).run P w = (builtin b c.argTypes o.type cs (c.args.map a.eval)).run P w := by
  refine ⟨c.args.map (fun x => match x with | .const _ => true | _ => false), ?_⟩
  simp only [execOp, ho, resolve, hb, Sem.run_bind, Sem.run_pure, Result.andThen_ok, invoke]
  congr 3

theorem bytesLt_lt : ∀ (a b : List UInt8), Lib.compareBytes a b = cmpB a b
  | [], [] => rfl
  | [], _ :: _ => rfl
  | _ :: _, [] => rfl
  | a :: x, b :: y => by
    have ih := bytesLt_lt x y
    simp only [Lib.compareBytes]
    unfold cmpB bytesLt
    by_cases h1 : a < b
    · simp [h1]
    · by_cases h2 : b < a
      · have h3 : ¬ (a = b) := fun h => by subst h; exact absurd h2 (by simp)
        have h4 : (a == b) = false := by simpa using h3
        simp [h1, h2, h3, h4]
      · have h3 : a = b := UInt8.le_antisymm (UInt8.not_lt.1 h2) (UInt8.not_lt.1 h1)
        subst h3
        simp only [h1, if_false, ih]
        unfold cmpB
        simp
theorem find_cmp {f : Func} (h : f.name = cmpName) (h2 : f.origin = "") : Extern.find f = some Extern.BytealgCompare.compare := by
  have a1 : Extern.allGenericRows.lookup cmpName = none := by kernel_rfl
  have a2 : Extern.allTypedRows.lookup cmpName = none := by kernel_rfl
  have a3 : Extern.allRows.lookup cmpName = some Extern.BytealgCompare.compare := by kernel_rfl
  simp only [Extern.find, h, a1, a2, a3]
  rfl
theorem findNext_cmp {f : Func} (h : f.name = cmpName) (h2 : f.origin = "") : Extern.findNext f = none := by
  have a1 : Extern.allNextRows.lookup cmpName = none := by kernel_rfl
  have a2 : Extern.allNextRows.lookup "" = none := by kernel_rfl
  simp only [Extern.findNext, h, h2, a1, a2]
  rfl
theorem cmps_sim {c : Call} {f : Operand} {gg : Nat} {x y : Opd} {sa sb : List UInt8} (ho : o.op = .call c) (hcal : c.callee = .value f) (h1 : cO f = some (.c (.func (.func gg) [] []))) (h2 : mapO cO c.args.toList = some [x, y]) (he : EnvR g.I g.Ms n e a.tmps) (h : Rel P g (H :: S) w)
    (hcmp : isCmp P gg = true) (hx : x.ev e = .str sa) (hy : y.ev e = .str sb) : Does P g (H :: S) w (execOp a.eval o) (.int .i64 (cmpB sa sb)) (H :: S) := by
  unfold isCmp at hcmp
  split at hcmp
  · rename_i fd hfd
    simp only [Bool.and_eq_true, beq_iff_eq] at hcmp
    obtain ⟨⟨n1, n2⟩, n3⟩ := hcmp
    have hf := cO_RV h1 he
    obtain ⟨xs, ys, r1, r2, r3⟩ := hf
    have r2' : xs.toList = [] := r2
    have r3' : ys.toList = [] := r3
    have hxs : xs = #[] := by apply Array.ext'; simpa using r2'
    have hys : ys = #[] := by apply Array.ext'; simpa using r3'
    subst hxs hys
    obtain ⟨p, q, hpq, hp, hq⟩ : ∃ p q, c.args.toList = [p, q] ∧ cO p = some x ∧ cO q = some y := by
      revert h2
      generalize c.args.toList = l
      intro h2
      match l, h2 with
      | [], h2 => cases h2
      | [p], h2 =>
        simp only [mapO] at h2
        split at h2 <;> simp_all
      | [p, q], h2 =>
        simp only [mapO] at h2
        cases hp : cO p <;> rw [hp] at h2 <;> cases hq : cO q <;> rw [hq] at h2 <;> simp at h2
        exact ⟨p, q, rfl, by rw [hp, h2.1], by rw [hq, h2.2]⟩
      | p :: q :: r :: l, h2 =>
        have := mapO_length h2
        simp at this
    have hpv := cO_RV hp he
    have hqv := cO_RV hq he
    rw [hx] at hpv
    rw [hy] at hqv
    obtain ⟨ba, e1, rfl⟩ := hpv
    obtain ⟨bb, e2, rfl⟩ := hqv
    have hargs : c.args.map a.eval = #[.string ba, .string bb] := by
      apply Array.ext'
      rw [Array.toList_map, hpq]
      simp [e1, e2]
    have hrun : (execOp a.eval o).run P w = .ok (.value (.int .i64 (Lib.compareBytes ba.data.toList bb.data.toList))) w := by
      have hres : (resolve a.eval c o.type).run P w = .ok { target := .fn (.func gg) #[], args := #[] ++ c.args.map a.eval } w := by
        simp [resolve, hcal, r1, Deferred.ofValue]
      have hname : (fd.name == "runtime.NumGoroutine") = false := by rw [n1]; decide
      have := run_callFunc_extern (P := P) (f := gg) hfd hname n3 (findNext_cmp n1 n2) (find_cmp n1 n2) #[.string ba, .string bb] w
      rw [Lib.run_compareString] at this
      simp only [execOp, ho, Sem.run_bind, hres, Result.andThen_ok, invoke]
      rw [hargs]
      simpa using this
    exact .pure h (x := .int .i64 _) hrun (by rw [bytesLt_lt]; rfl)
  · cases hcmp

/-- EVERY OPERATION that calls no function. -/
theorem op_sim : Goal P an fn g H S w n e a o := by
  cases ho : o.op with
  | move x => exact sim_move ho
  | assign x => exact sim_assign ho
  | pick c x y => exact sim_pick ho
  | alloc t => exact sim_alloc ho
  | box t x => exact sim_box ho
  | build t ps => exact sim_build ho
  | buildSlice t l ps => exact sim_buildSlice ho
  | load t x => exact sim_load ho
  | store t x y => exact sim_store ho
  | nilCheck x => exact sim_nilCheck ho
  | binOp op t x y yt => exact sim_binOp ho
  | unOp op t x => exact sim_unOp ho
  | convert t u x => exact sim_convert ho
  | makeInterface t x => exact sim_mkif ho
  | makeFunc f fi ca => exact sim_mkfn ho
  | makeMap t r => exact sim_makeMap ho
  | makeSlice t l c => exact sim_makeSlice ho
  | slice t x lo hi mx => exact sim_slice ho
  | fieldAddr t x f => exact sim_fieldAddr ho
  | field t x f => exact sim_field ho
  | indexAddr t x i => exact sim_indexAddr ho
  | index t x i => exact sim_index ho
  | lookup t m k ok => exact sim_lookup ho
  | mapUpdate t m k x => exact sim_mapUpdate ho
  | extract x i => exact sim_extract ho
  | range t m => exact sim_range ho
  | next x str => exact sim_next ho
  | panic x =>
    intro iop v H' he h hc hv
    rw [ho] at hc
    simp only [cOp, Option.map_eq_some_iff] at hc
    obtain ⟨x', hx, rfl⟩ := hc
    cases hv
  | call c =>
    intro iop v H' he h hc hv
    rw [ho] at hc
    simp only [cOp] at hc
    cases hcal : c.callee with
    | builtin b =>
      rw [hcal] at hc
      simp only at hc
      have key : ∀ {b : Builtin} {ts : List TypeId} {azs : List Operand}, BGoal P g H S w n e a b ts azs → c.argTypes.toList = ts → c.args.toList = azs → c.callee = .builtin b → cBuiltin P b ts azs = some iop → Does P g (H :: S) w (execOp a.eval o) v (H' :: S) := by
        intro b ts azs hb h1 h2 hb2 hc2
        obtain ⟨cs, hcs⟩ := run_call_builtin (P := P) (w := w) (a := a) ho hb2
        obtain ⟨g', w', x, r, k⟩ := hb he h hc2 hv cs o.type
        have e1 : ts.toArray = c.argTypes := by rw [← h1]
        have e2 : (azs.map a.eval).toArray = c.args.map a.eval := by rw [← h2]; apply Array.ext'; simp
        rw [e1, e2, ← hcs] at r
        exact ⟨g', w', x, r, k⟩
      generalize hts : c.argTypes.toList = ts at hc
      generalize has : c.args.toList = azs at hc
      rw [Option.map_eq_some_iff] at hc
      obtain ⟨iop0, hc, himm⟩ := hc
      have hcases : iop = iop0 ∨ ∃ es0 by0 a1 a2, iop0 = .append es0 by0 a1 a2 ∧ iop = .appi es0 by0 a1 a2 := by
        cases hf : memN fn an.imma with
        | false => rw [hf] at himm; exact .inl himm.symm
        | true =>
          rw [hf] at himm
          cases iop0 <;> first
            | exact .inl himm.symm
            | exact .inr ⟨_, _, _, _, rfl, himm.symm⟩
      rcases hcases with rfl | ⟨es0, by0, a1, a2, rfl, rfl⟩
      rotate_left
      · have hc' := hc
        unfold cBuiltin at hc
        split at hc
        · obtain ⟨cs, hcs⟩ := run_call_builtin (P := P) (w := w) (a := a) ho hcal
          obtain ⟨g', w', x, r, k⟩ := bs_appi he h hc' hv cs o.type
          rw [← hts] at r
          rw [← has] at r
          have e1 : c.argTypes.toList.toArray = c.argTypes := by simp
          have e2 : (c.args.toList.map a.eval).toArray = c.args.map a.eval := by apply Array.ext'; simp
          rw [e1, e2, ← hcs] at r
          exact ⟨g', w', x, r, k⟩
        all_goals (exfalso; revert hc; repeat' split)
        all_goals first
          | (intro hc; cases hc; done)
          | (intro hc; simp only [Option.map_eq_some_iff] at hc; obtain ⟨_, _, hc⟩ := hc; cases hc; done)
          | (intro hc; generalize Nat.beq _ _ = q at hc; cases q <;> cases hc; done)
      have hc' := hc
      unfold cBuiltin at hc
      split at hc
      · exact key bs_append hts has hcal hc'
      · exact key bs_len hts has hcal hc'
      · exact key bs_cap hts has hcal hc'
      · exact key bs_min hts has hcal hc'
      · exact key bs_max hts has hcal hc'
      · exact key bs_copy hts has hcal hc'
      · exact key bs_clear hts has hcal hc'
      · exact key bs_delete hts has hcal hc'
      · cases hc
    | value f =>
      rw [hcal] at hc
      simp only at hc
      split at hc
      · rename_i g azs h1 h2
        cases hcmp : isCmp P g with
        | true =>
          rw [hcmp] at hc
          simp only [cond_true] at hc
          split at hc
          · rename_i x y
            cases hc
            simp only [evOp] at hv
            split at hv
            · rename_i sa sb hx hy
              obtain ⟨rfl, rfl⟩ := ok_inv hv
              exact cmps_sim ho hcal h1 h2 he h hcmp hx hy
            · cases hv
          · cases hc
        | false =>
        rw [hcmp] at hc
        cases hm0 : memP fn _ an.plain with
        | true => rw [hm0] at hc; cases hc; cases hv
        | false =>
        rw [hm0] at hc
        cases hm3 : memP fn _ an.fresh with
        | true =>
          rw [hm3] at hc
          generalize memN _ an.snap = q at hc
          cases q <;> (cases hc; cases hv)
        | false =>
          rw [hm3] at hc
          cases hm : memN _ an.pure with
          | true => rw [hm] at hc; cases hc; cases hv
          | false =>
            rw [hm] at hc
            cases hm2 : memN _ an.snap with
            | true => rw [hm2] at hc; cases hc; cases hv
            | false => rw [hm2] at hc; cases hc; cases hv
      · cases hc; cases hv
      · cases hc
    | invoke r m => rw [hcal] at hc; cases hc
  | _ => intro iop v H' he h hc hv; rw [ho] at hc; cases hc
end
end Go.AS

/-
  What a value shows, when its level's memory is given up, or is not written for a while. By an AI agent.
-/
namespace Go.AS
open Go
set_option maxHeartbeats 1000000

theorem frz_RV {I I' : IMap} {N : MMap} {Ns : List MMap} {H : Heap} (hI : ∀ b o, I b = some o → I' b = some o)
    (hcells : ∀ id cs, H[id]? = some (.cells cs) → ∃ (blk tot : Nat) (c : Array Value) (e : TypeId), N id cs.length = some (blk, tot) ∧ I' blk = some (.cells c e (0, 0)) ∧ cs.length ≤ tot ∧ tot ≤ c.size ∧ RVs I cs (N :: Ns) true (c.toList.take cs.length)) :
    ∀ (k : Nat) (v v' : AV) (x : Value), frz H k v = some v' → RV I v (N :: Ns) x → RV I' v' (N :: Ns) x
  | 0, v, v', x, h, _ => by simp [frz] at h
  | k + 1, v, v', x, h, hx => by
    have ih := fun v v' x => frz_RV (I := I) (I' := I') (Ns := Ns) hI hcells k v v' x
    unfold frz at h
    cases hf : hfree v with
    | true =>
      rw [hf] at h
      cases h
      exact RV.mono hI _ (.refl _) hx
    | false =>
      rw [hf] at h
      simp only [cond_false] at h
      split at h
      · -- ptr
        rename_i id lim off
        split at h
        · rename_i cs hid
          cases hb : Nat.beq cs.length lim with
          | false => rw [hb] at h; cases h
          | true =>
            rw [hb] at h
            have := Nat.eq_of_beq_eq_true hb
            subst this
            simp only [cond_true, Option.map_eq_some_iff] at h
            obtain ⟨row, h1, rfl⟩ := h
            obtain ⟨M, Ms', blk, tot, hM, k1, rfl⟩ := hx
            cases hM
            obtain ⟨blk', tot', c, e, j1, j2, j3, j4, j5⟩ := hcells id cs hid
            cases k1.symm.trans j1
            refine ⟨blk, 0, c, e, (0, 0), c.toList.take cs.length, by rw [Nat.zero_add], j2, RVs.mapO (fun v v' x => ih v v' x) cs h1 j5, fun i y hy => ?_⟩
            rw [List.getElem?_take] at hy
            split at hy
            · rw [Nat.zero_add]; rwa [Array.getElem?_toList] at hy
            · cases hy
        · cases h
      · -- ref
        rename_i id lim off es len cap ex
        split at h
        · rename_i cs hid
          cases hb : (Nat.beq cs.length lim && Nat.ble (off + len * es) lim) with
          | false => rw [hb] at h; cases h
          | true =>
            rw [hb] at h
            simp only [Bool.and_eq_true] at hb
            have := Nat.eq_of_beq_eq_true hb.1
            subst this
            have hfit := Nat.le_of_ble_eq_true hb.2
            simp only [cond_true, Option.map_eq_some_iff] at h
            obtain ⟨row, h1, rfl⟩ := h
            obtain ⟨M, Ms', blk, tot, a, rcap, hM, k1, rfl, k2, k3, k4, k5, k6⟩ := hx
            cases hM
            obtain ⟨blk', tot', c, e, j1, j2, j3, j4, j5⟩ := hcells id cs hid
            cases k1.symm.trans j1
            have hlen := mapO_length h1
            have hrow : row.length = len * es := by rw [hlen]; simp; omega
            refine ⟨some a, rcap, ((c.toList.take cs.length).drop off).take (len * es), rfl, rfl, (fun h => by cases h), Nat.le_trans k2 k3, (fun c h => by cases h), hrow, RVs.mapO (fun v v' x => ih v v' x) _ h1 ((j5.drop off).take _), fun hne => ?_⟩
            have hr0 : rcap ≠ 0 := fun h0 => by
              subst h0
              have : len = 0 := by omega
              subst this
              simp at hrow
              exact hne hrow
            refine ⟨blk, off, c, e, (0, 0), by rw [k6 hr0], j2, fun i y hy => ?_⟩
            rw [List.getElem?_take] at hy
            split at hy
            · rw [List.getElem?_drop, List.getElem?_take] at hy
              split at hy
              · rwa [Array.getElem?_toList] at hy
              · cases hy
            · cases hy
        · cases h
      · -- iptr
        rename_i row o
        simp only [Option.map_eq_some_iff] at h
        obtain ⟨row', h1, rfl⟩ := h
        obtain ⟨blk, base, c, e, fz, xs, rfl, k1, k2, k3⟩ := hx
        exact ⟨blk, base, c, e, fz, xs, rfl, hI _ _ k1, RVs.mapO (fun v v' x => ih v v' x) _ h1 k2, k3⟩
      · -- imm
        rename_i nl es l c cs
        simp only [Option.map_eq_some_iff] at h
        obtain ⟨cs', h1, rfl⟩ := h
        obtain ⟨a, rcap, xs, rfl, k1, k2, k3, k4, k5, k6, k7⟩ := hx
        have hlen := mapO_length h1
        refine ⟨a, rcap, xs, rfl, k1, k2, k3, k4, hlen.trans k5, RVs.mapO (fun v v' x => ih v v' x) _ h1 k6, fun hne => ?_⟩
        obtain ⟨blk, off, c, e, fz, j1, j2, j3⟩ := k7 fun h0 => by subst h0; simp at hlen; exact hne hlen
        exact ⟨blk, off, c, e, fz, j1, hI _ _ j2, j3⟩
      · cases h
      · -- func
        rename_i fn fi ca hny
        split at h
        · rename_i fi' ca' h1 h2
          cases h
          cases fn with
          | func f =>
            obtain ⟨xs, ys, rfl, k1, k2⟩ := hx
            exact ⟨xs, ys, rfl, RVs.mapO (fun v v' x => ih v v' x) _ h1 k1, RVs.mapO (fun v v' x => ih v v' x) _ h2 k2⟩
          | yield l => exact (hny _ rfl).elim
          | method => exact hx.elim
          | methodOf => exact hx.elim
          | via => exact hx.elim
        · cases h
      · -- iface
        simp only [Option.map_eq_some_iff] at h
        obtain ⟨v2, h1, rfl⟩ := h
        obtain ⟨y, rfl, k1⟩ := hx
        exact ⟨y, rfl, ih _ _ _ h1 k1⟩
      · simp only [Option.map_eq_some_iff] at h
        obtain ⟨cs', h1, rfl⟩ := h
        obtain ⟨xs, rfl, k1⟩ := hx
        exact ⟨xs, rfl, RVs.mapO (fun v v' x => ih v v' x) _ h1 k1⟩
      · simp only [Option.map_eq_some_iff] at h
        obtain ⟨cs', h1, rfl⟩ := h
        obtain ⟨xs, rfl, k1⟩ := hx
        exact ⟨xs, rfl, RVs.mapO (fun v v' x => ih v v' x) _ h1 k1⟩
      · cases h
        exact RV.mono hI _ (.refl _) hx
      · cases h


/-- The blocks that nobody writes while the top level waits. -/
def snapI (g : G) (n : Nat) (w : World) : IMap := fun b => match g.O b with
  | some (l, _) => if l = n then w.heap[b]? else g.I b
  | none => g.I b
theorem Rel.snap {P : Program} {g : G} {H : Heap} {S : Stack} {w : World} (hr : Rel P g (H :: S) w) :
    Rel P { g with Ms := [], O := fun _ => none, I := snapI g S.length w } [] w ∧ ∀ {v v' : AV} {x : Value}, RV g.I v g.Ms x → AS.leave H v = some v' → hfree v' = true → RV (snapI g S.length w) v' [] x := by
  have hII : ∀ b o, g.I b = some o → snapI g S.length w b = some o := fun b o hb => by
    simp only [snapI, (hr.im b o hb).2.1]; exact hb
  constructor
  · refine ⟨trivial, fun b o hb => ?_, fun _ _ h => (by cases h), hr.bm, fun _ _ _ h => (by cases h)⟩
    show w.heap[b]? = some o ∧ none = none ∧ ¬ g.B b
    have hb' : snapI g S.length w b = some o := hb
    simp only [snapI] at hb'
    cases hO : g.O b with
    | none => rw [hO] at hb'; exact ⟨(hr.im b o hb').1, rfl, (hr.im b o hb').2.2⟩
    | some y =>
      obtain ⟨l, id⟩ := y
      rw [hO] at hb'
      by_cases hl : l = S.length
      · simp only [if_pos hl] at hb'; exact ⟨hb', rfl, (hr.ow b _ hO).2⟩
      · simp only [if_neg hl] at hb'
        have := (hr.im b o hb').2.1
        rw [hO] at this
        cases this
  · intro v v' x hv hlv hf
    obtain ⟨N, Ns, hN⟩ := hr.Ms_cons
    unfold AS.leave at hlv
    split at hlv
    · rename_i r' hfr
      rw [hN] at hv
      have := frz_RV (I' := snapI g S.length w) (Ns := Ns) (H := H) hII (fun id cs hid => ?_) 1000 v r' x hfr hv
      · simp only [Option.map_eq_some_iff] at hlv
        obtain ⟨u, hlv, rfl⟩ := hlv
        exact RV.free _ hf (RV.fg u (RV.down hlv this))
      · obtain ⟨blk, tot, c, e, j1, j2, j3, j4, j5, j6, _⟩ := hr.cells hN hid
        refine ⟨blk, tot, c, e, j1, ?_, j4, j5, hN ▸ j6⟩
        simp only [snapI, j2, if_true]; exact j3
    · cases hlv
mutual
theorem RV.scal {I I' : IMap} : ∀ (v : AV) {Ms Ms' : List MMap} {x : Value}, AS.scal v = true → RV I v Ms x → RV I' v Ms' x
  | .bool _, _, _, _, _, h => h
  | .int _ _, _, _, _, _, h => h
  | .str _, _, _, _, _, h => h
  | .nilptr, _, _, _, _, h => h
  | .nilmap, _, _, _, _, h => h
  | .nilFunc, _, _, _, _, h => h
  | .nilIface, _, _, _, _, h => h
  | .imm nil es len cap cs, Ms, Ms', x, hs, h => by
    simp only [AS.scal, List.isEmpty_iff] at hs
    subst hs
    obtain ⟨a, rcap, xs, f, h1, h2, h3, h4, h5, h6, h7⟩ := h
    have hx : xs = [] := h6
    subst hx
    exact ⟨a, rcap, [], f, h1, h2, h3, h4, h5, rfl, fun h => (h rfl).elim⟩
  | .agg cs, _, _, x, hs, h => by
    obtain ⟨xs, rfl, h1⟩ := h
    exact ⟨xs, rfl, RVs.scal cs (by simpa [AS.scal] using hs) h1⟩
  | .tuple cs, _, _, x, hs, h => by
    obtain ⟨xs, rfl, h1⟩ := h
    exact ⟨xs, rfl, RVs.scal cs (by simpa [AS.scal] using hs) h1⟩
  | .undef, _, _, _, hs, _ => by simp [AS.scal] at hs
  | .ptr _ _ _, _, _, _, hs, _ => by simp [AS.scal] at hs
  | .iptr _ _, _, _, _, hs, _ => by simp [AS.scal] at hs
  | .ref _ _ _ _ _ _ _, _, _, _, hs, _ => by simp [AS.scal] at hs
  | .map _, _, _, _, hs, _ => by simp [AS.scal] at hs
  | .func _ _ _, _, _, _, hs, _ => by simp [AS.scal] at hs
  | .iface _ _, _, _, _, hs, _ => by simp [AS.scal] at hs
  | .ext _, _, _, _, hs, _ => by simp [AS.scal] at hs
theorem RVs.scal {I I' : IMap} : ∀ (vs : List AV) {Ms Ms' : List MMap} {one : Bool} {xs : List Value}, AS.scals vs = true → RVs I vs Ms one xs → RVs I' vs Ms' one xs
  | [], _, _, _, _, _, h => h
  | v :: r, _, _, _, _, hs, h => by
    simp only [AS.scals, Bool.and_eq_true] at hs
    obtain ⟨x, xs', rfl, h1, h2, h3⟩ := h
    exact ⟨x, xs', rfl, RV.scal v hs.1 h1, h2, RVs.scal r hs.2 h3⟩
end
theorem RV.scal_func {I I' : IMap} {Ms : List MMap} {f : Nat} {x : Value} (h : RV I (.func (.func f) [] []) Ms x) : RV I' (.func (.func f) [] []) [] x := by
  obtain ⟨xs, ys, rfl, h1, h2⟩ := h
  exact ⟨xs, ys, rfl, h1, h2⟩
section
variable {P : Program} {an : Ann}
/-- A level is given up. -/
theorem Rel.leave {g0 g : G} {S0 S : Stack} {H : Heap} {w0 w : World} (hr0 : Rel P g0 S0 w0) (hl : Le (S0.length + 1) { g0 with Ms := (fun _ _ => none) :: g0.Ms } g w0 w) (hr : Rel P g (H :: S) w) :
    ∃ g', Rel P g' S w ∧ Le S0.length g0 g' w0 w ∧ ∀ {v v' : AV} {x : Value}, RV g.I v g.Ms x → AS.leave H v = some v' → RV g'.I v' g'.Ms x := by
  obtain ⟨N, Ns, hN, _, hN2⟩ := hl.ms.cons_inv
  have hrs := hr.rs
  rw [hN] at hrs
  obtain ⟨h1, h2, h3⟩ := hrs
  have hlen : S.length = S0.length := by
    have a1 := RelS.length h3
    have a2 := RelS.length hr0.rs
    have a3 := hN2.length
    omega
  let I' : IMap := fun b => match g.O b with
    | some (l, _) => if l = S.length then w.heap[b]? else g.I b
    | none => g.I b
  let O' : Nat → Option (Nat × Nat) := fun b => match g.O b with
    | some (l, id) => if l = S.length then none else some (l, id)
    | none => none
  have hInone : ∀ b o, g.I b = some o → g.O b = none := fun b o hb => (hr.im b o hb).2.1
  have hII : ∀ b o, g.I b = some o → I' b = some o := fun b o hb => by
    show (match g.O b with | some (l, _) => if l = S.length then w.heap[b]? else g.I b | none => g.I b) = some o
    rw [hInone b o hb]; exact hb
  have hOO : ∀ b l id, l ≠ S.length → g.O b = some (l, id) → O' b = some (l, id) := fun b l id hne hb => by
    show (match g.O b with | some (l, id) => if l = S.length then none else some (l, id) | none => none) = some (l, id)
    rw [hb]; simp only [if_neg hne]
  have hOin : ∀ b x, O' b = some x → g.O b = some x ∧ x.1 ≠ S.length := fun b x hb => by
    have hb' : (match g.O b with | some (l, id) => if l = S.length then none else some (l, id) | none => none) = some x := hb
    cases hO : g.O b with
    | none => rw [hO] at hb'; cases hb'
    | some y =>
      obtain ⟨l, id⟩ := y
      rw [hO] at hb'
      by_cases hls : l = S.length
      · simp only [if_pos hls] at hb'; cases hb'
      · simp only [if_neg hls] at hb'; cases hb'; exact ⟨rfl, hls⟩
  have hold : ∀ b, b < w0.heap.size → (O' b = g0.O b ∧ I' b = g0.I b) := fun b hb => by
    have q1 := hl.oO b hb
    have q2 := hl.oI b hb
    have q1' : g.O b = g0.O b := q1
    have q2' : g.I b = g0.I b := q2
    cases hO : g0.O b with
    | none =>
      constructor
      · show (match g.O b with | some (l, id) => if l = S.length then none else some (l, id) | none => none) = none
        rw [q1', hO]
      · show (match g.O b with | some (l, _) => if l = S.length then w.heap[b]? else g.I b | none => g.I b) = g0.I b
        rw [q1', hO]; exact q2'
    | some y =>
      obtain ⟨l, id⟩ := y
      have hlt := hr0.lv b l id hO
      constructor
      · show (match g.O b with | some (l, id) => if l = S.length then none else some (l, id) | none => none) = some (l, id)
        rw [q1', hO]; simp only [if_neg (show ¬ l = S.length by omega)]
      · show (match g.O b with | some (l, _) => if l = S.length then w.heap[b]? else g.I b | none => g.I b) = g0.I b
        rw [q1', hO]; simp only [if_neg (show ¬ l = S.length by omega)]; exact q2'
  refine ⟨{ Ms := Ns, I := I', O := O', B := g.B }, ⟨RelS.frame hII h3 fun b l id hb hlt => ⟨hOO b l id (by omega) hb, rfl⟩, fun b o hb => ?_, fun b x hb => hr.ow b x (hOin b x hb).1, hr.bm, fun b l id hb => ?_⟩,
    ⟨hl.os, hl.tape, hl.output, hl.size, hN2, fun b o hb => hII b o (hl.im b o hb), fun b hb => (hold b hb).1, fun b hb => (hold b hb).2, hl.oB, fun b hb ho => hl.frame b hb fun l id hO => ?_⟩, ?_⟩
  · have hb' : (match g.O b with | some (l, _) => if l = S.length then w.heap[b]? else g.I b | none => g.I b) = some o := hb
    cases hO : g.O b with
    | none =>
      rw [hO] at hb'
      obtain ⟨k1, k2, k3⟩ := hr.im b o hb'
      refine ⟨k1, ?_, k3⟩
      show (match g.O b with | some (l, id) => if l = S.length then none else some (l, id) | none => none) = none
      rw [hO]
    | some y =>
      obtain ⟨l, id⟩ := y
      rw [hO] at hb'
      by_cases hls : l = S.length
      · simp only [if_pos hls] at hb'
        refine ⟨hb', ?_, (hr.ow b _ hO).2⟩
        show (match g.O b with | some (l, id) => if l = S.length then none else some (l, id) | none => none) = none
        rw [hO]; simp only [if_pos hls]
      · simp only [if_neg hls] at hb'
        have := hInone b o hb'
        rw [hO] at this
        cases this
  · obtain ⟨q1, q2⟩ := hOin b _ hb
    have := hr.lv b l id q1
    simp at this
    omega
  · have := hr0.lv b l id hO
    have := ho l id hO
    omega
  · intro v v' x hv hlv
    unfold AS.leave at hlv
    split at hlv
    · rename_i r' hfr
      rw [hN] at hv
      have := frz_RV (I' := I') (Ns := Ns) (H := H) hII (fun id cs hid => ?_) 1000 v r' x hfr hv
      · simp only [Option.map_eq_some_iff] at hlv
        obtain ⟨u, hlv, rfl⟩ := hlv
        exact RV.fg u (RV.down hlv this)
      · obtain ⟨blk, tot, c, e, j1, j2, j3, j4, j5, j6, _⟩ := hr.cells hN hid
        refine ⟨blk, tot, c, e, j1, ?_, j4, j5, hN ▸ j6⟩
        show (match g.O blk with | some (l, _) => if l = S.length then w.heap[blk]? else g.I blk | none => g.I blk) = _
        rw [j2]; simp only [if_true]; exact j3
    · cases hlv

/-- A block that nobody has becomes an object. -/
theorem Rel.adopt {g : G} {H : Heap} {S : Stack} {w : World} {M : MMap} {Ms : List MMap} (hg : g.Ms = M :: Ms) (h : Rel P g (H :: S) w) {blk tot : Nat} {cs : List AV} {c : Array Value} {e : TypeId}
    (hO : g.O blk = none) (hI : g.I blk = none) (hB : ¬ g.B blk) (hb : w.heap[blk]? = some (.cells c e (0, 0))) (h1 : cs.length ≤ tot) (h2 : tot ≤ c.size)
    (hc : ∀ (i : Nat) (v : AV), cs[i]? = some v → ∃ x : Value, c[i]? = some x ∧ (∀ Ms', RV g.I v Ms' x) ∧ x.oneCell = true) :
    ∃ M', (∀ id lim p, M id lim = some p → M' id lim = some p) ∧ M' H.length cs.length = some (blk, tot) ∧ Rel P { g with Ms := M' :: Ms, O := fun b => if b = blk then some (S.length, H.length) else g.O b } ((H ++ [.cells cs]) :: S) w := by
  have hrs := h.rs
  rw [hg] at hrs
  obtain ⟨r1, r2, r3⟩ := hrs
  have hno : ∀ l, M H.length l = none := fun l => by
    cases hx : M H.length l with
    | none => rfl
    | some p => have := (r2 _ _ _ hx).1; omega
  have hlt : blk < w.heap.size := by
    rcases Nat.lt_or_ge blk w.heap.size with h | h
    · exact h
    · rw [Array.getElem?_eq_none h] at hb; cases hb
  have hne : ∀ b x, g.O b = some x → b ≠ blk := fun b x hx hbb => by rw [hbb, hO] at hx; cases hx
  let M' : MMap := fun j l => if j = H.length ∧ l = cs.length then some (blk, tot) else M j l
  have hM : ∀ j, j ≠ H.length → ∀ l, M' j l = M j l := fun j hj l => if_neg fun h => hj h.1
  have hle : ∀ id lim p, M id lim = some p → M' id lim = some p := fun id lim p hp => by
    by_cases hj : id = H.length
    · subst hj; rw [hno] at hp; cases hp
    · rw [hM id hj]; exact hp
  have hml : MsLe (M :: Ms) (M' :: Ms) := ⟨hle, .refl _⟩
  have hM0 : M' H.length cs.length = some (blk, tot) := if_pos ⟨rfl, rfl⟩
  refine ⟨M', hle, hM0, ⟨⟨fun id o ho => ?_, fun id lim p hp => ?_, ?_⟩, fun b o hb' => ?_, fun b x hx => ?_, h.bm, fun b l id hx => ?_⟩⟩
  · rw [List.getElem?_append] at ho
    split at ho
    · rename_i hid
      exact (r1 id o ho).frame (fun _ _ h => h) hml (fun l => hM id (by omega) l) fun b hbb => ⟨(if_neg (hne b _ hbb)).trans hbb, rfl⟩
    · rename_i hid
      have hid0 : id - H.length = 0 := by
        rcases Nat.eq_zero_or_pos (id - H.length) with h0 | h0
        · exact h0
        · rw [List.getElem?_eq_none (by simp; omega)] at ho; cases ho
      have hid2 : id = H.length := by omega
      subst hid2
      rw [hid0] at ho
      simp only [List.getElem?_cons_zero, Option.some.injEq] at ho
      subst ho
      refine ⟨blk, tot, c, e, hM0, if_pos rfl, hb, h1, h2, fun lim p hp => ?_, fun i v hv => ?_⟩
      · by_cases hl : lim = cs.length
        · omega
        · have : M' H.length lim = M H.length lim := if_neg fun h => hl h.2
          rw [this, hno] at hp; cases hp
      · obtain ⟨x, k1, k2, k3⟩ := hc i v hv
        exact ⟨x, k1, k2 _, k3⟩
  · by_cases hj : id = H.length ∧ lim = cs.length
    · have : M' id lim = some (blk, tot) := if_pos hj
      rw [this] at hp
      cases hp
      exact ⟨by simp [hj.1], (if_pos rfl).trans (by rw [hj.1])⟩
    · have : M' id lim = M id lim := if_neg hj
      rw [this] at hp
      have := r2 id lim p hp
      exact ⟨by simp; omega, (if_neg (hne _ _ this.2)).trans this.2⟩
  · exact RelS.frame (fun _ _ h => h) r3 fun b l id hbl _ => ⟨(if_neg (hne b _ hbl)).trans hbl, rfl⟩
  · obtain ⟨k1, k2, k3⟩ := h.im b o hb'
    refine ⟨k1, ?_, k3⟩
    show (if b = blk then _ else _) = none
    rw [if_neg fun hbb => by rw [hbb, hI] at hb'; cases hb']
    exact k2
  · by_cases hbb : b = blk
    · subst hbb; exact ⟨hlt, hB⟩
    · exact h.ow b x ((if_neg hbb).symm.trans hx)
  · by_cases hbb : b = blk
    · have := (if_pos hbb).symm.trans hx
      cases this; simp
    · have := h.lv b l id ((if_neg hbb).symm.trans hx)
      simp; omega
/-- A new object at a place that was kept for it. -/
theorem Rel.allocSlot {g : G} {H : Heap} {S : Stack} {w : World} {M : MMap} {Ms : List MMap} (hg : g.Ms = M :: Ms) (h : Rel P g (H :: S) w) {id : Nat} (hid : H[id]? = some .slot) {cs : List AV} {c : Array Value} (t : TypeId) (hr : RVs g.I cs g.Ms true (c.toList.take cs.length))
    {tot : Nat} (h1 : cs.length ≤ tot) (h2 : tot ≤ c.size) :
    ∃ g', Rel P g' (H.set id (.cells cs) :: S) (w.alloc (.cells c t)) ∧ Le (S.length + 1) g g' w (w.alloc (.cells c t)) ∧ ∃ M', g'.Ms = M' :: Ms ∧ M' id cs.length = some (w.heap.size, tot) := by
  have hidlt : id < H.length := (List.getElem?_eq_some_iff.1 hid).1
  have hno : ∀ l, M id l = none := by
    have := h.rs
    rw [hg] at this
    exact this.1 id _ hid
  have hmle : MsLe (M :: Ms) ((fun j l => if j = id ∧ l = cs.length then some (w.heap.size, tot) else M j l) :: Ms) := ⟨fun j l p hp => by
    by_cases hj : j = id ∧ l = cs.length
    · rw [hj.1, hno] at hp; cases hp
    · simp only [hj, if_false]; exact hp, .refl _⟩
  have := Rel.change (w' := w.alloc (.cells c t)) hg h id (.cells cs) (H.set id (.cells cs)) (fun j l => if j = id ∧ l = cs.length then some (w.heap.size, tot) else M j l) (fun b => if b = w.heap.size then some (S.length, id) else g.O b)
    rfl rfl rfl (by simp) (fun b hb _ => heap_alloc_old _ _ _ hb)
    (fun j hj => List.getElem?_set_ne (Ne.symm hj))
    (by simp [hidlt]) (by simp) (fun j l hj => by simp [hj]) (fun l p hp => by rw [hno] at hp; cases hp)
    (fun l p hp => by
      by_cases hl : l = cs.length
      · simp [hl] at hp; subst hp; simp
      · simp [hl, hno] at hp)
    (fun b hb => by rw [if_neg (by omega)])
    (fun b hb x hx => by
      by_cases he : b = w.heap.size
      · subst he; simp at hx; exact ⟨hx.symm, by simp⟩
      · rw [if_neg he, h.O_new hb] at hx; cases hx)
    (by
      refine ⟨w.heap.size, tot, c, t, by simp, by simp, heap_alloc_new w _, h1, h2, fun l p hp => ?_, fun i v hv => ?_⟩
      · by_cases hl : l = cs.length
        · omega
        · simp [hl, hno] at hp
      · obtain ⟨x, e1, e2, e3⟩ := hr.get hv
        rw [hg] at e2
        have hlt := (List.getElem?_eq_some_iff.1 hv).1
        rw [List.getElem?_take, if_pos hlt, Array.getElem?_toList] at e1
        exact ⟨x, e1, RV.mono (fun _ _ h => h) v hmle e2, e3 rfl⟩)
  exact ⟨_, this.1, this.2, _, rfl, by simp⟩
/-- Places that are kept. -/
theorem Rel.slots {g : G} {H : Heap} {S : Stack} {w : World} (h : Rel P g (H :: S) w) (k : Nat) : Rel P g ((H ++ List.replicate k .slot) :: S) w := by
  obtain ⟨M, Ms, hg⟩ := h.Ms_cons
  have hrs := h.rs
  rw [hg] at hrs
  obtain ⟨r1, r2, r3⟩ := hrs
  refine ⟨?_, h.im, h.ow, h.bm, fun b l id hb => h.lv b l id hb⟩
  rw [hg]
  refine ⟨fun id o ho => ?_, fun id lim p hp => ⟨by have := (r2 id lim p hp).1; simp; omega, (r2 id lim p hp).2⟩, r3⟩
  rw [List.getElem?_append] at ho
  split at ho
  · exact r1 id o ho
  · rename_i hid
    rw [List.getElem?_replicate] at ho
    split at ho
    · cases ho
      intro lim
      cases hx : M id lim with
      | none => rfl
      | some p => have := (r2 id lim p hx).1; omega
    · cases ho
end
end Go.AS

/-
  Regions. By an AI agent.
-/
namespace Go.AS
open Go

theorem Env.get_set (i j : Nat) (v : AV) : ∀ e : Env, Env.get (Env.set e i v) j = if j = i then v else Env.get e j
  | [] => by
    simp only [Env.set, Env.get]
    by_cases h : j = i
    · subst h; rw [nbeq_self]; simp
    · rw [nbeq_false h]; simp [h]
  | (k, u) :: r => by
    simp only [Env.set]
    cases hb : Nat.blt i k with
    | true =>
      simp only [cond_true, Env.get]
      by_cases h : j = i
      · subst h; rw [nbeq_self]; simp
      · rw [nbeq_false h]; simp [h]
    | false =>
      simp only [cond_false]
      by_cases hik : i = k
      · subst hik
        rw [nbeq_self]
        simp only [cond_true, Env.get]
        by_cases h : j = i
        · subst h; rw [nbeq_self]; simp
        · rw [nbeq_false h]; simp [h]
      · rw [nbeq_false hik]
        simp only [cond_false, Env.get]
        by_cases h : j = k
        · subst h; rw [nbeq_self]; simp [Ne.symm hik]
        · rw [nbeq_false h]
          simp only [cond_false]
          exact Env.get_set i j v r

theorem Env.get_del (i j : Nat) : ∀ e : Env, Env.get (Env.del e i) j = if j = i then .undef else Env.get e j
  | [] => by simp [Env.del, Env.get]
  | (k, u) :: r => by
    simp only [Env.del]
    by_cases hik : i = k
    · subst hik
      rw [nbeq_self]
      simp only [cond_true, Env.get]
      rw [Env.get_del i j r]
      by_cases h : j = i
      · simp [h]
      · rw [nbeq_false h]; simp [h]
    · rw [nbeq_false hik]
      simp only [cond_false, Env.get]
      by_cases h : j = k
      · subst h; rw [nbeq_self]; simp [Ne.symm hik]
      · rw [nbeq_false h]
        simp only [cond_false]
        exact Env.get_del i j r

section
set_option maxHeartbeats 4000000
variable {P : Program} {an : Ann} {fn : Nat}
/-- Which of the operations stand apart: 1 panic, 2 pure call, 3 call. -/
def apart : IOp → Bool
  | .panic _ | .callp .. | .callf .. | .calls .. | .call .. => true
  | _ => false

def isAl : IOp → Bool
  | .alloc _ | .mkmap | .allocA .. | .mapA _ => true
  | _ => false
theorem cBuiltin_apart {b : Builtin} {ts : List TypeId} {azs : List Operand} {i : IOp} (h : cBuiltin P b ts azs = some i) : apart i = false := by
  unfold cBuiltin at h
  repeat' split at h
  all_goals first
    | (cases h; done)
    | (cases h; rfl)
    | (simp only [Option.map_eq_some_iff] at h; obtain ⟨_, _, rfl⟩ := h; rfl)
    | (rw [Bool.cond_eq_ite] at h; split at h <;> first | (cases h; done) | (cases h; rfl))

theorem cEq_apart {t : TypeId} {ng : Bool} {x y : Operand} {p q : Opd} {d : TypeDesc} {i : IOp} (h : cEq P t ng x y p q d = some i) : apart i = false := by
  unfold cEq at h
  repeat' split at h
  all_goals first
    | (cases h; done)
    | (cases h; rfl)
    | (rw [Bool.cond_eq_ite] at h; split at h <;> first | (cases h; done) | (cases h; rfl) | (simp only [Option.map_eq_some_iff] at h; obtain ⟨_, _, rfl⟩ := h; rfl) | cases h)

theorem cBin_apart {op : BinOp} {t : TypeId} {x y : Operand} {i : IOp} (h : cBin P op t x y = some i) : apart i = false := by
  unfold cBin at h
  repeat' split at h
  all_goals first
    | (cases h; done)
    | (cases h; rfl)
    | exact cEq_apart h
    | cases h

theorem cConv_apart {s d : TypeId} {x : Operand} {i : IOp} (h : cConv P s d x = some i) : apart i = false := by
  unfold cConv at h
  repeat' split at h
  all_goals first
    | (cases h; done)
    | (cases h; rfl)
    | cases h

theorem cBuiltin_al {b : Builtin} {ts : List TypeId} {azs : List Operand} {i : IOp} (h : cBuiltin P b ts azs = some i) : isAl i = false := by
  unfold cBuiltin at h
  repeat' split at h
  all_goals first
    | (cases h; done)
    | (cases h; rfl)
    | (simp only [Option.map_eq_some_iff] at h; obtain ⟨_, _, rfl⟩ := h; rfl)
    | (rw [Bool.cond_eq_ite] at h; split at h <;> first | (cases h; done) | (cases h; rfl))

theorem cEq_al {t : TypeId} {ng : Bool} {x y : Operand} {p q : Opd} {d : TypeDesc} {i : IOp} (h : cEq P t ng x y p q d = some i) : isAl i = false := by
  unfold cEq at h
  repeat' split at h
  all_goals first
    | (cases h; done)
    | (cases h; rfl)
    | (rw [Bool.cond_eq_ite] at h; split at h <;> first | (cases h; done) | (cases h; rfl) | (simp only [Option.map_eq_some_iff] at h; obtain ⟨_, _, rfl⟩ := h; rfl) | cases h)

theorem cBin_al {op : BinOp} {t : TypeId} {x y : Operand} {i : IOp} (h : cBin P op t x y = some i) : isAl i = false := by
  unfold cBin at h
  repeat' split at h
  all_goals first
    | (cases h; done)
    | (cases h; rfl)
    | exact cEq_al h
    | cases h

theorem cConv_al {s d : TypeId} {x : Operand} {i : IOp} (h : cConv P s d x = some i) : isAl i = false := by
  unfold cConv at h
  repeat' split at h
  all_goals first
    | (cases h; done)
    | (cases h; rfl)
    | cases h

theorem cOp_apart {op : Op} {i : IOp} (h : cOp P an fn op = some i) (ha : apart i = true) :
    (∃ x x', op = .panic x ∧ cO x = some x' ∧ i = .panic x') ∨
    (∃ c f f' azs, op = .call c ∧ c.callee = .value f ∧ cO f = some f' ∧ mapO cO c.args.toList = some azs ∧ (i = .call f' azs ∨ ∃ g, f' = .c (.func (.func g) [] []) ∧ (i = .callp g azs ∨ i = .calls g azs ∨ i = .callf g azs))) := by
  cases op
  case panic x =>
    simp only [cOp, Option.map_eq_some_iff] at h
    obtain ⟨x', h1, rfl⟩ := h
    exact .inl ⟨x, x', rfl, h1, rfl⟩
  case call c =>
    simp only [cOp] at h
    split at h
    · rw [Option.map_eq_some_iff] at h
      obtain ⟨i0, h, rfl⟩ := h
      have h0 := cBuiltin_apart h
      have : apart (immA (memN fn an.imma) i0) = apart i0 := by cases memN fn an.imma <;> cases i0 <;> rfl
      rw [this, h0] at ha; cases ha
    · rename_i f hf
      split at h
      · rename_i g azs h1 h2
        cases hcmp : isCmp P g with
        | true =>
          rw [hcmp] at h
          simp only [cond_true] at h
          split at h
          · cases h; cases ha
          · cases h
        | false =>
        rw [hcmp] at h
        simp only [cond_false, Option.some.injEq] at h
        have h : some _ = some i := congrArg some h
        rw [Bool.cond_eq_ite] at h
        split at h
        · cases h; exact .inr ⟨c, f, _, azs, rfl, hf, h1, h2, .inl rfl⟩
        rw [Bool.cond_eq_ite] at h
        split at h
        · cases hsn : memN g an.snap with
          | true => rw [hsn] at h; cases h; exact .inr ⟨c, f, _, azs, rfl, hf, h1, h2, .inr ⟨g, rfl, .inr (.inl rfl)⟩⟩
          | false => rw [hsn] at h; cases h; exact .inr ⟨c, f, _, azs, rfl, hf, h1, h2, .inr ⟨g, rfl, .inr (.inr rfl)⟩⟩
        · rw [Bool.cond_eq_ite] at h
          split at h
          · cases h; exact .inr ⟨c, f, _, azs, rfl, hf, h1, h2, .inr ⟨g, rfl, .inl rfl⟩⟩
          rw [Bool.cond_eq_ite] at h
          split at h
          · cases h; exact .inr ⟨c, f, _, azs, rfl, hf, h1, h2, .inr ⟨g, rfl, .inr (.inl rfl)⟩⟩
          · cases h; exact .inr ⟨c, f, _, azs, rfl, hf, h1, h2, .inl rfl⟩
      · rename_i f' azs _ h1 h2
        cases h
        exact .inr ⟨c, f, _, azs, rfl, hf, h1, h2, .inl rfl⟩
      · cases h
    · cases h
  case binOp => simp only [cOp] at h; rw [cBin_apart h] at ha; cases ha
  case convert => simp only [cOp] at h; rw [cConv_apart h] at ha; cases ha
  all_goals
    exfalso
    simp only [cOp] at h
    repeat' split at h
    all_goals first
      | (cases h; done)
      | (cases h; cases ha; done)
      | (simp only [Option.map_eq_some_iff] at h; obtain ⟨_, _, rfl⟩ := h; cases ha; done)
      | (rw [Bool.cond_eq_ite] at h; split at h <;> first | (cases h; done) | (cases h; cases ha; done) | (simp only [Option.map_eq_some_iff] at h; obtain ⟨_, _, rfl⟩ := h; cases ha; done))
end

section
variable {P : Program} {an : Ann} {fn : Nat} {I : IMap} {Ms : List MMap} {n : Nat} {e : Env} {a : Act}

theorem EnvR.put {d : Option Nat} {v : AV} {x : Value} (h : EnvR I Ms n e a.tmps) (hv : RV I v Ms x) (hd : ∀ i, d = some i → i < n) : EnvR I Ms n (putD e d v) (a.put d x).tmps := by
  cases d with
  | none => exact h
  | some i =>
    have hi := hd i rfl
    refine ⟨by simpa [Act.put] using h.1, fun j => ?_⟩
    simp only [putD, Env.get_set, Act.put]
    by_cases hj : j = i
    · subst hj
      rw [if_pos rfl]
      have : j < a.tmps.size := Nat.lt_of_lt_of_le hi h.1
      simp [Array.getD_eq_getD_getElem?, this]
      exact hv
    · rw [if_neg hj]
      have := h.2 j
      simpa [Array.getD_eq_getD_getElem?, Array.getElem?_setIfInBounds_ne (Ne.symm hj)] using this

theorem EnvR.drop : ∀ (l : List Nat) {e : Env} {t : Array Value}, EnvR I Ms n e t → EnvR I Ms n (Env.drop e l) t
  | [], _, _, h => h
  | i :: r, e, t, h => EnvR.drop r (e := Env.del e i) ⟨h.1, fun j => by
      rw [Env.get_del]
      split
      · exact trivial
      · exact h.2 j⟩

/-- A frame's deferred calls: the marks of its ranges over functions, none of them there when the frame began. -/
def Marks (B0 B : Nat → Prop) (ds : List Deferred) : Prop :=
  (∀ b, B0 b → B b) ∧ ∃ bs : List Nat, ds = bs.map (fun b => { target := .collected b, args := #[] }) ∧ bs.Nodup ∧ ∀ b ∈ bs, B b ∧ ¬ B0 b

theorem Marks.le {lvl : Nat} {g g' : G} {w w' : World} {S : Stack} {B0 : Nat → Prop} {ds : List Deferred} (hr : Rel P g S w) (h : Le lvl g g' w w') (hm : Marks B0 g.B ds) : Marks B0 g'.B ds := by
  obtain ⟨h0, bs, h1, h2, h3⟩ := hm
  have key : ∀ b, g.B b → g'.B b := fun b hB => (h.oB b (Array.getElem?_eq_some_iff.1 (hr.bm b hB)).1).2 hB
  exact ⟨fun b hb => key b (h0 b hb), bs, h1, h2, fun b hb => ⟨key b (h3 b hb).1, (h3 b hb).2⟩⟩

theorem Rel.length_eq {lvl : Nat} {g g' : G} {w w' : World} {S S' : Stack} (h : Rel P g S w) (h' : Rel P g' S' w') (hl : Le lvl g g' w w') : S'.length = S.length := by
  rw [RelS.length h'.rs, RelS.length h.rs, hl.ms.length]

/-- What a call of a function value comes to. -/
def DoesCall (P : Program) (fv : Value) (xs : Array Value) (w : World) (R : Ending → World → Prop) : Prop :=
  ∃ f first cap, fv = .func f first cap ∧
    ((∃ k args, (invoke (.fn f cap) (first ++ xs)).run P w = .ok (.enter k args) w ∧ CallsIn Fence.wide 0 P k args w R) ∨
     (∃ l0 l k tmps asg body, f = .yield l0 ∧ (invoke (.fn f cap) (first ++ xs)).run P w = .ok (.round l k tmps asg body) w ∧ RoundIn Fence.wide 0 P l k tmps asg body w R))

/-- How a call's ending stands for the evaluator's. -/
def EndR (I : IMap) (Ms : List MMap) : CR → Ending → Prop
  | .ret v, .returned x => RV I v Ms x
  | .pan v, .panicked ch => ∃ x, ch = [{ v := x, recovered := false }] ∧ RV I v Ms x
  | _, _ => False

def KIn (K : IMap) (g : G) : Prop := ∀ b o, K b = some o → g.I b = some o
theorem KIn.le {K : IMap} {lvl : Nat} {g g' : G} {w w' : World} (h : KIn K g) (k : Le lvl g g' w w') : KIn K g' := fun b o hb => k.im b o (h b o hb)
def CallSim (P : Program) (K : IMap) (call : CallT) : Prop :=
  ∀ {f : AV} {args : List AV} {S S' : Stack} {r : CR}, call f args S = some (r, S') → ∀ {g : G} {w : World} {fv : Value} {xs : List Value}, KIn K g → Rel P g S w → RV g.I f g.Ms fv → RVs g.I args g.Ms false xs →
    DoesCall P fv xs.toArray w fun e w' => ∃ g', Rel P g' S' w' ∧ Le S.length g g' w w' ∧ EndR g'.I g'.Ms r e

/-- The fence: none; within a round or not. -/
def Wide (F : Fence) : Prop := F = Fence.wide ∨ ∃ l, F = Fence.wide.inRound l

theorem Wide.anyFn {F : Fence} (h : Wide F) (f : FuncId) : F.fn f := by rcases h with rfl | ⟨l, rfl⟩ <;> exact trivial
theorem Wide.depth {F : Fence} (h : Wide F) : F.depth = none := by rcases h with rfl | ⟨l, rfl⟩ <;> rfl
theorem Wide.calls {F : Fence} (h : Wide F) {n : Nat} {f : FuncId} {args : Array Value} {w : World} {R : Ending → World → Prop} (k : CallsIn Fence.wide 0 P f args w R) : CallsIn F n P f args w R := by
  rcases h with rfl | ⟨l, rfl⟩
  · exact k.more (Nat.zero_le _)
  · exact (k.more (Nat.zero_le _) : CallsIn Fence.wide n P f args w R)
theorem Wide.rounds {F : Fence} (h : Wide F) {n l : Nat} {f : FuncId} {tmps : Array Value} {asg body : Code} {w : World} {R : Ending → World → Prop} (k : RoundIn Fence.wide 0 P l f tmps asg body w R) : RoundIn F n P l f tmps asg body w R := by
  have k' : RoundIn Fence.wide n P l f tmps asg body w R := ⟨k.1, fun c cs hr => k.2 c cs (room_wide _)⟩
  rcases h with rfl | ⟨l', rfl⟩
  · exact k'
  · exact k'

theorem run_resolve_value {f : Operand} {c : Call} (hc : c.callee = .value f) {fn : Fn} {first cap : Array Value} (hf : a.eval f = .func fn first cap) (t : TypeId) (w : World) :
    (resolve a.eval c t).run P w = .ok { target := .fn fn cap, args := first ++ c.args.map a.eval } w := by
  simp [resolve, hc, hf, Deferred.ofValue]

theorem hfrees_get : ∀ {cs : List AV} {i : Nat} {v : AV}, hfrees cs = true → cs[i]? = some v → hfree v = true
  | [], i, v, _, h => by simp at h
  | z :: cs, 0, v, hb, h => by
    simp only [hfrees, Bool.and_eq_true] at hb
    simp at h; subst h; exact hb.1
  | z :: cs, i + 1, v, hb, h => by
    simp only [hfrees, Bool.and_eq_true] at hb
    exact hfrees_get hb.2 (i := i) (by simpa using h)

/-- The guard. -/
theorem want_of {n : Nat} {g : G} {e : Env} {a : Act} {ops : Array Oper} {o : Oper} {gd : Option (Nat × Bool)} (hgo' : guardOf ops.toList o.guard = some gd) (he : EnvR g.I g.Ms n e a.tmps) {b : Bool} (hb : guardA e gd = some b) : Region.wanted o (yielded ops a.tmps) = b := by
  unfold guardOf at hgo'
  split at hgo'
  · rename_i hg
    cases hgo'
    cases hb
    simp [Region.wanted, hg]
  · rename_i j want hg
    split at hgo'
    · rename_i q hq
      split at hgo'
      · rename_i d hqd
        cases hgo'
        simp only [guardA] at hb
        split at hb
        · rename_i b' hget
          cases hb
          have hx := he.2 d
          rw [hget] at hx
          have hx := RV.bool_inv hx
          have hy : yielded ops a.tmps j = some b' := by
            unfold yielded
            have h1 : ops[j]? = some q := by rw [← Array.getElem?_toList]; exact hq
            rw [h1]
            simp only [Option.bind_some, hqd]
            rw [Array.getD_eq_getD_getElem?] at hx
            cases ht : a.tmps[d]? with
            | none => rw [ht] at hx; cases hx
            | some y => rw [ht] at hx; simp at hx; subst hx; rfl
          simp only [Region.wanted, hg, hy]
          cases b' <;> cases want <;> rfl
        · rename_i hget
          cases hb
          have hx := he.2 d
          rw [hget] at hx
          obtain ⟨xs, hx, hxs⟩ := RV.tuple_inv hx
          have hxs : xs.toList = [] := hxs
          have hy : yielded ops a.tmps j = none := by
            unfold yielded
            have h1 : ops[j]? = some q := by rw [← Array.getElem?_toList]; exact hq
            rw [h1]
            simp only [Option.bind_some, hqd]
            rw [Array.getD_eq_getD_getElem?] at hx
            cases ht : a.tmps[d]? with
            | none => rfl
            | some y => rw [ht] at hx; simp at hx; subst hx; rfl
          simp only [Region.wanted, hg, hy]
          cases want <;> rfl
        · cases hb
      · cases hgo'
    · cases hgo'
theorem slotOp_cases (sl : List (Nat × Nat)) (dst : Option Nat) (op : IOp) : slotOp sl dst op = op ∨ (∃ d z, op = .alloc z ∧ slotOp sl dst op = .allocA d z) ∨ ∃ d, op = .mkmap ∧ slotOp sl dst op = .mapA d := by
  unfold slotOp
  split
  · rename_i z t
    cases h : lookN t sl with
    | none => exact .inl rfl
    | some d => exact .inr (.inl ⟨d, z, rfl, rfl⟩)
  · rename_i t
    cases h : lookN t sl with
    | none => exact .inl rfl
    | some d => exact .inr (.inr ⟨d, rfl, rfl⟩)
  · exact .inl rfl
theorem cOp_alloc {op : Op} {z : List AV} (h : cOp P an fn op = some (.alloc z)) : ∃ t, op = .alloc t := by
  have ha : ∀ {i : IOp}, some i = some (IOp.alloc z) → isAl i = true := fun h => by cases h; rfl
  cases op
  case alloc t => exact ⟨t, rfl⟩
  case call c =>
    exfalso
    simp only [cOp] at h
    split at h
    · rw [Option.map_eq_some_iff] at h
      obtain ⟨i0, h, he⟩ := h
      have h0 := cBuiltin_al h
      have : isAl (immA (memN fn an.imma) i0) = isAl i0 := by cases memN fn an.imma <;> cases i0 <;> rfl
      rw [he, h0] at this; cases this
    · split at h
      · rename_i g azs _ _
        cases hcmp : isCmp P g with
        | true =>
          rw [hcmp] at h
          simp only [cond_true] at h
          split at h
          · cases h
          · cases h
        | false =>
        rw [hcmp] at h
        generalize memP fn _ an.plain = q0 at h
        generalize memP fn _ an.fresh = q1 at h
        generalize memN _ an.pure = q2 at h
        generalize memN _ an.snap = q3 at h
        cases q0 <;> cases q1 <;> cases q2 <;> cases q3 <;> cases h
      · cases h
      · cases h
    · cases h
  case binOp => exfalso; simp only [cOp] at h; have := cBin_al h; cases this
  case convert => exfalso; simp only [cOp] at h; have := cConv_al h; cases this
  all_goals
    exfalso
    simp only [cOp] at h
    repeat' split at h
    all_goals first
      | (cases h; done)
      | (simp only [Option.map_eq_some_iff] at h; obtain ⟨_, _, h⟩ := h; cases h; done)
      | (rw [Bool.cond_eq_ite] at h; split at h <;> first | (cases h; done) | (simp only [Option.map_eq_some_iff] at h; obtain ⟨_, _, h⟩ := h; cases h; done))

theorem cOp_mkmap {op : Op} (h : cOp P an fn op = some .mkmap) : ∃ t r, op = .makeMap t r := by
  have ha : ∀ {i : IOp}, some i = some IOp.mkmap → isAl i = true := fun h => by cases h; rfl
  cases op
  case makeMap t r => exact ⟨t, r, rfl⟩
  case call c =>
    exfalso
    simp only [cOp] at h
    split at h
    · rw [Option.map_eq_some_iff] at h
      obtain ⟨i0, h, he⟩ := h
      have h0 := cBuiltin_al h
      have : isAl (immA (memN fn an.imma) i0) = isAl i0 := by cases memN fn an.imma <;> cases i0 <;> rfl
      rw [he, h0] at this; cases this
    · split at h
      · rename_i g azs _ _
        cases hcmp : isCmp P g with
        | true =>
          rw [hcmp] at h
          simp only [cond_true] at h
          split at h
          · cases h
          · cases h
        | false =>
        rw [hcmp] at h
        generalize memP fn _ an.plain = q0 at h
        generalize memP fn _ an.fresh = q1 at h
        generalize memN _ an.pure = q2 at h
        generalize memN _ an.snap = q3 at h
        cases q0 <;> cases q1 <;> cases q2 <;> cases q3 <;> cases h
      · cases h
      · cases h
    · cases h
  case binOp => exfalso; simp only [cOp] at h; have := cBin_al h; cases this
  case convert => exfalso; simp only [cOp] at h; have := cConv_al h; cases this
  all_goals
    exfalso
    simp only [cOp] at h
    repeat' split at h
    all_goals first
      | (cases h; done)
      | (simp only [Option.map_eq_some_iff] at h; obtain ⟨_, _, h⟩ := h; cases h; done)
      | (rw [Bool.cond_eq_ite] at h; split at h <;> first | (cases h; done) | (simp only [Option.map_eq_some_iff] at h; obtain ⟨_, _, h⟩ := h; cases h; done))

theorem cOp_noA {op : Op} {d : Nat} {z : List AV} (h : cOp P an fn op = some (.allocA d z)) : False := by
  have ha : ∀ {i : IOp}, some i = some (IOp.allocA d z) → isAl i = true := fun h => by cases h; rfl
  cases op
  case call c =>
    simp only [cOp] at h
    split at h
    · rw [Option.map_eq_some_iff] at h
      obtain ⟨i0, h, he⟩ := h
      have h0 := cBuiltin_al h
      have : isAl (immA (memN fn an.imma) i0) = isAl i0 := by cases memN fn an.imma <;> cases i0 <;> rfl
      rw [he, h0] at this; cases this
    · split at h
      · rename_i g azs _ _
        cases hcmp : isCmp P g with
        | true =>
          rw [hcmp] at h
          simp only [cond_true] at h
          split at h
          · cases h
          · cases h
        | false =>
        rw [hcmp] at h
        generalize memP fn _ an.plain = q0 at h
        generalize memP fn _ an.fresh = q1 at h
        generalize memN _ an.pure = q2 at h
        generalize memN _ an.snap = q3 at h
        cases q0 <;> cases q1 <;> cases q2 <;> cases q3 <;> cases h
      · cases h
      · cases h
    · cases h
  case binOp => simp only [cOp] at h; have := cBin_al h; cases this
  case convert => simp only [cOp] at h; have := cConv_al h; cases this
  all_goals
    simp only [cOp] at h
    repeat' split at h
    all_goals first
      | (cases h; done)
      | (simp only [Option.map_eq_some_iff] at h; obtain ⟨_, _, h⟩ := h; cases h; done)
      | (rw [Bool.cond_eq_ite] at h; split at h <;> first | (cases h; done) | (simp only [Option.map_eq_some_iff] at h; obtain ⟨_, _, h⟩ := h; cases h; done))

theorem cOp_noM {op : Op} {d : Nat} (h : cOp P an fn op = some (.mapA d)) : False := by
  have ha : ∀ {i : IOp}, some i = some (IOp.mapA d) → isAl i = true := fun h => by cases h; rfl
  cases op
  case call c =>
    simp only [cOp] at h
    split at h
    · rw [Option.map_eq_some_iff] at h
      obtain ⟨i0, h, he⟩ := h
      have h0 := cBuiltin_al h
      have : isAl (immA (memN fn an.imma) i0) = isAl i0 := by cases memN fn an.imma <;> cases i0 <;> rfl
      rw [he, h0] at this; cases this
    · split at h
      · rename_i g azs _ _
        cases hcmp : isCmp P g with
        | true =>
          rw [hcmp] at h
          simp only [cond_true] at h
          split at h
          · cases h
          · cases h
        | false =>
        rw [hcmp] at h
        generalize memP fn _ an.plain = q0 at h
        generalize memP fn _ an.fresh = q1 at h
        generalize memN _ an.pure = q2 at h
        generalize memN _ an.snap = q3 at h
        cases q0 <;> cases q1 <;> cases q2 <;> cases q3 <;> cases h
      · cases h
      · cases h
    · cases h
  case binOp => simp only [cOp] at h; have := cBin_al h; cases this
  case convert => simp only [cOp] at h; have := cConv_al h; cases this
  all_goals
    simp only [cOp] at h
    repeat' split at h
    all_goals first
      | (cases h; done)
      | (simp only [Option.map_eq_some_iff] at h; obtain ⟨_, _, h⟩ := h; cases h; done)
      | (rw [Bool.cond_eq_ite] at h; split at h <;> first | (cases h; done) | (simp only [Option.map_eq_some_iff] at h; obtain ⟨_, _, h⟩ := h; cases h; done))

theorem makeMap_run {o : Oper} {a : Act} {w : World} {t : TypeId} {r : Option Operand} {iop : IOp} (ho : o.op = .makeMap t r) (hc : cOp P an fn o.op = some iop) : (execOp a.eval o).run P w = .ok (.value (.map (some w.heap.size))) (w.alloc (.map #[] 0)) := by
  rw [ho] at hc
  simp only [cOp] at hc
  split at hc
  · simp [execOp, ho, Instr.makeMap]
  · split at hc
    · rename_i hu
      simp [execOp, ho, Instr.makeMap, run_underlying' hu, Act.eval, asInt, asIntOf]
    · cases hc
  · cases hc
theorem Rel.mapSlot {g : G} {H : Heap} {S : Stack} {w : World} {M : MMap} {Ms : List MMap} (hg : g.Ms = M :: Ms) (h : Rel P g (H :: S) w) {id : Nat} (hid : H[id]? = some .slot) :
    ∃ g', Rel P g' (H.set id (.map [] 0) :: S) (w.alloc (.map #[] 0)) ∧ Le (S.length + 1) g g' w (w.alloc (.map #[] 0)) ∧ ∃ M', g'.Ms = M' :: Ms ∧ M' id 0 = some (w.heap.size, 0) := by
  have hidlt : id < H.length := (List.getElem?_eq_some_iff.1 hid).1
  have hno : ∀ l, M id l = none := by
    have := h.rs
    rw [hg] at this
    exact this.1 id _ hid
  have hmle : MsLe (M :: Ms) ((fun j l => if j = id ∧ l = 0 then some (w.heap.size, 0) else M j l) :: Ms) := ⟨fun j l p hp => by
    by_cases hj : j = id ∧ l = 0
    · rw [hj.1, hno] at hp; cases hp
    · simp only [hj, if_false]; exact hp, .refl _⟩
  have := Rel.change (w' := w.alloc (.map #[] 0)) hg h id (.map [] 0) (H.set id (.map [] 0)) (fun j l => if j = id ∧ l = 0 then some (w.heap.size, 0) else M j l) (fun b => if b = w.heap.size then some (S.length, id) else g.O b)
    rfl rfl rfl (by simp) (fun b hb _ => heap_alloc_old _ _ _ hb)
    (fun j hj => List.getElem?_set_ne (Ne.symm hj))
    (by simp [hidlt]) (by simp) (fun j l hj => by simp [hj]) (fun l p hp => by rw [hno] at hp; cases hp)
    (fun l p hp => by
      by_cases hl : l = 0
      · simp [hl] at hp; subst hp; simp
      · simp [hl, hno] at hp)
    (fun b hb => by rw [if_neg (by omega)])
    (fun b hb x hx => by
      by_cases he : b = w.heap.size
      · subst he; simp at hx; exact ⟨hx.symm, by simp⟩
      · rw [if_neg he, h.O_new hb] at hx; cases hx)
    ⟨w.heap.size, 0, #[], by simp, by simp, heap_alloc_new w _, rfl, fun i k v b hh => by simp at hh⟩
  exact ⟨_, this.1, this.2, _, rfl, by simp⟩

/-- ONE OPERATION. -/
theorem oper_sim {call : CallT} {K : IMap} (hcall : CallSim P K call) {F : Fence} (hF : Wide F) {ops : Array Oper} {o : Oper} {io : IOper} (hc : cOper P an fn n ops.toList o = some io) {g : G} {S : Stack} {w : World} (hK : KIn K g) (he : EnvR g.I g.Ms n e a.tmps) (hr : Rel P g S w) {B0 : Nat → Prop} (hm : Marks B0 g.B a.defers)
    {out : OR} (hev : evOper call io e S = some out) {next : Act → World → Prop} {Q : Exit → Act → World → Prop}
    (hgo : ∀ e' S', out = .go e' S' → ∀ g' a' w', EnvR g'.I g'.Ms n e' a'.tmps → Rel P g' S' w' → Le S.length g g' w w' → Marks B0 g'.B a'.defers → next a' w')
    (hpan : ∀ v e' S', out = .pan v e' S' → ∀ g' w' x, EnvR g'.I g'.Ms n e' a.tmps → Rel P g' S' w' → Le S.length g g' w w' → Marks B0 g'.B a.defers → RV g'.I v g'.Ms x → Q (.panic [{ v := x, recovered := false }]) a w') :
    (if Region.wanted o (yielded ops a.tmps) then o.wpIn F 0 P a w next Q else next (a.put o.dst undef) w) := by
  unfold cOper at hc
  split at hc
  · rename_i op gd hop hgo'
    cases hd : dstOk o.dst n with
    | false => rw [hd] at hc; cases hc
    | true =>
      rw [hd] at hc
      cases hc
      have hdst : ∀ i, o.dst = some i → i < n := fun i hi => by rw [hi] at hd; simpa [dstOk] using hd
      rcases slotOp_cases an.sl o.dst op with hslot | ⟨d, z, hal, hslot⟩ | ⟨d, hal, hslot⟩
      rotate_left
      · -- a new object at a place that was kept
        unfold evOper at hev
        rw [hslot] at hev
        have hopal : ∃ tt, o.op = .alloc tt := by
          rw [hal] at hop
          exact cOp_alloc hop
        obtain ⟨tt, htt⟩ := hopal
        have hok : ∀ H S0 v H', S = H :: S0 → evOp e H (.allocA d z) = some (v, H') → out = .go (putD e o.dst v) (H' :: S0) → Region.wanted o (yielded ops a.tmps) = true →
            (if Region.wanted o (yielded ops a.tmps) then o.wpIn F 0 P a w next Q else next (a.put o.dst undef) w) := by
          rintro H S0 v H' rfl h1 h2 hw
          simp only [hw, if_true]
          refine ⟨fun f _ => hF.anyFn f, ?_⟩
          rw [Oper.semAt_eq _ _ _ (fun c hcc => by rw [htt] at hcc; cases hcc)]
          simp only [evOp] at h1
          split at h1
          · rename_i hid
            cases hb : Nat.ble d H.length with
            | false => rw [hb] at h1; cases h1
            | true =>
              rw [hb] at h1
              obtain ⟨rfl, rfl⟩ := ok_inv h1
              rw [hal, htt] at hop
              simp only [cOp] at hop
              split at hop
              · rename_i z' m _ h3 h4
                cases hb2 : Nat.beq z'.length m with
                | false => rw [hb2] at hop; cases hop
                | true =>
                  rw [hb2] at hop
                  cases hop
                  obtain ⟨M, Ms, hg⟩ := hr.Ms_cons
                  obtain ⟨i, zv, hi, hz, hrz⟩ := zeroCs_RV h3 g.I g.Ms
                  have hl := hrz.length
                  obtain ⟨g', k1, k2, M', k3, k4⟩ := Rel.allocSlot hg hr hid (c := zv.cells) tt (by rw [take_all _ hl]; exact hrz) (Nat.le_refl _) (by rw [← Array.length_toList]; omega)
                  have hrun : (execOp a.eval o).run P w = .ok (.value (.pointer (some ⟨w.heap.size, 0, none⟩))) (w.alloc (.cells zv.cells tt)) := by simp [execOp, htt, Instr.alloc, run_zeroValue hi hz, run_newVar]
                  rw [hrun, Oper.uponIn_value]
                  exact hgo _ _ h2 g' _ _ ((he.le k2).put ⟨M', Ms, _, _, k3, k4, rfl⟩ hdst) k1 k2 (by have := hm.le hr k2; cases o.dst <;> exact this)
              · cases hop
              · cases hop
          · cases h1
        have hwantS : ∀ b, guardA e gd = some b → Region.wanted o (yielded ops a.tmps) = b := fun b hb => want_of hgo' he hb
        split at hev
        · cases hev
        · rename_i hgd
          have := hwantS _ hgd
          rw [this]
          cases hev
          simp only [Bool.false_eq_true, if_false]
          exact hgo _ _ rfl g _ w (he.put (show RV g.I (.tuple []) g.Ms undef from ⟨#[], rfl, rfl⟩) hdst) hr (.refl _ _ _) (by cases o.dst <;> exact hm)
        · rename_i hgd
          have := hwantS _ hgd
          simp only at hev
          split at hev
          · cases hev
          · rename_i H S0
            split at hev
            · rename_i v H' hv
              cases hev
              exact hok H S0 v H' rfl hv rfl this
            · cases hev
      · -- a new map at a place that was kept
        unfold evOper at hev
        rw [hslot] at hev
        have hopal : ∃ tt r, o.op = .makeMap tt r := by
          have hop := hop
          rw [hal] at hop
          exact cOp_mkmap hop
        obtain ⟨tt, rr, htt⟩ := hopal
        have hok : ∀ H S0 v H', S = H :: S0 → evOp e H (.mapA d) = some (v, H') → out = .go (putD e o.dst v) (H' :: S0) → Region.wanted o (yielded ops a.tmps) = true →
            (if Region.wanted o (yielded ops a.tmps) then o.wpIn F 0 P a w next Q else next (a.put o.dst undef) w) := by
          rintro H S0 v H' rfl h1 h2 hw
          simp only [hw, if_true]
          refine ⟨fun f _ => hF.anyFn f, ?_⟩
          rw [Oper.semAt_eq _ _ _ (fun c hcc => by rw [htt] at hcc; cases hcc)]
          simp only [evOp] at h1
          split at h1
          · rename_i hid
            cases hb : Nat.ble d H.length with
            | false => rw [hb] at h1; cases h1
            | true =>
              rw [hb] at h1
              obtain ⟨rfl, rfl⟩ := ok_inv h1
              obtain ⟨M, Ms, hg⟩ := hr.Ms_cons
              obtain ⟨g', k1, k2, M', k3, k4⟩ := Rel.mapSlot hg hr hid
              rw [makeMap_run htt hop, Oper.uponIn_value]
              exact hgo _ _ h2 g' _ _ ((he.le k2).put ⟨M', Ms, _, _, k3, k4, rfl⟩ hdst) k1 k2 (by have := hm.le hr k2; cases o.dst <;> exact this)
          · cases h1
        have hwantS : ∀ b, guardA e gd = some b → Region.wanted o (yielded ops a.tmps) = b := fun b hb => want_of hgo' he hb
        split at hev
        · cases hev
        · rename_i hgd
          have := hwantS _ hgd
          rw [this]
          cases hev
          simp only [Bool.false_eq_true, if_false]
          exact hgo _ _ rfl g _ w (he.put (show RV g.I (.tuple []) g.Ms undef from ⟨#[], rfl, rfl⟩) hdst) hr (.refl _ _ _) (by cases o.dst <;> exact hm)
        · rename_i hgd
          have := hwantS _ hgd
          simp only at hev
          split at hev
          · cases hev
          · rename_i H S0
            split at hev
            · rename_i v H' hv
              cases hev
              exact hok H S0 v H' rfl hv rfl this
            · cases hev
      rw [hslot] at hev
      -- the guard
      have hwant : ∀ b, guardA e gd = some b → Region.wanted o (yielded ops a.tmps) = b := fun b hb => want_of hgo' he hb
      unfold evOper at hev
      split at hev
      · cases hev
      · rename_i hgd
        have := hwant _ hgd
        rw [this]
        cases hev
        simp only [Bool.false_eq_true, if_false]
        exact hgo _ _ rfl g _ w (he.put (show RV g.I (.tuple []) g.Ms undef from ⟨#[], rfl, rfl⟩) hdst) hr (.refl _ _ _) (by cases o.dst <;> exact hm)
      · rename_i hgd
        have := hwant _ hgd
        rw [this]
        simp only [if_true]
        refine ⟨fun f _ => hF.anyFn f, ?_⟩
        have hsem : ∀ (hnd : ∀ c, o.op ≠ .defer c), o.semAt F.round a.eval = execOp a.eval o := fun hnd => Oper.semAt_eq _ _ _ hnd
        have hnd : ∀ c, o.op ≠ .defer c := fun c hcc => by rw [hcc] at hop; cases hop
        rw [hsem hnd]
        have hnodepth : ∀ k, F.depth.isSome = true → 1 ≤ k := fun k hk => by rw [hF.depth] at hk; cases hk
        -- calls of function values
        have hcallop : ∀ {R : Ending → World → Prop} {f : Operand} {fv : Value} {c : Call}, o.op = .call c → c.callee = .value f → a.eval f = fv → DoesCall P fv (c.args.map a.eval) w R →
            (∀ en w', R en w' → (match (motive := Ending → World → Prop) en, w' with | .returned v, w'' => next (a.put o.dst v) w'' | .panicked chain, w'' => Q (.panic chain) a w'' | .outgrown, _ => LetsOut Q)) →
            o.uponIn F 0 P a next Q ((execOp a.eval o).run P w) := by
          intro R f fv c h1 h2 h3 hd hpost
          obtain ⟨ff, first, cap, rfl, e2⟩ := hd
          have hres := run_resolve_value (P := P) (a := a) (c := c) h2 h3 o.type w
          rcases e2 with ⟨k, args, i1, i2⟩ | ⟨l0, l, k, tmps, asg, body, rfl, i1, i2⟩
          · have hrun : (execOp a.eval o).run P w = .ok (.enter k args) w := by simp [execOp, h1, hres, i1]
            rw [hrun, Oper.uponIn_enter]
            exact ⟨hnodepth 0, (hF.calls i2).mono hpost⟩
          · have hrun : (execOp a.eval o).run P w = .ok (.round l k tmps asg body) w := by simp [execOp, h1, hres, i1]
            rw [hrun, Oper.uponIn_round]
            exact ⟨hnodepth 0, (hF.rounds i2).mono hpost⟩
        -- the rest of the operations
        have hother : ∀ {H : Heap} {S0 : Stack} {v : AV} {H' : Heap}, S = H :: S0 → evOp e H op = some (v, H') → out = .go (putD e o.dst v) (H' :: S0) → o.uponIn F 0 P a next Q ((execOp a.eval o).run P w) := by
          rintro H S0 v H' rfl h1 h2
          obtain ⟨g', w', x, k1, k2, k3, k4⟩ := op_sim (an := an) (fn := fn) (n := n) (o := o) he hr hop h1
          have hnext : next (a.put o.dst x) w' := hgo _ _ h2 g' _ w' ((he.le k3).put k4 hdst) k2 k3 (by have := hm.le hr k3; cases o.dst <;> exact this)
          rcases k1 with k1 | ⟨k1, rfl⟩
          · rw [k1, Oper.uponIn_value]; exact hnext
          · rw [k1, Oper.uponIn_skip]; exact hnext
        split at hev
        · -- panic
          rename_i x' hopeq
          split at hev
          · rename_i t v hx
            cases hev
            obtain ⟨x, ho, hx2⟩ : ∃ x, o.op = .panic x ∧ cO x = some x' := by
              rcases cOp_apart hop (by rw [show op = _ from hopeq]; rfl) with ⟨x, x2, h1, h2, h3⟩ | ⟨c, f, f', azs, h1, h2, h3, h4, h5⟩
              · cases (show op = _ from hopeq).symm.trans h3
                exact ⟨x, h1, h2⟩
              · rcases h5 with h5 | ⟨g, h5, h6⟩
                · cases (show op = _ from hopeq).symm.trans h5
                · rcases h6 with h6 | h6 | h6 <;> cases (show op = _ from hopeq).symm.trans h6
            have hp := cO_RV hx2 he
            rw [hx] at hp
            obtain ⟨y, r1, r2⟩ := hp
            have hrun : (execOp a.eval o).run P w = .halt (.panic (.iface t y)) w := by simp [execOp, ho, r1, Instr.panic]
            rw [hrun, Oper.uponIn_panic]
            exact hpan _ _ _ rfl g w (.iface t y) he hr (.refl _ _ _) hm ⟨y, rfl, r2⟩
          · cases hev
        · -- a pure call
          rename_i f azs hopeq
          cases hfr : hfrees (evs e azs) with
          | false => rw [hfr] at hev; cases hev
          | true =>
            rw [hfr] at hev
            simp only [cond_true] at hev
            obtain ⟨c, f0, h1, h2, h3, h4⟩ : ∃ c f0, o.op = .call c ∧ c.callee = .value f0 ∧ cO f0 = some (.c (.func (.func f) [] [])) ∧ mapO cO c.args.toList = some azs := by
              rcases cOp_apart hop (by rw [show op = _ from hopeq]; rfl) with ⟨x, x2, h1, h2, h3⟩ | ⟨c, f0, f', as', h1, h2, h3, h4, h5⟩
              · cases (show op = _ from hopeq).symm.trans h3
              · rcases h5 with h5 | ⟨g, h5, h6⟩
                · cases (show op = _ from hopeq).symm.trans h5
                · rcases h6 with h6 | h6 | h6
                  · cases (show op = _ from hopeq).symm.trans h6
                    subst h5
                    exact ⟨c, f0, h1, h2, h3, h4⟩
                  · cases (show op = _ from hopeq).symm.trans h6
                  · cases (show op = _ from hopeq).symm.trans h6
            split at hev
            · rename_i r H' hcl
              split at hev
              · rename_i r' hlv
                cases hrf : hfree r' with
                | false => rw [hrf] at hev; cases hev
                | true =>
                rw [hrf] at hev
                simp only [cond_true, Option.some.injEq] at hev
                have hr00 : Rel P { g with Ms := [], O := fun _ => none } [] w := ⟨trivial, fun b o hb => ⟨(hr.im b o hb).1, rfl, (hr.im b o hb).2.2⟩, fun _ _ h => (by cases h), hr.bm, fun _ _ _ h => (by cases h)⟩
                have hr0 : Rel P { g with Ms := [fun _ _ => none], O := fun _ => none } [[]] w := ⟨⟨fun id o ho => by simp at ho, fun id lim p hp => (by cases hp), trivial⟩, fun b o hb => ⟨(hr.im b o hb).1, rfl, (hr.im b o hb).2.2⟩, fun _ _ h => (by cases h), hr.bm, fun _ _ _ h => (by cases h)⟩
                have hfv : RV g.I (.func (.func f) [] []) [fun _ _ => none] (a.eval f0) := RV.free _ rfl (cO_RV h3 he)
                have := hcall hcl (by exact hK) hr0 hfv (RVs.free _ hfr (evs_RVs he h4))
                have hargs : (c.args.toList.map a.eval).toArray = c.args.map a.eval := by apply Array.ext'; simp
                rw [hargs] at this
                refine hcallop h1 h2 rfl this ?_
                rintro en w' ⟨g1, l1, l2, l3⟩
                cases en with
                | returned x =>
                  obtain ⟨g0, k1, k2, k3⟩ := Rel.leave hr00 l2 l1
                  have k3 := k3 l3 hlv
                  have hbig : ∀ b x, g.O b = some x → b < w.heap.size := fun b x hb => (hr.ow b x hb).1
                  have hle : Le S.length g { g0 with Ms := g.Ms, O := g.O } w w' := ⟨k2.os, k2.tape, k2.output, k2.size, .refl _, k2.im, fun _ _ => rfl, k2.oI, k2.oB, fun b hb _ => k2.frame b hb fun _ _ h => by cases h⟩
                  have hrel : Rel P { g0 with Ms := g.Ms, O := g.O } S w' := by
                    refine ⟨RelS.frame k2.im hr.rs (fun b l id hb _ => ⟨hb, k2.frame b (hbig b _ hb) fun _ _ h => by cases h⟩), fun b o hb => ⟨(k1.im b o hb).1, ?_, (k1.im b o hb).2.2⟩, fun b x hb => ⟨Nat.lt_of_lt_of_le (hbig b x hb) k2.size, fun hB => (hr.ow b x hb).2 ((k2.oB b (hbig b x hb)).1 hB)⟩, k1.bm, hr.lv⟩
                    cases hO : g.O b with
                    | none => rfl
                    | some x =>
                      have hlt := hbig b x hO
                      have := (hr.im b o ((k2.oI b hlt).symm.trans hb)).2.1
                      rw [hO] at this
                      cases this
                  exact hgo _ _ hev.symm _ _ w' ((he.le hle).put (RV.free _ hrf k3) hdst) hrel hle (by have := hm.le hr hle; cases o.dst <;> exact this)
                | panicked ch => exact l3.elim
                | outgrown => exact l3.elim
              · cases hev
            · cases hev
        · -- a call whose row goes on
          rename_i f azs hopeq
          split at hev
          · cases hev
          rename_i H0 S0
          cases hfr : hfrees (evs e azs) with
          | false => rw [hfr] at hev; cases hev
          | true =>
            rw [hfr] at hev
            simp only [cond_true] at hev
            obtain ⟨c, f0, h1, h2, h3, h4⟩ : ∃ c f0, o.op = .call c ∧ c.callee = .value f0 ∧ cO f0 = some (.c (.func (.func f) [] [])) ∧ mapO cO c.args.toList = some azs := by
              rcases cOp_apart hop (by rw [show op = _ from hopeq]; rfl) with ⟨x, x2, h1, h2, h3⟩ | ⟨c, f0, f', as', h1, h2, h3, h4, h5⟩
              · cases (show op = _ from hopeq).symm.trans h3
              · rcases h5 with h5 | ⟨g, h5, h6⟩
                · cases (show op = _ from hopeq).symm.trans h5
                · rcases h6 with h6 | h6 | h6
                  · cases (show op = _ from hopeq).symm.trans h6
                  · cases (show op = _ from hopeq).symm.trans h6
                  · cases (show op = _ from hopeq).symm.trans h6
                    subst h5
                    exact ⟨c, f0, h1, h2, h3, h4⟩
            split at hev
            · rename_i r H' hcl
              split at hev
              · rename_i r' H2 hfresh
                cases hev
                have hr00 : Rel P { g with Ms := [], O := fun _ => none } [] w := ⟨trivial, fun b o hb => ⟨(hr.im b o hb).1, rfl, (hr.im b o hb).2.2⟩, fun _ _ h => (by cases h), hr.bm, fun _ _ _ h => (by cases h)⟩
                have hr0 : Rel P { g with Ms := [fun _ _ => none], O := fun _ => none } [[]] w := ⟨⟨fun id o ho => by simp at ho, fun id lim p hp => (by cases hp), trivial⟩, fun b o hb => ⟨(hr.im b o hb).1, rfl, (hr.im b o hb).2.2⟩, fun _ _ h => (by cases h), hr.bm, fun _ _ _ h => (by cases h)⟩
                have hfv : RV g.I (.func (.func f) [] []) [fun _ _ => none] (a.eval f0) := RV.free _ rfl (cO_RV h3 he)
                have := hcall hcl (by exact hK) hr0 hfv (RVs.free _ hfr (evs_RVs he h4))
                have hargs : (c.args.toList.map a.eval).toArray = c.args.map a.eval := by apply Array.ext'; simp
                rw [hargs] at this
                refine hcallop h1 h2 rfl this ?_
                rintro en w' ⟨g1, l1, l2, l3⟩
                have hbig : ∀ b x, g.O b = some x → b < w.heap.size := fun b x hb => (hr.ow b x hb).1
                have hrelOf : ∀ g0 : G, Rel P g0 [] w' ∨ Rel P g0 [H'] w' → Le 0 { g with Ms := [], O := fun _ => none } g0 w w' ∨ Le 1 { g with Ms := [fun _ _ => none], O := fun _ => none } g0 w w' → Le (H0 :: S0).length g { g0 with Ms := g.Ms, O := g.O } w w' ∧ Rel P { g0 with Ms := g.Ms, O := g.O } (H0 :: S0) w' := by
                  intro g0 k1 k2
                  have k1im : ∀ b o, g0.I b = some o → w'.heap[b]? = some o ∧ g0.O b = none ∧ ¬ g0.B b := k1.elim (fun k => k.im) fun k => k.im
                  have k1bm : ∀ b, g0.B b → w'.heap[b]? = some (.deferred (some [])) := k1.elim (fun k => k.bm) fun k => k.bm
                  have k2im : ∀ b o, g.I b = some o → g0.I b = some o := k2.elim (fun k => k.im) fun k => k.im
                  have k2fr : ∀ b, b < w.heap.size → w'.heap[b]? = w.heap[b]? := k2.elim (fun k b hb => k.frame b hb fun _ _ h => by cases h) fun k b hb => k.frame b hb fun _ _ h => by cases h
                  have k2oI : ∀ b, b < w.heap.size → g0.I b = g.I b := k2.elim (fun k => k.oI) fun k => k.oI
                  have k2oB : ∀ b, b < w.heap.size → (g0.B b ↔ g.B b) := k2.elim (fun k => k.oB) fun k => k.oB
                  have k2s : w.heap.size ≤ w'.heap.size := k2.elim (fun k => k.size) fun k => k.size
                  refine ⟨⟨k2.elim (fun k => k.os) fun k => k.os, k2.elim (fun k => k.tape) fun k => k.tape, k2.elim (fun k => k.output) fun k => k.output, k2s, .refl _, k2im, fun _ _ => rfl, k2oI, k2oB, fun b hb _ => k2fr b hb⟩, ?_⟩
                  refine ⟨RelS.frame k2im hr.rs (fun b l id hb _ => ⟨hb, k2fr b (hbig b _ hb)⟩), fun b o hb => ⟨(k1im b o hb).1, ?_, (k1im b o hb).2.2⟩, fun b x hb => ⟨Nat.lt_of_lt_of_le (hbig b x hb) k2s, fun hB => (hr.ow b x hb).2 ((k2oB b (hbig b x hb)).1 hB)⟩, k1bm, hr.lv⟩
                  cases hO : g.O b with
                  | none => rfl
                  | some x =>
                    have hlt := hbig b x hO
                    have := (hr.im b o ((k2oI b hlt).symm.trans hb)).2.1
                    rw [hO] at this
                    cases this
                cases en with
                | returned x =>
                  unfold fresh at hfresh
                  split at hfresh
                  · rename_i id lim off es len cap ex
                    split at hfresh
                    · rename_i cs hid
                      cases hb : (Nat.beq cs.length lim && hfrees cs) with
                      | false => rw [hb] at hfresh; cases hfresh
                      | true =>
                      rw [hb] at hfresh
                      simp only [cond_true, Option.some.injEq, Prod.mk.injEq] at hfresh
                      obtain ⟨rfl, rfl⟩ := hfresh
                      simp only [Bool.and_eq_true] at hb
                      have b1 := Nat.eq_of_beq_eq_true hb.1
                      subst b1
                      obtain ⟨hle, hrel⟩ := hrelOf g1 (.inr l1) (.inr l2)
                      obtain ⟨M1, Ms1, blk, tot, ad, rcap, f1, f2, q1, q2, q3, q4, q5, q6⟩ := l3
                      have hrs1 := l1.rs
                      rw [f1] at hrs1
                      obtain ⟨blk', tot', c', e', p1, p2, p3, p4, p5, p7, p6⟩ := hrs1.1 id _ hid
                      rw [f2] at p1
                      cases p1
                      have hnew : w.heap.size ≤ blk := by
                        rcases Nat.lt_or_ge blk w.heap.size with hlt | hge
                        · have := l2.oO blk hlt
                          rw [p2] at this; cases this
                        · exact hge
                      have hOb : g.O blk = none := by
                        cases hO : g.O blk with
                        | none => rfl
                        | some x => have := hbig blk x hO; omega
                      have hIb : g1.I blk = none := by
                        cases hI : g1.I blk with
                        | none => rfl
                        | some x => have := (l1.im blk x hI).2.1; rw [p2] at this; cases this
                      obtain ⟨M0, Ms0, hg0⟩ := hr.Ms_cons
                      obtain ⟨M', m1, m2, m3⟩ := Rel.adopt (g := { g1 with Ms := g.Ms, O := g.O }) (M := M0) (Ms := Ms0) hg0 hrel hOb hIb (l1.ow blk _ p2).2 p3 p4 p5 (fun i v hv => by
                        obtain ⟨x, y1, y2, y3⟩ := p6 i v hv
                        exact ⟨x, y1, fun Ms' => RV.free _ (hfrees_get hb.2 hv) y2, y3⟩)
                      have hle2 : Le (H0 :: S0).length g { g1 with Ms := M' :: Ms0, O := fun b => if b = blk then some (S0.length, H0.length) else g.O b } w w' :=
                        ⟨hle.os, hle.tape, hle.output, hle.size, by rw [hg0]; exact ⟨m1, .refl _⟩, hle.im, fun b hb => if_neg (by omega), hle.oI, hle.oB, hle.frame⟩
                      exact hgo _ _ rfl _ _ w' ((he.le hle2).put ⟨M', Ms0, blk, tot, ad, rcap, rfl, m2, q1, q2, q3, q4, q5, q6⟩ hdst) m3 hle2 (by have := hm.le hr hle2; cases o.dst <;> exact this)
                    · cases hfresh
                  · split at hfresh
                    · rename_i r2 hlv
                      cases hrf : hfree r2 with
                      | false => rw [hrf] at hfresh; cases hfresh
                      | true =>
                        rw [hrf] at hfresh
                        simp only [cond_true, Option.some.injEq, Prod.mk.injEq] at hfresh
                        obtain ⟨rfl, rfl⟩ := hfresh
                        obtain ⟨g0, k1, k2, k3⟩ := Rel.leave hr00 l2 l1
                        obtain ⟨hle, hrel⟩ := hrelOf g0 (.inl k1) (.inl k2)
                        exact hgo _ _ rfl _ _ w' ((he.le hle).put (RV.free _ hrf (k3 l3 hlv)) hdst) hrel hle (by have := hm.le hr hle; cases o.dst <;> exact this)
                    · cases hfresh
                | panicked ch => exact l3.elim
                | outgrown => exact l3.elim
              · cases hev
            · cases hev
        · -- a call that is shown what there is
          rename_i f azs hopeq
          obtain ⟨c, f0, h1, h2, h3, h4⟩ : ∃ c f0, o.op = .call c ∧ c.callee = .value f0 ∧ cO f0 = some (.c (.func (.func f) [] [])) ∧ mapO cO c.args.toList = some azs := by
            rcases cOp_apart hop (by rw [show op = _ from hopeq]; rfl) with ⟨x, x2, h1, h2, h3⟩ | ⟨c, f0, f', as', h1, h2, h3, h4, h5⟩
            · cases (show op = _ from hopeq).symm.trans h3
            · rcases h5 with h5 | ⟨g, h5, h6⟩
              · cases (show op = _ from hopeq).symm.trans h5
              · rcases h6 with h6 | h6 | h6
                · cases (show op = _ from hopeq).symm.trans h6
                · cases (show op = _ from hopeq).symm.trans h6
                  subst h5
                  exact ⟨c, f0, h1, h2, h3, h4⟩
                · cases (show op = _ from hopeq).symm.trans h6
          split at hev
          · cases hev
          · rename_i H S0
            split at hev
            · rename_i vs hvs
              cases hfr : hfrees vs with
              | false => rw [hfr] at hev; cases hev
              | true =>
                rw [hfr] at hev
                simp only [cond_true] at hev
                split at hev
                · rename_i r hcl
                  cases hrf : scal r with
                  | false => rw [hrf] at hev; cases hev
                  | true =>
                    rw [hrf] at hev
                    simp only [cond_true, Option.some.injEq] at hev
                    obtain ⟨hr0, hsn⟩ := hr.snap
                    have hfv : RV (snapI g S0.length w) (.func (.func f) [] []) [] (a.eval f0) := RV.scal_func (cO_RV h3 he)
                    have hav : ∀ (l : List AV) (l' : List AV) (xs : List Value), mapO (leave H) l = some l' → hfrees l' = true → RVs g.I l g.Ms false xs → RVs (snapI g S0.length w) l' [] false xs := by
                      intro l
                      induction l with
                      | nil => intro l' xs e1 _ e3; cases e1; exact e3
                      | cons v r ih =>
                        intro l' xs e1 e2 e3
                        simp only [mapO] at e1
                        split at e1
                        · rename_i v' r' f1 f2
                          cases e1
                          simp only [hfrees, Bool.and_eq_true] at e2
                          obtain ⟨x, xs', rfl, q1, q2, q3⟩ := e3
                          exact ⟨x, xs', rfl, hsn q1 f1 e2.1, q2, ih r' xs' f2 e2.2 q3⟩
                        · cases e1
                    have := hcall hcl (fun b o hb => by show snapI g S0.length w b = some o; simp only [snapI, (hr.im b o (hK b o hb)).2.1]; exact hK b o hb) hr0 hfv (hav _ _ _ hvs hfr (evs_RVs he h4))
                    have hargs : (c.args.toList.map a.eval).toArray = c.args.map a.eval := by apply Array.ext'; simp
                    rw [hargs] at this
                    refine hcallop h1 h2 rfl this ?_
                    rintro en w' ⟨g0, k1, k2, k3⟩
                    cases en with
                    | returned x =>
                      have hbig : ∀ b x, g.O b = some x → b < w.heap.size := fun b x hb => (hr.ow b x hb).1
                      let I2 : IMap := fun b => match g.O b with
                        | some _ => none
                        | none => g0.I b
                      have hI2n : ∀ b, g.O b = none → I2 b = g0.I b := fun b hb => by show (match g.O b with | some _ => none | none => g0.I b) = _; rw [hb]
                      have hI2s : ∀ b y, g.O b = some y → I2 b = none := fun b y hb => by show (match g.O b with | some _ => none | none => g0.I b) = _; rw [hb]
                      have hold : ∀ b, b < w.heap.size → I2 b = g.I b := fun b hb => by
                        cases hO : g.O b with
                        | none =>
                          rw [hI2n b hO, k2.oI b hb]
                          show snapI g S0.length w b = g.I b
                          simp only [snapI, hO]
                        | some y =>
                          rw [hI2s b y hO]
                          cases hI : g.I b with
                          | none => rfl
                          | some o2 =>
                            have := (hr.im b o2 hI).2.1
                            rw [hO] at this; cases this
                      have him : ∀ b o2, g.I b = some o2 → I2 b = some o2 := fun b o2 hb => by
                        have h7 := (hr.im b o2 hb).2.1
                        rw [hI2n b h7]
                        exact k2.im b o2 (show snapI g S0.length w b = some o2 by simp only [snapI, h7]; exact hb)
                      have hle : Le (H :: S0).length g { g0 with Ms := g.Ms, O := g.O, I := I2 } w w' := ⟨k2.os, k2.tape, k2.output, k2.size, .refl _, him, fun _ _ => rfl, hold, k2.oB, fun b hb _ => k2.frame b hb fun _ _ h => by cases h⟩
                      have hrel : Rel P { g0 with Ms := g.Ms, O := g.O, I := I2 } (H :: S0) w' := by
                        refine ⟨RelS.frame him hr.rs (fun b l id hb _ => ⟨hb, k2.frame b (hbig b _ hb) fun _ _ h => by cases h⟩), fun b o2 hb => ?_, fun b x hb => ⟨Nat.lt_of_lt_of_le (hbig b x hb) k2.size, fun hB => (hr.ow b x hb).2 ((k2.oB b (hbig b x hb)).1 hB)⟩, k1.bm, hr.lv⟩
                        cases hO : g.O b with
                        | none =>
                          have hb2 : g0.I b = some o2 := by rw [← hI2n b hO]; exact hb
                          exact ⟨(k1.im b o2 hb2).1, rfl, (k1.im b o2 hb2).2.2⟩
                        | some y =>
                          have hb2 : I2 b = some o2 := hb
                          rw [hI2s b y hO] at hb2
                          cases hb2
                      exact hgo _ _ hev.symm _ _ w' ((he.le hle).put (RV.scal _ hrf k3) hdst) hrel hle (by have := hm.le hr hle; cases o.dst <;> exact this)
                    | panicked ch => exact k3.elim
                    | outgrown => exact k3.elim
                · cases hev
            · cases hev
        · -- a call
          rename_i f azs hopeq
          obtain ⟨c, f0, h1, h2, h3, h4⟩ : ∃ c f0, o.op = .call c ∧ c.callee = .value f0 ∧ cO f0 = some f ∧ mapO cO c.args.toList = some azs := by
            rcases cOp_apart hop (by rw [show op = _ from hopeq]; rfl) with ⟨x, x2, h1, h2, h3⟩ | ⟨c, f0, f', as', h1, h2, h3, h4, h5⟩
            · cases (show op = _ from hopeq).symm.trans h3
            · rcases h5 with h5 | ⟨g, h5, h6⟩
              · cases (show op = _ from hopeq).symm.trans h5
                exact ⟨c, f0, h1, h2, h3, h4⟩
              · rcases h6 with h6 | h6 | h6 <;> cases (show op = _ from hopeq).symm.trans h6
          have hev' : afterCall e o.dst (call (f.ev e) (evs e azs) S) = some out := hev
          cases hcl : call (f.ev e) (evs e azs) S with
          | none => rw [hcl] at hev'; cases hev'
          | some rs =>
            obtain ⟨r, S'⟩ := rs
            rw [hcl] at hev'
            have hS' : ∃ H1 S1, S' = H1 :: S1 := by
              cases S' with
              | nil => cases r <;> cases hev'
              | cons H1 S1 => exact ⟨H1, S1, rfl⟩
            obtain ⟨H1, S1, rfl⟩ := hS'
            have := hcall hcl hK hr (cO_RV h3 he) (evs_RVs he h4)
            have hargs : (c.args.toList.map a.eval).toArray = c.args.map a.eval := by apply Array.ext'; simp
            rw [hargs] at this
            refine hcallop h1 h2 rfl this ?_
            rintro en w' ⟨g', k1, k2, k3⟩
            cases r with
            | ret v =>
              cases en with
              | returned x =>
                simp only [afterCall, Option.some.injEq] at hev'
                exact hgo _ _ hev'.symm g' _ w' ((he.le k2).put k3 hdst) k1 k2 (by have := hm.le hr k2; cases o.dst <;> exact this)
              | panicked ch => exact k3.elim
              | outgrown => exact k3.elim
            | pan v =>
              cases en with
              | returned x => exact k3.elim
              | panicked ch =>
                obtain ⟨x, rfl, k3⟩ := k3
                simp only [afterCall, Option.some.injEq] at hev'
                exact hpan _ _ _ hev'.symm g' w' x (he.le k2) k1 k2 (hm.le hr k2) k3
              | outgrown => exact k3.elim
        · split at hev
          · cases hev
          · rename_i H S0
            split at hev
            · rename_i v H' h1
              exact hother rfl h1 (Option.some.inj hev).symm
            · cases hev
  · cases hc
end
end Go.AS

/-
  Operations apart. By an AI agent.
-/
namespace Go.AS
open Go
set_option maxHeartbeats 4000000

theorem evs_env {e e' : Env} : ∀ {l : List Opd}, (∀ x ∈ l, x.ev e = x.ev e') → evs e l = evs e' l
  | [], _ => rfl
  | x :: r, h => by simp only [evs, h x (by simp), evs_env (l := r) fun y hy => h y (by simp [hy])]

theorem fillA_env {e e' : Env} : ∀ {l : List (Nat × Nat × Opd)} {cs : List AV}, (∀ x ∈ l.map (·.2.2), x.ev e = x.ev e') → fillA e cs l = fillA e' cs l
  | [], _, _ => rfl
  | (off, n, x) :: r, cs, h => by
    simp only [fillA, h x (by simp)]
    cases cellsOf (x.ev e') with
    | none => rfl
    | some vs =>
      simp only
      rw [fillA_env (l := r) fun y hy => h y (by simp only [List.map_cons, List.mem_cons]; exact .inr hy)]

theorem bnd_env {e e' : Env} {x : Opd} {m : Nat} (h : x.ev e = x.ev e') : bnd x e m = bnd x e' m := by simp only [bnd, h]
theorem cutHi_env {e e' : Env} {x : Option Opd} {m k : Nat} (h : ∀ y ∈ optO x, y.ev e = y.ev e') : cutHi x e m k = cutHi x e' m k := by
  cases x with
  | none => rfl
  | some y => exact bnd_env (h y (by simp [optO]))
theorem cutLo_env {e e' : Env} {x : Option Opd} {m : Nat} (h : ∀ y ∈ optO x, y.ev e = y.ev e') : cutLo x e m = cutLo x e' m := by
  cases x with
  | none => rfl
  | some y => exact bnd_env (h y (by simp [optO]))
theorem cut_env {e e' : Env} {x y : Option Opd} {m k : Nat} (h : ∀ z ∈ optO x, z.ev e = z.ev e') (h2 : ∀ z ∈ optO y, z.ev e = z.ev e') : cut x y e m k = cut x y e' m k := by
  simp only [cut, cutHi_env h2, cutLo_env h]
theorem cut3_env {e e' : Env} {x y : Option Opd} {z : Opd} {m : Nat} (h : ∀ z ∈ optO x, z.ev e = z.ev e') (h2 : ∀ z ∈ optO y, z.ev e = z.ev e') (h3 : z.ev e = z.ev e') : cut3 x y z e m = cut3 x y z e' m := by
  unfold cut3
  rw [bnd_env h3]
  cases bnd z e' m with
  | none => rfl
  | some k =>
    cases y with
    | none => rfl
    | some y => simp only [bnd_env (h2 y (by simp [optO])), cutLo_env h]

theorem evOp_env {e e' : Env} {H : Heap} {op : IOp} (h : ∀ x ∈ opds op, x.ev e = x.ev e') : evOp e H op = evOp e' H op := by
  cases op
  case build zero ps => simp only [evOp, fillA_env (e := e) (e' := e') (l := ps) h]
  case bsl mt es len zero ps => simp only [evOp, fillA_env (e := e) (e' := e') (l := ps) h]
  case mkfn fn xs ys => simp only [evOp, evs_env (e := e) (e' := e') (l := xs) fun x hx => h x (by simp [opds, hx]), evs_env (e := e) (e' := e') (l := ys) fun x hx => h x (by simp [opds, hx])]
  case minmax mx xs => simp only [evOp, evs_env (e := e) (e' := e') (l := xs) h]
  case sub es x a b c =>
    have h0 := h x (by simp [opds])
    have h1 : ∀ z ∈ optO a, z.ev e = z.ev e' := fun z hz => h z (by simp [opds, hz])
    have h2 : ∀ z ∈ optO b, z.ev e = z.ev e' := fun z hz => h z (by simp [opds, hz])
    have h3 : ∀ z ∈ optO c, z.ev e = z.ev e' := fun z hz => h z (by simp [opds, hz])
    cases c with
    | none => simp only [evOp, h0, cut_env h1 h2]
    | some c => simp only [evOp, h0, cut3_env h1 h2 (h3 c (by simp [optO]))]
  case suba n es x a b c =>
    have h0 := h x (by simp [opds])
    have h1 : ∀ z ∈ optO a, z.ev e = z.ev e' := fun z hz => h z (by simp [opds, hz])
    have h2 : ∀ z ∈ optO b, z.ev e = z.ev e' := fun z hz => h z (by simp [opds, hz])
    simp only [evOp, h0, cut_env h1 h2]
  case subs x a b =>
    have h0 := h x (by simp [opds])
    have h1 : ∀ z ∈ optO a, z.ev e = z.ev e' := fun z hz => h z (by simp [opds, hz])
    have h2 : ∀ z ∈ optO b, z.ev e = z.ev e' := fun z hz => h z (by simp [opds, hz])
    simp only [evOp, h0, cut_env h1 h2]
  case alloc => rfl
  case mkmap => rfl
  case panic => rfl
  case callp => rfl
  case calls => rfl
  case diff x y => have h1 := h x (by simp [opds]); have h2 := h y (by simp [opds]); simp only [evOp, h1, h2]
  case call => rfl
  all_goals
    simp only [opds, List.mem_cons, List.not_mem_nil, or_false, forall_eq_or_imp, forall_eq] at h
    simp only [evOp, h]

theorem mapFst {α β : Type} {x : Option α} {H H' : β} {v : α} (h : x.map (·, H) = some (v, H')) : H' = H ∧ x = some v := by
  cases x with
  | none => cases h
  | some y => cases h; exact ⟨rfl, rfl⟩

theorem evOp_0' {e : Env} {H : Heap} {op : IOp} (hc : classOf op = 0) : evOp e H op = (evOp e [] op).map fun p => (p.1, H) := by
  cases op
  case bsl mt es len zero ps =>
    cases mt with
    | true => cases hc
    | false => simp only [evOp]; cases fillA e (repl zero len) ps <;> rfl
  case sub es x a b c =>
    cases c with
    | none =>
      simp only [evOp]
      split
      · simp only [Bool.cond_eq_ite]; split <;> (try rfl); cases cut a b e _ _ <;> rfl
      · simp only [Bool.cond_eq_ite]; split <;> (try rfl); cases cut a b e _ _ <;> rfl
      · rfl
    | some c =>
      simp only [evOp]
      split
      · simp only [Bool.cond_eq_ite]; split <;> (try rfl); cases cut3 a b c e _ <;> rfl
      · simp only [Bool.cond_eq_ite]; split <;> (try rfl); cases cut3 a b c e _ <;> rfl
      · rfl
  all_goals first
    | (cases hc; done)
    | rfl
    | (simp only [evOp, Option.map_map]; rfl)
    | skip
  all_goals
    simp only [evOp, ok, Bool.cond_eq_ite]
    repeat' split
    all_goals first
      | rfl
      | (simp only [Option.map_map]; rfl)
      | (split <;> first | rfl | (simp only [Option.map_map]; rfl))
      | skip

/-- An operation that looks at no memory. -/
theorem evOp_0 {e : Env} {H H' : Heap} {op : IOp} {v : AV} (hc : classOf op = 0) (h : evOp e H op = some (v, H')) : H' = H ∧ ∀ H2, evOp e H2 op = some (v, H2) := by
  rw [evOp_0' hc] at h
  simp only [Option.map_eq_some_iff, Prod.mk.injEq] at h
  obtain ⟨p, h1, rfl, rfl⟩ := h
  exact ⟨rfl, fun H2 => by rw [evOp_0' hc, h1]; rfl⟩

theorem evOp_1 {e : Env} {H H' : Heap} {op : IOp} {v : AV} (hc : classOf op = 1) (h : evOp e H op = some (v, H')) : H' = H := by
  cases op
  case bsl mt es len zero ps => cases mt <;> cases hc
  all_goals first
    | (cases hc; done)
    | skip
  all_goals
    simp only [evOp, ok, Bool.cond_eq_ite] at h
    repeat' split at h
    all_goals first
      | (cases h; done)
      | (cases h; rfl)
      | exact (mapFst h).1
      | (simp only [Option.map_eq_some_iff, Prod.mk.injEq] at h; obtain ⟨_, _, _, rfl⟩ := h; rfl)
      | skip

/-! ### Environments that bear the same -/
def Same (e e' : Env) : Prop := ∀ i, Env.get e i = Env.get e' i

theorem Same.ev {e e' : Env} (h : Same e e') (x : Opd) : x.ev e = x.ev e' := by
  cases x with
  | t i => exact h i
  | c v => rfl

theorem ev_agree {e e' : Env} {l : List Opd} (h : ∀ t ∈ opdTs l, Env.get e t = Env.get e' t) : ∀ x ∈ l, x.ev e = x.ev e' := by
  induction l with
  | nil => intro x hx; cases hx
  | cons y r ih =>
    intro x hx
    rcases List.mem_cons.1 hx with rfl | hx
    · cases x with
      | t i => exact h i (by simp [opdTs])
      | c v => rfl
    · refine ih (fun t ht => h t ?_) x hx
      cases y with
      | t i => simp [opdTs, ht]
      | c v => exact ht

theorem get_putD (e : Env) (d : Option Nat) (v : AV) (j : Nat) : Env.get (putD e d v) j = if d = some j then v else Env.get e j := by
  cases d with
  | none => simp [putD]
  | some i =>
    simp only [putD, Env.get_set, Option.some.injEq]
    by_cases h : j = i
    · subst h; simp
    · rw [if_neg h, if_neg (Ne.symm h)]

/-- An operation that goes through puts one value, and looks at its own operands alone. -/
theorem evOper_shape {call : CallT} {io : IOper} {e e1 : Env} {S S1 : Stack} (h : evOper call io e S = some (.go e1 S1)) :
    ∃ v, e1 = putD e io.dst v ∧ (S ≠ [] → S1 ≠ []) ∧ (∀ e2, (∀ t ∈ looks io, Env.get e2 t = Env.get e t) → evOper call io e2 S = some (.go (putD e2 io.dst v) S1)) ∧
      (classOf io.op = 0 → S1 = S ∧ ∀ S2, S2 ≠ [] → evOper call io e S2 = some (.go (putD e io.dst v) S2)) ∧ (classOf io.op = 1 → S1 = S) := by
  have hg : ∀ e2, (∀ t ∈ looks io, Env.get e2 t = Env.get e t) → guardA e2 io.guard = guardA e io.guard := fun e2 h2 => by
    cases hgd : io.guard with
    | none => rfl
    | some p =>
      obtain ⟨j, want⟩ := p
      simp only [guardA, h2 j (by simp [looks, hgd, optD])]
  have ha : ∀ e2, (∀ t ∈ looks io, Env.get e2 t = Env.get e t) → ∀ x ∈ opds io.op, x.ev e2 = x.ev e := fun e2 h2 => ev_agree fun t ht => h2 t (by simp [looks, ht])
  unfold evOper at h
  split at h
  · cases h
  · rename_i hgd
    cases h
    exact ⟨.tuple [], rfl, id, fun e2 h2 => by unfold evOper; rw [hg e2 h2, hgd], fun _ => ⟨rfl, fun S2 _ => by unfold evOper; rw [hgd]⟩, fun _ => rfl⟩
  · rename_i hgd
    split at h
    · split at h <;> cases h
    · rename_i f azs hop
      cases hf : hfrees (evs e azs) with
      | false => rw [hf] at h; cases h
      | true =>
        rw [hf] at h
        simp only [cond_true] at h
        split at h
        · rename_i r H1 hcl
          split at h
          · rename_i r' hlv
            cases hr : hfree r' with
            | false => rw [hr] at h; cases h
            | true =>
              rw [hr] at h
              simp only [cond_true, Option.some.injEq, OR.go.injEq] at h
              obtain ⟨rfl, rfl⟩ := h
              refine ⟨r', rfl, id, fun e2 h2 => ?_, fun _ => ⟨rfl, fun S2 _ => ?_⟩, fun hc => (by rw [hop] at hc)⟩
              · unfold evOper
                rw [hg e2 h2, hgd]
                have : evs e2 azs = evs e azs := evs_env fun x hx => ha e2 h2 x (by rw [hop]; exact hx)
                simp only [hop, this, hf, hcl, hlv, hr, cond_true]
              · unfold evOper
                simp only [hgd, hop, hf, hcl, hlv, hr, cond_true]
          · cases h
        · cases h
    · rename_i f azs hop
      split at h
      · cases h
      · rename_i H S0
        cases hf : hfrees (evs e azs) with
        | false => rw [hf] at h; cases h
        | true =>
          rw [hf] at h
          simp only [cond_true] at h
          split at h
          · rename_i r H1 hcl
            split at h
            · rename_i r' H2 hfr
              simp only [Option.some.injEq, OR.go.injEq] at h
              obtain ⟨rfl, rfl⟩ := h
              refine ⟨r', rfl, fun _ => by simp, fun e2 h2 => ?_, fun hc => (by rw [hop] at hc; cases hc), fun hc => (by rw [hop] at hc; cases hc)⟩
              unfold evOper
              rw [hg e2 h2, hgd]
              have : evs e2 azs = evs e azs := evs_env fun x hx => ha e2 h2 x (by rw [hop]; exact hx)
              simp only [hop, this, hf, hcl, hfr, cond_true]
            · cases h
          · cases h
    · rename_i f azs hop
      split at h
      · cases h
      · rename_i H S0
        split at h
        · rename_i vs hvs
          cases hf : hfrees vs with
          | false => rw [hf] at h; cases h
          | true =>
            rw [hf] at h
            simp only [cond_true] at h
            split at h
            · rename_i r hcl
              cases hr : scal r with
              | false => rw [hr] at h; cases h
              | true =>
                rw [hr] at h
                simp only [cond_true, Option.some.injEq, OR.go.injEq] at h
                obtain ⟨rfl, rfl⟩ := h
                refine ⟨r, rfl, id, fun e2 h2 => ?_, fun hc => (by rw [hop] at hc; cases hc), fun hc => (by rw [hop] at hc)⟩
                unfold evOper
                rw [hg e2 h2, hgd]
                have : evs e2 azs = evs e azs := evs_env fun x hx => ha e2 h2 x (by rw [hop]; exact hx)
                simp only [hop, this, hvs, hf, hcl, hr, cond_true]
            · cases h
        · cases h
    · rename_i f azs hop
      have hcl' : afterCall e io.dst (call (f.ev e) (evs e azs) S) = some (.go e1 S1) := h
      cases hcl : call (f.ev e) (evs e azs) S with
      | none => rw [hcl] at hcl'; cases hcl'
      | some p =>
        obtain ⟨r, S'⟩ := p
        rw [hcl] at hcl'
        cases S' with
        | nil => cases r <;> cases hcl'
        | cons H' S' =>
          cases r with
          | pan v => cases hcl'
          | ret r =>
            simp only [afterCall, Option.some.injEq, OR.go.injEq] at hcl'
            obtain ⟨rfl, rfl⟩ := hcl'
            refine ⟨r, rfl, fun _ => by simp, fun e2 h2 => ?_, fun hc => (by rw [hop] at hc; cases hc), fun hc => (by rw [hop] at hc; cases hc)⟩
            unfold evOper
            rw [hg e2 h2, hgd]
            have h1 : evs e2 azs = evs e azs := evs_env fun x hx => ha e2 h2 x (by rw [hop]; exact List.mem_cons_of_mem _ hx)
            have h3 : f.ev e2 = f.ev e := ha e2 h2 f (by rw [hop]; exact List.mem_cons_self ..)
            simp only [hop, h1, h3, hcl, afterCall]
    · rename_i op _ _ _ _
      split at h
      · cases h
      · rename_i H S0
        split at h
        · rename_i v H' hv
          simp only [Option.some.injEq, OR.go.injEq] at h
          obtain ⟨rfl, rfl⟩ := h
          have hin : ∀ e2 H2 S2 H2', evOp e2 H2 io.op = some (v, H2') → guardA e2 io.guard = some true → evOper call io e2 (H2 :: S2) = some (.go (putD e2 io.dst v) (H2' :: S2)) := fun e2 H2 S2 H2' h1 h2 => by
            unfold evOper
            rw [h2]
            simp only [h1]
          refine ⟨v, rfl, fun _ => by simp, fun e2 h2 => ?_, fun hc => ?_, fun hc => ?_⟩
          · exact hin e2 H S0 H' ((evOp_env (ha e2 h2)).trans hv) ((hg e2 h2).trans hgd)
          · have := evOp_0 hc hv
            obtain ⟨rfl, h2⟩ := this
            refine ⟨rfl, fun S2 hS2 => ?_⟩
            cases S2 with
            | nil => exact absurd rfl hS2
            | cons H2 S2 => exact hin e H2 S2 H2 (h2 H2) hgd
          · rw [evOp_1 hc hv]
        · cases h
end Go.AS
