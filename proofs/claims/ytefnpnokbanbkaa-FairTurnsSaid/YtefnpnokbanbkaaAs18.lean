/-
  Operation by operation (15): all of them. By an AI agent.
-/
import Derived.Test.YtefnpnokbanbkaaAs17
set_option linter.all false
namespace Go.AS
open Go
section
variable {P : Program} {an : Ann} {fn : Nat} {g : G} {H H' : Heap} {S : Stack} {w : World} {n : Nat} {e : Env} {a : Act} {iop : IOp} {v : AV} {o : Oper} {M : MMap} {Ms : List MMap}

theorem bs_clear {t : TypeId} {ts : List TypeId} {x : Operand} : BGoal P g H S w n e a .clear (t :: ts) [x] := by
  intro iop v H' he h hc hv cs ty
  simp only [cBuiltin] at hc
  split at hc
  · rename_i kt el hu
    simp only [Option.map_eq_some_iff] at hc
    obtain ⟨x', hx, rfl⟩ := hc
    have hp := cO_RV hx he
    simp only [evOp] at hv
    split at hv
    · rename_i hxe
      obtain ⟨rfl, rfl⟩ := ok_inv hv
      rw [hxe] at hp
      have r1 : a.eval x = .map none := hp
      exact .pure h (x := .tuple #[]) (by simp [builtin, Builtin.clear_, r1, run_underlying' hu]) ⟨_, rfl, rfl⟩
    · rename_i id hxe
      split at hv
      · rename_i es c hid
        obtain ⟨rfl, rfl⟩ := ok_inv hv
        rw [hxe] at hp
        obtain ⟨M, Ms, hg⟩ := h.Ms_cons
        obtain ⟨blk, es', r1, r2, ⟨tot, r3⟩, r4, r5, r6⟩ := Rel.mapObj hg h hid hp
        obtain ⟨s1, s2⟩ := Rel.setMap (c2 := c) hg h hid r3 r2 (es2 := []) (es2' := #[]) rfl (fun j k v b hj => by simp at hj)
        exact ⟨g, _, .tuple #[], .inl (by simp [builtin, Builtin.clear_, r1, run_underlying' hu, run_getMap r4, run_setMap _ r4]), s1, s2, ⟨_, rfl, rfl⟩⟩
      · cases hv
    · cases hv
  · cases hc

theorem bs_delete {t : TypeId} {ts : List TypeId} {m k : Operand} : BGoal P g H S w n e a .delete (t :: ts) [m, k] := by
  intro iop v H' he h hc hv cs ty
  simp only [cBuiltin] at hc
  split at hc
  · rename_i kt el hu
    split at hc
    · rename_i kk m' k' hkk hm hk
      cases hc
      have hp := cO_RV hm he
      have hq := cO_RV hk he
      obtain ⟨d, hd⟩ := kindOf_some hkk
      simp only [evOp] at hv
      cases hkok : keyOk kk (k'.ev e) with
      | false => rw [hkok] at hv; cases hv
      | true =>
        rw [hkok] at hv
        simp only [Bool.not_true, cond_false] at hv
        have hck : ∀ b (v : Value), (Instr.checkKey b 10000 kt v).run P w = .ok () w := fun b v => checkKey_run hkk b 9999 v
        split at hv
        · rename_i hme
          obtain ⟨rfl, rfl⟩ := ok_inv hv
          rw [hme] at hp
          have r1 : a.eval m = .map none := hp
          exact .pure h (x := .tuple #[]) (by simp [builtin, Builtin.delete_, r1, run_underlying' hu, hck]) ⟨_, rfl, rfl⟩
        · rename_i id hme
          rw [hme] at hp
          split at hv
          · rename_i es c hid
            obtain ⟨M, Ms, hg⟩ := h.Ms_cons
            obtain ⟨blk, es', r1, r2, ⟨tot, r3⟩, r4, r5, r6⟩ := Rel.mapObj hg h hid hp
            split at hv
            · rename_i i u b hfound
              obtain ⟨rfl, rfl⟩ := ok_inv hv
              have hf := findK_now hkk hd hq (es := es) (l := es'.toList) (i := 0) (by simpa using r5) (fun j k v b hj => by simpa using r6 j k v b hj) hfound
              obtain ⟨_, kk', y, q2, q3, q4, q5⟩ := hf
              rw [Nat.sub_zero] at q2 q3
              have hilt := (List.getElem?_eq_some_iff.1 q2).1
              have htl : (es'.eraseIdxIfInBounds i).toList = es'.toList.eraseIdx i := by
                unfold Array.eraseIdxIfInBounds
                rw [dif_pos (by omega)]
                simp
              obtain ⟨s1, s2⟩ := Rel.setMap (c2 := c) hg h hid r3 r2 (es2 := es.eraseIdx i) (es2' := es'.eraseIdxIfInBounds i) (by
                  rw [← Array.length_toList, htl, List.length_eraseIdx, List.length_eraseIdx, Array.length_toList, r5]) (fun j k v b' hj => by
                rw [List.getElem?_eraseIdx] at hj
                rw [← Array.getElem?_toList]
                rw [htl, List.getElem?_eraseIdx]
                split at hj
                · rename_i hlt
                  rw [if_pos hlt, Array.getElem?_toList]
                  exact r6 j k v b' hj
                · rename_i hlt
                  rw [if_neg hlt, Array.getElem?_toList]
                  exact r6 (j + 1) k v b' hj)
              refine ⟨g, _, .tuple #[], .inl ?_, s1, s2, ⟨_, rfl, rfl⟩⟩
              simp [builtin, Builtin.delete_, r1, run_underlying' hu, hck, run_getMap r4, findKey_some (w := w) hd q4, run_setMap _ r4]
            · rename_i hfound
              obtain ⟨rfl, rfl⟩ := ok_inv hv
              have hf := findK_now hkk hd hq (es := es) (l := es'.toList) (i := 0) (by simpa using r5) (fun j k v b hj => by simpa using r6 j k v b hj) hfound
              obtain ⟨s1, s2⟩ := Rel.setMap (c2 := c) hg h hid r3 r2 (es2 := es) (es2' := es') r5 r6
              rw [set_same hid] at s1
              refine ⟨g, _, .tuple #[], .inl ?_, s1, s2, ⟨_, rfl, rfl⟩⟩
              simp [builtin, Builtin.delete_, r1, run_underlying' hu, hck, run_getMap r4, findKey_none (w := w) hd hf, run_setMap _ r4]
            · cases hv
          · cases hv
        · cases hv
    · cases hc
  · cases hc

theorem run_call_builtin {c : Call} {b : Builtin} (ho : o.op = .call c) (hb : c.callee = .builtin b) :
    ∃ cs, (execOp a.eval o).run P w = (builtin b c.argTypes o.type cs (c.args.map a.eval)).run P w := by
  refine ⟨c.args.map (fun x => match x with | .const _ => true | _ => false), ?_⟩
  simp only [execOp, ho, resolve, hb, Sem.run_bind, Sem.run_pure, Result.andThen_ok, invoke]
  congr 3

/-- EVERY OPERATION that calls no function. -/
theorem op_sim : Goal P an fn g H S w n e a o := by
  cases ho : o.op with
  | move x => exact sim_move ho
  | assign x => exact sim_assign ho
  | pick c x y => exact sim_pick ho
  | alloc t => exact sim_alloc ho
  | box t x => exact sim_box ho
  | build t ps => exact sim_build ho
  | buildSlice t l ps => exact sim_buildSlice ho
  | load t x => exact sim_load ho
  | store t x y => exact sim_store ho
  | nilCheck x => exact sim_nilCheck ho
  | binOp op t x y yt => exact sim_binOp ho
  | unOp op t x => exact sim_unOp ho
  | convert t u x => exact sim_convert ho
  | makeInterface t x => exact sim_mkif ho
  | makeFunc f fi ca => exact sim_mkfn ho
  | makeMap t r => exact sim_makeMap ho
  | makeSlice t l c => exact sim_makeSlice ho
  | slice t x lo hi mx => exact sim_slice ho
  | fieldAddr t x f => exact sim_fieldAddr ho
  | field t x f => exact sim_field ho
  | indexAddr t x i => exact sim_indexAddr ho
  | index t x i => exact sim_index ho
  | lookup t m k ok => exact sim_lookup ho
  | mapUpdate t m k x => exact sim_mapUpdate ho
  | extract x i => exact sim_extract ho
  | panic x =>
    intro iop v H' he h hc hv
    rw [ho] at hc
    simp only [cOp, Option.map_eq_some_iff] at hc
    obtain ⟨x', hx, rfl⟩ := hc
    cases hv
  | call c =>
    intro iop v H' he h hc hv
    rw [ho] at hc
    simp only [cOp] at hc
    cases hcal : c.callee with
    | builtin b =>
      rw [hcal] at hc
      simp only at hc
      have key : ∀ {b : Builtin} {ts : List TypeId} {as : List Operand}, BGoal P g H S w n e a b ts as → c.argTypes.toList = ts → c.args.toList = as → c.callee = .builtin b → cBuiltin P b ts as = some iop → Does P g (H :: S) w (execOp a.eval o) v (H' :: S) := by
        intro b ts as hb h1 h2 hb2 hc2
        obtain ⟨cs, hcs⟩ := run_call_builtin (P := P) (w := w) (a := a) ho hb2
        obtain ⟨g', w', x, r, k⟩ := hb he h hc2 hv cs o.type
        have e1 : ts.toArray = c.argTypes := by rw [← h1]
        have e2 : (as.map a.eval).toArray = c.args.map a.eval := by rw [← h2]; apply Array.ext'; simp
        rw [e1, e2, ← hcs] at r
        exact ⟨g', w', x, r, k⟩
      generalize hts : c.argTypes.toList = ts at hc
      generalize has : c.args.toList = as at hc
      have hc' := hc
      unfold cBuiltin at hc
      split at hc
      · exact key bs_append hts has hcal hc'
      · exact key bs_len hts has hcal hc'
      · exact key bs_cap hts has hcal hc'
      · exact key bs_min hts has hcal hc'
      · exact key bs_max hts has hcal hc'
      · exact key bs_copy hts has hcal hc'
      · exact key bs_clear hts has hcal hc'
      · exact key bs_delete hts has hcal hc'
      · cases hc
    | value f =>
      rw [hcal] at hc
      simp only at hc
      split at hc
      · cases hm : memN _ an.pure with
        | true => rw [hm] at hc; cases hc; cases hv
        | false =>
          rw [hm] at hc
          cases hm2 : memN _ an.snap with
          | true => rw [hm2] at hc; cases hc; cases hv
          | false => rw [hm2] at hc; cases hc; cases hv
      · cases hc; cases hv
      · cases hc
    | invoke r m => rw [hcal] at hc; cases hc
  | _ => intro iop v H' he h hc hv; rw [ho] at hc; cases hc
end
end Go.AS
