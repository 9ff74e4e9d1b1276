/-
  Operation by operation (14): maps. By an AI agent.
-/
import Derived.Test.YtefnpnokbanbkaaAs16
set_option linter.all false
namespace Go.AS
open Go
section
variable {P : Program} {an : Ann} {fn : Nat} {g : G} {H H' : Heap} {S : Stack} {w : World} {n : Nat} {e : Env} {a : Act} {iop : IOp} {v : AV} {o : Oper} {M : MMap} {Ms : List MMap}

theorem zeroOf_RV {P : Program} {t : TypeId} {z : AV} (h : zeroOf P t = some z) (I : IMap) (Ms : List MMap) : ∃ zv, (∀ w, (zeroValue t).run P w = .ok zv w) ∧ RV I z Ms zv := by
  simp only [zeroOf, Option.bind_eq_some_iff] at h
  obtain ⟨x, ⟨i, h1, h2⟩, h3⟩ := h
  exact ⟨x, fun w => run_zeroValue h1 h2, cV_RV 20 _ _ h3⟩

theorem findKey_none {kt : TypeId} {d : TypeDesc} {x : Value} {l : List MapEntry} (hd : P.underlying kt = some d) (h : Instr.findNow d x l 0 = some none) : (Instr.findKey kt x l).run P w = .ok none w := by
  simp [Instr.findKey, run_underlying' hd, h]
theorem findKey_some {kt : TypeId} {d : TypeDesc} {x : Value} {l : List MapEntry} {r : Nat × Value} (hd : P.underlying kt = some d) (h : Instr.findNow d x l 0 = some (some r)) : (Instr.findKey kt x l).run P w = .ok (some r) w := by
  simp [Instr.findKey, run_underlying' hd, h]

theorem sim_lookup {t : TypeId} {m k : Operand} {cm : Bool} (ho : o.op = .lookup t m k cm) : Goal P an fn g H S w n e a o := by
  intro iop v H' he h hc hv
  rw [ho] at hc
  simp only [cOp] at hc
  split at hc
  · rename_i kt el hu
    split at hc
    · rename_i kk z m' k' hkk hz hm hk
      cases hc
      have hp := cO_RV hm he
      have hq := cO_RV hk he
      obtain ⟨d, hd⟩ := kindOf_some hkk
      obtain ⟨zv, hz1, hz2⟩ := zeroOf_RV hz g.I g.Ms
      simp only [evOp] at hv
      cases hkok : keyOk kk (k'.ev e) with
      | false => rw [hkok] at hv; cases hv
      | true =>
        rw [hkok] at hv
        simp only [Bool.not_true, cond_false] at hv
        have hck : ∀ b (v : Value), (Instr.checkKey b 10000 kt v).run P w = .ok () w := fun b v => checkKey_run hkk b 9999 v
        have habs : ∀ x : Value, (if cm then RV g.I (.tuple [z, .bool false]) g.Ms (.tuple #[zv, .bool false]) else RV g.I z g.Ms zv) := fun _ => by
          cases cm
          · exact hz2
          · exact ⟨_, rfl, zv, [.bool false], rfl, hz2, (fun h => by cases h), .bool false, [], rfl, rfl, (fun h => by cases h), rfl⟩
        have hyes : ∀ (u : AV) (y : Value), RV g.I u g.Ms y → RV g.I (bif cm then .tuple [u, .bool true] else u) g.Ms (if cm then .tuple #[y, .bool true] else y) := fun u y hy => by
          cases cm
          · exact hy
          · exact ⟨_, rfl, y, [.bool true], rfl, hy, (fun h => by cases h), .bool true, [], rfl, rfl, (fun h => by cases h), rfl⟩
        cases hme : m'.ev e with
        | nilmap =>
          rw [hme] at hv hp
          simp only at hv
          obtain ⟨rfl, rfl⟩ := ok_inv hv
          have r1 : a.eval m = .map none := hp
          refine .pure h (x := if cm then .tuple #[zv, .bool false] else zv) ?_ (by have := habs zv; cases cm <;> exact this)
          simp [execOp, ho, r1, Instr.lookup, run_underlying' hu, hck, findKey_none (w := w) (x := a.eval k) (l := []) hd rfl, hz1]
        | map id =>
          rw [hme] at hv hp
          simp only at hv
          split at hv
          · rename_i u b hfound
            split at hfound
            · rename_i es c hid
              obtain ⟨rfl, rfl⟩ := ok_inv hv
              obtain ⟨M, Ms, hg⟩ := h.Ms_cons
              obtain ⟨blk, es', r1, r2, _, r4, r5, r6⟩ := Rel.mapObj hg h hid hp
              have hf := findK_now hkk hd hq (es := es) (l := es'.toList) (i := 0) (by simpa using r5) (fun j k v b hj => by simpa using r6 j k v b hj) hfound
              obtain ⟨_, kk', y, q2, q3, q4, q5⟩ := hf
              obtain ⟨y2, s1, s2, s3, s4⟩ := r6 _ _ _ _ q2
              rw [Array.getElem?_toList] at q3
              rw [s1] at q3
              cases q3
              refine .pure h ?_ (hyes u y.val s3)
              simp [execOp, ho, r1, Instr.lookup, run_underlying' hu, hck, run_getMap r4, findKey_some (w := w) hd q4]
            · cases hfound
          · rename_i hfound
            split at hfound
            · rename_i es c hid
              obtain ⟨rfl, rfl⟩ := ok_inv hv
              obtain ⟨M, Ms, hg⟩ := h.Ms_cons
              obtain ⟨blk, es', r1, r2, _, r4, r5, r6⟩ := Rel.mapObj hg h hid hp
              have hf := findK_now hkk hd hq (es := es) (l := es'.toList) (i := 0) (by simpa using r5) (fun j k v b hj => by simpa using r6 j k v b hj) hfound
              refine .pure h (x := if cm then .tuple #[zv, .bool false] else zv) ?_ (by have := habs zv; cases cm <;> exact this)
              simp [execOp, ho, r1, Instr.lookup, run_underlying' hu, hck, run_getMap r4, findKey_none (w := w) hd hf, hz1]
            · cases hfound
          · cases hv
        | _ => rw [hme] at hv; cases hv
    · cases hc
  · cases hc

theorem sim_mapUpdate {t : TypeId} {m k x : Operand} (ho : o.op = .mapUpdate t m k x) : Goal P an fn g H S w n e a o := by
  intro iop v H' he h hc hv
  rw [ho] at hc
  simp only [cOp] at hc
  split at hc
  · rename_i kt el hu
    split at hc
    · rename_i kk m' k' x' hkk hm hk hx
      cases hc
      have hp := cO_RV hm he
      have hq := cO_RV hk he
      have hr := cO_RV hx he
      obtain ⟨d, hd⟩ := kindOf_some hkk
      simp only [evOp] at hv
      cases hkok : keyOk kk (k'.ev e) with
      | false => rw [hkok] at hv; cases hv
      | true =>
        rw [hkok] at hv
        simp only [Bool.not_true, cond_false] at hv
        have hck : ∀ b (v : Value), (Instr.checkKey b 10000 kt v).run P w = .ok () w := fun b v => checkKey_run hkk b 9999 v
        cases hme : m'.ev e with
        | map id =>
          rw [hme] at hv hp
          simp only at hv
          split at hv
          · rename_i es c hid
            obtain ⟨M, Ms, hg⟩ := h.Ms_cons
            obtain ⟨blk, es', r1, r2, ⟨tot, r3⟩, r4, r5, r6⟩ := Rel.mapObj hg h hid hp
            split at hv
            · rename_i i u b hfound
              obtain ⟨rfl, rfl⟩ := ok_inv hv
              have hf := findK_now hkk hd hq (es := es) (l := es'.toList) (i := 0) (by simpa using r5) (fun j k v b hj => by simpa using r6 j k v b hj) hfound
              obtain ⟨_, kk', y, q2, q3, q4, q5⟩ := hf
              rw [Nat.sub_zero] at q2 q3
              rw [Array.getElem?_toList] at q3
              obtain ⟨s1, s2⟩ := Rel.setMap (c2 := c) hg h hid r3 r2 (es2 := es.set i (k'.ev e, x'.ev e, b)) (es2' := es'.modify i fun e => { e with key := a.eval k, val := a.eval x }) (by simp [r5]) (fun j k v b' hj => by
                rw [List.getElem?_set] at hj
                rw [Array.getElem?_modify]
                by_cases hij : i = j
                · subst hij
                  rw [if_pos rfl] at hj ⊢
                  split at hj
                  · cases hj
                    obtain ⟨y2, t1, t2, t3, t4⟩ := r6 _ _ _ _ q2
                    exact ⟨{ y2 with key := a.eval k, val := a.eval x }, by rw [t1]; rfl, hq, hr, t4⟩
                  · cases hj
                · rw [if_neg hij] at hj ⊢
                  exact r6 j k v b' hj)
              refine ⟨g, _, undef, .inr ⟨?_, rfl⟩, s1, s2, trivial⟩
              simp [execOp, ho, r1, Instr.mapUpdate, run_underlying' hu, hck, run_getMap r4, findKey_some (w := w) hd q4, q3, Instr.keyThatStays, q5, run_setMap _ r4]
            · rename_i hfound
              obtain ⟨rfl, rfl⟩ := ok_inv hv
              have hf := findK_now hkk hd hq (es := es) (l := es'.toList) (i := 0) (by simpa using r5) (fun j k v b hj => by simpa using r6 j k v b hj) hfound
              obtain ⟨s1, s2⟩ := Rel.setMap (c2 := c + 1) hg h hid r3 r2 (es2 := es ++ [(k'.ev e, x'.ev e, c)]) (es2' := es'.push { key := a.eval k, val := a.eval x, born := c }) (by simp [r5]) (fun j k v b' hj => by
                rw [List.getElem?_append] at hj
                rw [Array.getElem?_push]
                by_cases hij : j < es.length
                · rw [if_pos hij] at hj
                  rw [if_neg (by omega)]
                  exact r6 j k v b' hj
                · rw [if_neg hij] at hj
                  have : j = es.length := by
                    have := (List.getElem?_eq_some_iff.1 hj).1
                    simp at this; omega
                  subst this
                  simp at hj
                  obtain ⟨rfl, rfl, rfl⟩ := hj
                  exact ⟨_, by rw [if_pos r5.symm], hq, hr, rfl⟩)
              refine ⟨g, _, undef, .inr ⟨?_, rfl⟩, s1, s2, trivial⟩
              simp [execOp, ho, r1, Instr.mapUpdate, run_underlying' hu, hck, run_getMap r4, findKey_none (w := w) hd hf, run_setMap _ r4]
            · cases hv
          · cases hv
        | _ => rw [hme] at hv; cases hv
    · cases hc
  · cases hc
end
end Go.AS
