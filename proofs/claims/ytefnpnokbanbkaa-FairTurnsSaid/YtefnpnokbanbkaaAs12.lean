/-
  Operation by operation (9): comparisons of plain values and structs; lengths; minima. By an AI agent.
-/
import Derived.Test.YtefnpnokbanbkaaAs11
set_option linter.all false
namespace Go.AS
open Go
section
variable {P : Program} {an : Ann} {fn : Nat} {g : G} {H H' : Heap} {S : Stack} {w : World} {n : Nat} {e : Env} {a : Act} {iop : IOp} {v : AV} {o : Oper} {M : MMap} {Ms : List MMap}

theorem primEq_run {I : IMap} {Ms : List MMap} {kk d : Nat} {t : TypeId} {x y : AV} {p q : Value} {b : Bool} (hk : kindOf P t = some kk) (hp : RV I x Ms p) (hq : RV I y Ms q) (h : primEq kk x y = some b) : (Op.equalIn (d + 1) t p q).run P w = .ok b w := by
  unfold primEq at h
  split at h
  · rename_i k m k' m'
    cases hb : ikEq k k' with
    | false => rw [hb] at h; cases h
    | true =>
      rw [hb] at h; cases h
      have := ikEq_iff.1 hb
      subst this
      rw [RV.int_inv hp, RV.int_inv hq]
      unfold kindOf at hk
      split at hk
      · rename_i k0 hu; exact run_equalIn_int w d t k k0 m m' hu
      all_goals simp at hk
  · rename_i s s'
    cases h
    obtain ⟨b1, rfl, rfl⟩ := RV.str_inv hp
    obtain ⟨b2, rfl, rfl⟩ := RV.str_inv hq
    unfold kindOf at hk
    split at hk
    · simp at hk
    · rename_i hu; rw [run_equalIn_string w d t b1 b2 hu, ByteArray.toList_eq, ByteArray.toList_eq]
    all_goals simp at hk
  · rename_i s s'
    cases h
    rw [RV.bool_inv hp, RV.bool_inv hq]
    unfold kindOf at hk
    split at hk
    · simp at hk
    · simp at hk
    · rename_i hu; exact run_equalIn_bool w d t s s' hu
    · simp at hk
  · cases h

theorem kind_isAgg {t : TypeId} {kk : Nat} (hk : kindOf P t = some kk) : aggN P t = some none := by
  unfold kindOf at hk
  split at hk
  · rename_i hu; simp [aggN, hu]
  · rename_i hu; simp [aggN, hu]
  · rename_i hu; simp [aggN, hu]
  · cases hk

theorem eqFields_run {I : IMap} {Ms : List MMap} {d : Nat} {xs ys : List AV} {p q : Array Value} (hp : RVs I xs Ms true p.toList) (hq : RVs I ys Ms true q.toList) :
    ∀ {fs : List Field} {offs : List (Nat × Nat)} {b : Bool}, eqOffs P fs = some offs → primEqs xs ys offs = some b → (Op.eqFields (d + 1) p q fs).run P w = .ok b w
  | [], offs, b, h1, h2 => by
    simp only [eqOffs, mapO, Option.some.injEq] at h1
    subst h1
    simp only [primEqs, Option.some.injEq] at h2
    subst h2
    rfl
  | f :: fs, _, b, h1, h2 => by
    obtain ⟨y, ys', rfl, e1, e2⟩ := mapO_cons h1
    cases hn : (f.name == "_") with
    | true => rw [hn] at e1; cases e1
    | false =>
      rw [hn] at e1
      simp only [cond_false, Option.map_eq_some_iff] at e1
      obtain ⟨kk, hk, rfl⟩ := e1
      have hne : f.name ≠ "_" := by simpa using hn
      simp only [primEqs] at h2
      split at h2
      · rename_i x' y' hx' hy'
        obtain ⟨u, hu1, hu2⟩ := part_one (w := w) (off := f.offset) (m := none) (kind_isAgg hk) hp hx'
        obtain ⟨z, hz1, hz2⟩ := part_one (w := w) (off := f.offset) (m := none) (kind_isAgg hk) hq hy'
        simp only [Op.eqFields]
        rw [if_pos hne]
        split at h2
        · rename_i hb
          simp only [Sem.run_bind, hu1, hz1, Result.andThen_ok, primEq_run hk hu2 hz2 hb]
          simp only [Bool.not_true, Bool.false_eq_true, if_false]
          exact eqFields_run hp hq e2 h2
        · rename_i hb
          cases h2
          simp only [Sem.run_bind, hu1, hz1, Result.andThen_ok, primEq_run hk hu2 hz2 hb]
          rfl
        · cases h2
      · cases h2

theorem guard_agg {ng : Bool} {t : TypeId} {x y : Operand} {p q : Array Value} (h : P.eqGuardType P.depth t = false) : (eqGuard (eqOp ng) t x y (.agg p) (.agg q)).run P w = .ok () w := by
  cases ng <;> simp [eqGuard, eqOp, h]
theorem bin_agg {t : TypeId} {p q : Array Value} (op : BinOp) : (op = .eql → binOp op t (.agg p) (.agg q) = do pure (.bool (← Op.equal t (.agg p) (.agg q)))) ∧ (op = .neq → binOp op t (.agg p) (.agg q) = do pure (.bool (!(← Op.equal t (.agg p) (.agg q))))) := by
  constructor <;> rintro rfl <;> simp only [binOp]

theorem sim_binOp {op : BinOp} {t yt : TypeId} {x y : Operand} (ho : o.op = .binOp op t x y yt) : Goal P an fn g H S w n e a o := by
  intro iop v H' he h hc hv
  rw [ho] at hc
  simp only [cOp, cBin] at hc
  have hbin : ∀ x' y', cO x = some x' → cO y = some y' → evOp e H (.bin op x' y') = some (v, H') → Does P g (H :: S) w (execOp a.eval o) v (H' :: S) := by
    intro x' y' hx hy hv
    have hp := cO_RV hx he
    have hq := cO_RV hy he
    simp only [evOp, Option.map_eq_some_iff, Prod.mk.injEq] at hv
    obtain ⟨v', hb, rfl, rfl⟩ := hv
    suffices hs : (do eqGuard op t x y (a.eval x) (a.eval y); binOp op t (a.eval x) (a.eval y) : Sem Value).run P w = .ok (toV v') w ∧ plain v' = true from
      .pure h (x := toV v') (by simp only [execOp, ho, Sem.run_bind] at hs ⊢; simp [hs.1]) (RV.toV hs.2 _ _)
    cases hxe : x'.ev e with
    | int k m =>
      cases hye : y'.ev e with
      | int k' m' =>
        rw [hxe] at hp hb
        rw [hye] at hq hb
        rw [RV.int_inv hp, RV.int_inv hq]
        have := bin_int (P := P) (w := w) op t k k' m m' hb
        exact ⟨by simp [run_eqGuard_int, this.1], this.2⟩
      | _ => rw [hxe, hye] at hb; simp [binA] at hb
    | str s =>
      cases hye : y'.ev e with
      | str s' =>
        rw [hxe] at hp hb
        rw [hye] at hq hb
        obtain ⟨b1, r1, rfl⟩ := RV.str_inv hp
        obtain ⟨b2, r2, rfl⟩ := RV.str_inv hq
        rw [r1, r2]
        have := bin_str (P := P) (w := w) op t b1 b2 hb
        exact ⟨by simp [run_eqGuard_str, this.1], this.2⟩
      | _ => rw [hxe, hye] at hb; simp [binA] at hb
    | _ => rw [hxe] at hb; simp [binA] at hb
  split at hc
  · rename_i x' y' hx hy
    have hp := cO_RV hx he
    have hq := cO_RV hy he
    split at hc
    · cases hc; exact hbin _ _ hx hy hv
    · cases hc; exact hbin _ _ hx hy hv
    · rename_i d _ _ hu
      obtain ⟨ng, hop, hc2⟩ : ∃ ng, op = eqOp ng ∧ cEq P t ng x y x' y' d = some iop := by
        split at hc
        · exact ⟨false, rfl, hc⟩
        · exact ⟨true, rfl, hc⟩
        · cases hc
      subst hop
      clear hc hbin
      unfold cEq at hc2
      have hen : ∀ k, evOp e H (.eqn k ng x' y') = some (v, H') → ∃ b, eqNil H k (x'.ev e) (y'.ev e) = some b ∧ v = .bool (bif ng then !b else b) ∧ H' = H := fun k hv => by
        simp only [evOp, Option.map_eq_some_iff, Prod.mk.injEq] at hv
        obtain ⟨b, h1, h2, h3⟩ := hv
        exact ⟨b, h1, h2.symm, h3.symm⟩
      cases d with
      | bool =>
        cases hc2
        simp only [evOp] at hv
        split at hv
        · rename_i b1 b2 hxe hye
          obtain ⟨rfl, rfl⟩ := ok_inv hv
          rw [hxe] at hp
          rw [hye] at hq
          have hs := eq_run (P := P) (w := w) (ng := ng) (t := t) (x := x) (y := y) (p := .bool b1) (q := .bool b2) guard_bool (run_equal_bool w t b1 b2 hu) bin_bool
          exact .pure h (x := .bool (bif ng then !(b1 == b2) else b1 == b2)) (by rw [← RV.bool_inv hp, ← RV.bool_inv hq] at hs; simp only [execOp, ho, Sem.run_bind] at hs ⊢; simp [hs]) rfl
        · cases hv
      | struct fs =>
        cases hgd : (P.eqGuardType P.depth t || P.stoodInHeld t) with
        | true => simp only [hgd] at hc2; cases hc2
        | false =>
          simp only [hgd, cond_false, Option.map_eq_some_iff] at hc2
          obtain ⟨offs, hoffs, rfl⟩ := hc2
          simp only [Bool.or_eq_false_iff] at hgd
          simp only [evOp] at hv
          split at hv
          · rename_i xs ys hxe hye
            simp only [Option.map_eq_some_iff, Prod.mk.injEq] at hv
            obtain ⟨b, hb, rfl, rfl⟩ := hv
            rw [hxe] at hp
            rw [hye] at hq
            obtain ⟨p, r1, hp'⟩ := hp
            obtain ⟨q, r2, hq'⟩ := hq
            have hfs : P.fieldsOf t = fs := by simp [Program.fieldsOf, hu]
            have heq : (Op.equal t (.agg p) (.agg q)).run P w = .ok b w := by
              rw [equal_eq, run_equalIn_struct w 9999 t p q (by rw [hfs]; exact hu) hgd.2, hfs]
              exact eqFields_run (d := 9998) hp' hq' hoffs hb
            have hs := eq_run (P := P) (w := w) (ng := ng) (t := t) (x := x) (y := y) (guard_agg hgd.1) heq bin_agg
            exact .pure h (x := .bool (bif ng then !b else b)) (by rw [← r1, ← r2] at hs; simp only [execOp, ho, Sem.run_bind] at hs ⊢; simp [hs]) rfl
          · cases hv
      | pointer el =>
        cases hz : ((sz P el).getD 0 == 0) with
        | true => simp only [hz] at hc2; cases hc2
        | false =>
          simp only [hz] at hc2
          cases hc2
          obtain ⟨b, h1, rfl, rfl⟩ := hen 0 hv
          have : ∃ m, sz P el = some (m + 1) := by
            cases hs : sz P el with
            | none => rw [hs] at hz; simp at hz
            | some m => rw [hs] at hz; cases m with
              | zero => simp at hz
              | succ m => exact ⟨m, rfl⟩
          obtain ⟨m, hm⟩ := this
          exact sim_eqn he h hx hy (.inl ⟨rfl, el, m, hu, hm⟩) h1 ho
      | slice el =>
        cases hc2
        obtain ⟨b, h1, rfl, rfl⟩ := hen 1 hv
        exact sim_eqn he h hx hy (.inr (.inl ⟨rfl, el, hu⟩)) h1 ho
      | map kt el =>
        cases hc2
        obtain ⟨b, h1, rfl, rfl⟩ := hen 2 hv
        exact sim_eqn he h hx hy (.inr (.inr (.inl ⟨rfl, kt, el, hu⟩))) h1 ho
      | func p r vd =>
        cases hc2
        obtain ⟨b, h1, rfl, rfl⟩ := hen 3 hv
        exact sim_eqn he h hx hy (.inr (.inr (.inr (.inl ⟨rfl, p, r, vd, hu⟩)))) h1 ho
      | interface ms =>
        cases hn : (nilC x || nilC y) with
        | false => simp only [hn] at hc2; cases hc2
        | true =>
          simp only [hn] at hc2
          cases hc2
          obtain ⟨b, h1, rfl, rfl⟩ := hen 4 hv
          exact sim_eqn he h hx hy (.inr (.inr (.inr (.inr ⟨rfl, ⟨ms, hu⟩, by simpa using hn⟩)))) h1 ho
      | _ => cases hc2
    · cases hc
  · cases hc
end
end Go.AS
