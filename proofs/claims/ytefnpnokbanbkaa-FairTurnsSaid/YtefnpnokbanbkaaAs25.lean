/-
  Functions: results, what leaves a level. By an AI agent.
-/
import Derived.Test.YtefnpnokbanbkaaAs24
set_option linter.all false
namespace Go.AS
open Go
set_option maxHeartbeats 1000000

section
variable {P : Program} {n : Nat} {g : G} {H : Heap} {S : Stack} {w : World} {e : Env} {tmps : Array Value}

theorem result_sim {r : ResultVar} {ir : IRes} (hc : cRes P n r = some ir) (he : EnvR g.I g.Ms n e tmps) (hr : Rel P g (H :: S) w) {v : AV} (h : resultA e H ir = some v) :
    ∃ x, ((match r with | .tmp t => pure (tmps.getD t undef) | .cell a t => do loadVar t (← asAddr (tmps.getD a undef))) : Sem Value).run P w = .ok x w ∧ RV g.I v g.Ms x := by
  cases r with
  | tmp t =>
    simp only [cRes] at hc
    cases hb : Nat.blt t n with
    | false => rw [hb] at hc; cases hc
    | true =>
      rw [hb] at hc
      cases hc
      simp only [resultA] at h
      have := he.2 t
      split at h
      · cases h
      · cases h
        exact ⟨_, rfl, this⟩
  | cell a t =>
    simp only [cRes, Option.map_eq_some_iff] at hc
    obtain ⟨m, h1, rfl⟩ := hc
    simp only [resultA] at h
    split at h
    · rename_i id lim off hget
      split at h
      · rename_i cs hid
        cases hb : Nat.beq cs.length lim with
        | false => rw [hb] at h; cases h
        | true =>
          rw [hb] at h
          have hlen := Nat.eq_of_beq_eq_true hb
          subst hlen
          have hx := he.2 a
          rw [hget] at hx
          obtain ⟨M, Ms, blk, tot, hMs, k1, k2⟩ := hx
          obtain ⟨blk', tot', c, el, j1, j2, j3, j4, j5, j6, j7⟩ := hr.cells hMs hid
          cases k1.symm.trans j1
          obtain ⟨x, q1, q2⟩ := load_one h1 j6 j7 h
          refine ⟨x, ?_, q2⟩
          simp only [k2, asAddr, Sem.run_bind, Sem.run_pure, Result.andThen_ok]
          rw [Nat.zero_add] at q1
          exact q1
      · cases h
    · cases h

theorem results_list : ∀ {l : List ResultVar} {rs : List IRes} {vs : List AV}, mapO (cRes P n) l = some rs → EnvR g.I g.Ms n e tmps → Rel P g (H :: S) w → mapO (resultA e H) rs = some vs →
    ∃ xs, (l.mapM fun | .tmp t => pure (tmps.getD t undef) | .cell a t => do loadVar t (← asAddr (tmps.getD a undef)) : Sem (List Value)).run P w = .ok xs w ∧ RVs g.I vs g.Ms false xs
  | [], rs, vs, hc, _, _, h => by
    simp only [mapO, Option.some.injEq] at hc
    subst hc
    simp only [mapO, Option.some.injEq] at h
    subst h
    exact ⟨[], rfl, rfl⟩
  | r :: l, rs, vs, hc, he, hr, h => by
    obtain ⟨ir, rs', rfl, c1, c2⟩ := mapO_cons hc
    obtain ⟨v, vs', rfl, h1, h2⟩ := mapO_cons h
    obtain ⟨x, k1, k2⟩ := result_sim c1 he hr h1
    obtain ⟨xs, j1, j2⟩ := results_list c2 he hr h2
    refine ⟨x :: xs, ?_, x, xs, rfl, k2, (fun h => by cases h), j2⟩
    simp only [List.mapM_cons, Sem.run_bind, j1, k1, Result.andThen_ok, Sem.run_pure]

theorem results_sim {f : Func} {rs : List IRes} (hc : mapO (cRes P n) f.results.toList = some rs) (he : EnvR g.I g.Ms n e tmps) (hr : Rel P g S w) {v : AV} (h : resultsA e S rs = some v) :
    ∃ x, (results f tmps).run P w = .ok x w ∧ RV g.I v g.Ms x := by
  cases S with
  | nil => cases h
  | cons H S =>
    simp only [resultsA] at h
    have hrun : ∀ vs, mapO (resultA e H) rs = some vs → ∃ xs : List Value, (results f tmps).run P w = .ok (if h : xs.toArray.size = 1 then xs.toArray[0] else .tuple xs.toArray) w ∧ RVs g.I vs g.Ms false xs := fun vs hvs => by
      obtain ⟨xs, h1, h2⟩ := results_list hc he hr hvs
      refine ⟨xs, ?_, h2⟩
      unfold results
      rw [Array.mapM_eq_mapM_toList]
      simp only [map_eq_pure_bind, Sem.run_bind, Sem.run_pure]
      exact congrArg (fun r : Result (List Value) => (r.andThen fun a w' => Result.ok a.toArray w').andThen fun a w' => Result.ok (if h : a.size = 1 then a[0] else Value.tuple a) w') h1
    split at h
    · rename_i u hvs
      cases h
      obtain ⟨xs, h1, x, xs', rfl, h2, _, h3⟩ := hrun _ hvs
      rw [show xs' = [] from h3] at h1
      exact ⟨_, h1, h2⟩
    · rename_i vs hne hvs
      cases h
      obtain ⟨xs, h1, h2⟩ := hrun _ hvs
      have hl := RVs.length _ h2
      have : ¬ xs.toArray.size = 1 := by
        simp only [List.size_toArray]
        intro h
        rw [h] at hl
        match vs, hl, hne with
        | [u], _, hne => exact hne u rfl
      rw [dif_neg this] at h1
      exact ⟨_, h1, _, rfl, h2⟩
    · cases h
end
end Go.AS
