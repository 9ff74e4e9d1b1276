import Derived.Test.YtefnpnokbanbkaaRn2
import Derived.Test.YtefnpnokbanbkaaAs19
import Derived.ChangeSlices
set_option linter.all false
namespace Go.AS
open Go

/-- Whole numbers, as a slice that nobody writes. -/
abbrev isl (nil : Bool) (l : List Int) : AV := .imm nil 1 l.length none (l.map (.int .i64 ·))
theorem cellsL_ints (l : List Int) : cellsL l = l.map (.int .i64 ·) := by
  induction l with
  | nil => rfl
  | cons a r ih => rw [cellsL_cons, ih]; rfl
theorem RV_sl_ints {I : IMap} {n : Bool} {l : List Int} {Ms : List MMap} {x : Value} (h : RV I (isl n l) Ms x) : RV I (sl n l) Ms x := by
  unfold sl
  rw [cellsL_ints]
  exact RV.imm0 h

/-- A slice of whole numbers that is read out of the memory stands for itself. -/
theorem RV_ints {W : World} {a : Addr} {len cap : Nat} {zs : List Int} (hl : len ≤ cap) (hz : zs.length = cap) (hc : ∀ i, i < zs.length → W.cell? (a.add i) = some (.int .i64 (zs.getD i 0))) :
    RV (fun b => W.heap[b]?) (isl false (zs.take len)) [] (.slice (some a) len cap) := by
  have hlen : (zs.take len).length = len := by simp; omega
  refine ⟨some a, cap, (zs.take len).map (.int .i64 ·), by rw [hlen], rfl, (fun h => by cases h), by rw [hlen]; exact hl, (fun c h => by cases h), by simp, ?_, fun hne => ?_⟩
  · generalize zs.take len = l
    induction l with
    | nil => rfl
    | cons x r ih => exact ⟨_, _, rfl, rfl, (fun _ => rfl), ih⟩
  · have hpos : 0 < len := by
      rcases Nat.eq_zero_or_pos len with h | h
      · subst h; simp at hne
      · exact h
    have h0 := hc 0 (by omega)
    obtain ⟨b, off, spot⟩ := a
    have hspot : spot = none := by simpa [Addr.add] using World.cell?_spot h0
    subst hspot
    simp only [Addr.add_none] at hc h0
    cases hb : W.heap[b]? with
    | none => simp [World.cell?, hb] at h0
    | some o =>
      cases o with
      | cells c e fz =>
        refine ⟨b, off, c, e, fz, rfl, hb, fun i y hy => ?_⟩
        rw [List.getElem?_map] at hy
        cases hg : (zs.take len)[i]? with
        | none => rw [hg] at hy; cases hy
        | some z =>
          rw [hg] at hy
          cases hy
          have hi : i < (zs.take len).length := (List.getElem?_eq_some_iff.1 hg).1
          have hi2 : i < len := by omega
          have := hc i (by omega)
          rw [List.getElem?_take, if_pos hi2] at hg
          simp only [World.cell?, hb] at this
          rw [List.getD_eq_getElem?_getD, hg] at this
          simpa using this
      | _ => simp [World.cell?, hb] at h0

theorem RV_ints_nil {I : IMap} : RV I (isl true []) [] (.slice none 0 0) :=
  ⟨none, 0, [], rfl, rfl, fun _ => ⟨rfl, rfl⟩, Nat.le_refl _, (fun c h => by cases h), rfl, rfl, fun h => absurd rfl h⟩
end Go.AS
