/-
  Operation by operation (11): append, copy. By an AI agent.
-/
import Derived.Test.YtefnpnokbanbkaaAs13
set_option linter.all false
namespace Go.AS
open Go
section
variable {P : Program} {an : Ann} {fn : Nat} {g : G} {H H' : Heap} {S : Stack} {w : World} {n : Nat} {e : Env} {a : Act} {iop : IOp} {v : AV} {o : Oper} {M : MMap} {Ms : List MMap}

theorem room_spec {bytes need cap : Nat} (h : room bytes need = true) (hc : cap < need) : need ≤ 9223372036854775807 ∧ Builtin.nextslicecap need cap * bytes ≤ 281474976710656 := by
  simp only [room, Bool.and_eq_true] at h
  have h1 := Nat.le_of_ble_eq_true h.1
  have h2 := Nat.le_of_ble_eq_true h.2
  unfold roomMost at h1
  refine ⟨by omega, ?_⟩
  have := nextslicecap_le hc
  have : Builtin.nextslicecap need cap * bytes ≤ (2 * need + 200) * bytes := Nat.mul_le_mul_right _ (by omega)
  omega

/-- What append comes to where it needs a new row. -/
theorem append_new {t u ty el : TypeId} {i : TypeInfo} {z : Value} (ht : P.underlying t = some (.slice el)) (hu : (∃ q, P.underlying u = some (.slice q)) ∨ P.underlying u = some .string) (hi : P.info? el = some i) (hz : i.zero = some z)
    {base : Option Addr} {len cap m : Nat} {x : Value} {olds news : List Value} (ho : (Builtin.firstCells i.size len (.slice base len cap)).run P w.drew = .ok olds.toArray w.drew) (hm : (Builtin.lenOf x).run P w = .ok m w) (hn : (Builtin.firstCells i.size m x).run P w.drew = .ok news.toArray w.drew)
    (hneed : cap < len + m) (h63 : len + m ≤ 9223372036854775807) (hfit : Builtin.nextslicecap (len + m) cap * i.bytes ≤ 281474976710656) :
    ∃ c, len + m ≤ c ∧ (Builtin.append_ #[t, u] ty #[.slice base len cap, x]).run P w = .ok (.slice (some ⟨w.heap.size, 0, none⟩) (len + m) c) (w.drew.alloc (.cells (olds.toArray ++ news.toArray ++ Builtin.zeroCells z.cells (c - (len + m))) el)) := by
  refine ⟨grownCap w (len + m) cap el, grownCap_ge _ _ _ _, ?_⟩
  have hn' : ¬ (len + m ≤ cap) := by omega
  have h63' : ¬ (9223372036854775807 < ((len : Int) + (m : Int))) := by omega
  have h48' : ¬ (281474976710656 < Builtin.nextslicecap (len + m) cap * i.bytes) := by omega
  have hmd : (Builtin.lenOf x).run P w = .ok m w := hm
  rcases hu with ⟨q, hu⟩ | hu
  · simp [Builtin.append_, run_underlying' ht, run_underlying' hu, sizeOf, typeInfo, zeroValue, hi, hz, hmd, hn', h63', h48', Question.forced, ho, hn, newRow, grownCap]
    congr 2
    apply Array.ext'
    simp [List.append_assoc]
  · simp [Builtin.append_, run_underlying' ht, run_underlying' hu, sizeOf, typeInfo, zeroValue, hi, hz, hmd, hn', h63', h48', Question.forced, ho, hn, newRow, grownCap]
    congr 2
    apply Array.ext'
    simp [List.append_assoc]

/-- What append comes to where there is room. -/
theorem append_room {t u ty el : TypeId} {i : TypeInfo} (ht : P.underlying t = some (.slice el)) (hu : (∃ q, P.underlying u = some (.slice q)) ∨ P.underlying u = some .string) (hi : P.info? el = some i)
    {base : Option Addr} {len cap m : Nat} {x : Value} {news : List Value} (hm : (Builtin.lenOf x).run P w = .ok m w) (hn : (Builtin.firstCells i.size m x).run P w = .ok news.toArray w)
    (hroom : len + m ≤ cap) {w' : World} (hst : (match base with | some ad => storeCells (ad.add (len * i.size)) news | none => pure ()).run P w = .ok () w') :
    (Builtin.append_ #[t, u] ty #[.slice base len cap, x]).run P w = .ok (.slice base (len + m) cap) w' := by
  rcases hu with ⟨q, hu⟩ | hu
  · cases base with
    | none =>
      simp only [Sem.run_pure, Result.ok.injEq, true_and] at hst
      subst hst
      simp [Builtin.append_, run_underlying' ht, run_underlying' hu, sizeOf, typeInfo, hi, hm, hn, hroom]
    | some ad =>
      simp only at hst
      simp [Builtin.append_, run_underlying' ht, run_underlying' hu, sizeOf, typeInfo, hi, hm, hn, hroom, hst]
  · cases base with
    | none =>
      simp only [Sem.run_pure, Result.ok.injEq, true_and] at hst
      subst hst
      simp [Builtin.append_, run_underlying' ht, run_underlying' hu, sizeOf, typeInfo, hi, hm, hn, hroom]
    | some ad =>
      simp only at hst
      simp [Builtin.append_, run_underlying' ht, run_underlying' hu, sizeOf, typeInfo, hi, hm, hn, hroom, hst]
end
end Go.AS
