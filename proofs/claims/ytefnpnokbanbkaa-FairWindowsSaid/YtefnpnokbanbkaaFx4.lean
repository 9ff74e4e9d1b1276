import Derived.Test.YtefnpnokbanbkaaFx3
import Derived.Test.YtefnpnokbanbkaaRn3
import Derived.Test.YtefnpnokbanbkaaAs29
import Derived.Test.YtefnpnokbanbkaaAs33
import Derived.Test.YtefnpnokbanbkaaRows
import Derived.WalkKit
set_option linter.all false
namespace Go.AS.Fw
open Go Go.Proofs Go.ChangeShapes Go.WideShapes Go.ChangeAt Go.RowKit
open Go.Proofs.Ytefnpnokbanbkaa
set_option maxRecDepth 100000

theorem mixed : Try.prog.follows .mixedOrders = true := by kernel_rfl
theorem laidOut : laidOutB Try.prog = true := by kernel_rfl
theorem own : ownKnob Try.prog.godebug = none := by kernel_rfl

theorem ints_RV {H : Type} {enc : TypeId × Value → H} {W : World} {b0 : Nat} {v : Value} {d : DataW H} {p : List MemPlace} (hval : Value.okWide Try.prog W .any b0 22 v) (h : DataW.Trod enc Try.prog W 0 (fun _ => true) true 22 v d p) :
    ∃ (n : Bool) (l : List Int), l.length ≤ 9223372036854775807 ∧ RV (fun b => W.heap[b]?) (sl n l) [] v := by
  obtain ⟨a, len, cap, rfl⟩ := okWide_slice Try.underlying22 hval
  obtain ⟨fuel, hf⟩ := h
  rcases open_ints Try.underlying22 Try.underlying3 (by kernel_rfl) hf with ⟨hc, _⟩ | ⟨a', len', cap', zs, hc, _, h1, h2, h3, _, h4, _⟩
  · simp [Value.cells] at hc
    obtain ⟨rfl, rfl, rfl⟩ := hc
    exact ⟨true, [], by simp, RV_sl_ints RV_ints_nil⟩
  · simp [Value.cells] at hc
    obtain ⟨rfl, rfl, rfl⟩ := hc
    refine ⟨false, zs.take len, ?_, RV_sl_ints (RV_ints h1 (by simpa using h3) h4)⟩
    have : maxLen ≤ 9223372036854775807 := by decide
    simp; omega

theorem contract (H : Type) (enc : TypeId × Value → H) (W : World) (base : Nat) (args : Array Value) (ds gs : List (DataW H)) (before : List MemPlace)
    (hval : ∀ (j : Nat) t v, Try.f3.params[j]? = some t → args[j]? = some v → Value.okWide Try.prog W .any base t v)
    (hW : DataW.Whole enc Try.prog Try.f3.params.toList Rows.fairWindowsSpec.vars false W args.toList ds gs before) :
    Calls Try.prog 3 args W fun e W' => ∃ v, e = .returned v ∧ Rows.fairWindowsSpec.post enc Try.prog Try.f3 false true false false W args v W' := by
  have hW' := hW
  obtain ⟨p, q, hA, hV, rfl, hfz, hnd⟩ := hW
  rw [Try.params3] at hA hval
  obtain ⟨v0, vs0, d0, ds0, p0, q0, hargs, rfl, rfl, h0, r0⟩ := trodAll_cons hA
  obtain ⟨v1, vs1, d1, ds1, p1, q1, rfl, rfl, rfl, h1, r1⟩ := trodAll_cons r0
  obtain ⟨v2, vs2, d2, ds2, p2, q2, rfl, rfl, rfl, h2, r2⟩ := trodAll_cons r1
  obtain ⟨rfl, rfl, rfl⟩ := trodAll_nil r2
  obtain rfl : args = #[v0, v1, v2] := by cases args; simp_all
  obtain ⟨n1, l1, hl1, rv1⟩ := ints_RV (hval 0 22 v0 rfl rfl) h0
  obtain ⟨n2, l2, hl2, rv2⟩ := ints_RV (hval 1 22 v1 rfl rfl) h1
  obtain ⟨k, rfl, _, _, hwf⟩ := open_int Try.underlying3 (hval 2 3 v2 rfl rfl) h2
  have hk := bounds_i64 hwf
  obtain ⟨fuel, hev⟩ := law n1 n2 l1 l2 k hl1 hl2 hk.2
  have hI : ∀ (b : Nat) (o : Obj), (fun b : Nat => W.heap[b]?) b = some o → W.heap[b]? = some o := fun b o h => h
  refine (calls_of mixed hev hI (xs := [v0, v1, .int .i64 k]) ⟨_, _, rfl, rv1, (fun h => by cases h), _, _, rfl, rv2, (fun h => by cases h), _, _, rfl, rfl, (fun h => by cases h), rfl⟩).mono ?_
  rintro e W' ⟨I', o1, o2, o3, o4, o5, _, _, o6⟩
  cases e with
  | panicked => exact o6.elim
  | outgrown => exact o6.elim
  | returned x =>
    have hx : x = .bool true := o6
    subst hx
    refine ⟨_, rfl, law_post laidOut ?_ rfl (by kernel_rfl) Try.underlying4 rfl rfl rfl hW' ⟨o1, o2, o3, o4, o5⟩⟩
    · rw [Try.params3]
      intro t ht
      simp at ht
      rcases ht with rfl | rfl
      · exact ⟨by kernel_rfl, of_decide_eq_true (by kernel_rfl)⟩
      · exact ⟨by kernel_rfl, of_decide_eq_true (by kernel_rfl)⟩
end Go.AS.Fw
