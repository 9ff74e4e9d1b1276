import Derived.Lib.SplitLaws
import Derived.Lib.Join
import Derived.Lib.Fields
import Derived.Lib.IndexBytes
import Derived.Lib.IndexMore
import Derived.Lib.ItoaNum
import Derived.Test.YtfffeogjnmalkaaDoorAs0
set_option linter.all false
/-
  The library's functions on texts: what is told of them is what the shelf says. Plain. By an AI agent.
-/
namespace Go.AS.Nb
open Go Go.AS
theorem spB_eq (b : UInt8) : spB b = Lib.isSp b := by
  have key : ∀ n : Fin 256, spB (UInt8.ofNat n.val) = Lib.isSp (UInt8.ofNat n.val) := by decide +kernel
  have := key ⟨b.toNat, b.toNat_lt⟩
  simpa using this
theorem fieldsL_eq : ∀ (l cur : List UInt8), fieldsL cur l = Lib.fieldsGo cur l
  | [], cur => by
    unfold fieldsL Lib.fieldsGo
    cases cur.isEmpty <;> rfl
  | b :: l, cur => by
    unfold fieldsL Lib.fieldsGo
    rw [spB_eq, fieldsL_eq l [], fieldsL_eq l (cur ++ [b])]
    cases Lib.isSp b <;> cases cur.isEmpty <;> rfl
theorem digL_eq : ∀ (k u : Nat), u < 10 ^ k → 1 ≤ k → digL k u = Lib.decDigits u
  | 0, _, _, h => by omega
  | k + 1, u, h, _ => by
    unfold digL
    rw [Lib.decDigits]
    by_cases hu : u < 10
    · have : Nat.blt u 10 = true := by rw [Nat.blt_eq]; exact hu
      rw [this, dif_pos hu]; rfl
    · have : Nat.blt u 10 = false := by
        cases hb : Nat.blt u 10 with
        | false => rfl
        | true => rw [Nat.blt_eq] at hb; exact absurd hb hu
      rw [this, dif_neg hu]
      have hk : 1 ≤ k := by
        rcases Nat.eq_zero_or_pos k with rfl | h'
        · simp at h; omega
        · exact h'
      have h2 : u / 10 < 10 ^ k := by
        rw [Nat.div_lt_iff_lt_mul (by omega)]
        rw [Nat.pow_succ] at h; exact h
      rw [digL_eq k (u / 10) h2 hk]; rfl
theorem itoaL_eq (n : Int) (h0 : -9223372036854775808 ≤ n) (h1 : n ≤ 9223372036854775807) : itoaL n = Lib.itoa n := by
  unfold itoaL Lib.itoa
  have e : (10 : Nat) ^ 20 = 100000000000000000000 := by decide
  by_cases h : n < 0
  · rw [if_pos h, decide_eq_true h, digL_eq 20 n.natAbs (by rw [e]; omega) (by decide)]; rfl
  · rw [if_neg h, decide_eq_false h, digL_eq 20 n.toNat (by rw [e]; omega) (by decide)]; rfl
theorem joinL_eq (sep : List UInt8) : ∀ l : List (List UInt8), joinL sep l = Lib.join l sep
  | [] => rfl
  | [x] => by rw [Lib.join_one]; rfl
  | x :: y :: r => by
    unfold joinL
    rw [joinL_eq sep (y :: r)]
    unfold Lib.join
    simp [List.intercalate, List.intersperse]
theorem cutL_eq (c : UInt8) : ∀ s : List UInt8, cutL c s = Lib.cut s [c]
  | [] => by simp [cutL, Lib.cut, Lib.index]
  | b :: l => by
    have ih := cutL_eq c l
    unfold Lib.cut at ih ⊢
    rw [Lib.index_one] at ih ⊢
    have hge := Lib.index_ge l [c]
    rw [Lib.index_one] at hge
    unfold cutL Lib.indexByte
    cases hb : b == c with
    | true => simp
    | false =>
      simp only [cond_false, Bool.false_eq_true, if_false]
      rw [ih]
      by_cases hi : Lib.indexByte l c = -1
      · simp [hi]
      · have h1 : (Lib.indexByte l c == -1) = false := by simpa using hi
        have h2 : 0 ≤ Lib.indexByte l c := by omega
        have h3 : 0 ≤ Lib.indexByte l c + 1 := by omega
        have h4 : (Lib.indexByte l c + 1).toNat = (Lib.indexByte l c).toNat + 1 := by omega
        simp only [h1, Bool.false_eq_true, if_false, if_pos h2, if_pos h3, h4, List.length_singleton, List.take_succ_cons, List.drop_succ_cons]
end Go.AS.Nb
