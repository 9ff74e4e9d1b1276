import Derived.Test.YtefnpnokbanbkaaFt4
import Derived.Test.YtefnpnokbanbkaaRd0
set_option linter.all false
namespace Go.AS.Ft
open Go Go.AS Go.Proofs Go.ChangeShapes Go.WideShapes Go.ChangeAt Go.RowKit
set_option maxRecDepth 100000
theorem rA_ints : RdA Try.prog 22 (Sl Int) (fun s => (s.nil = true → s.l = []) ∧ s.l.length ≤ maxLen ∧ ∀ a ∈ s.l, -9223372036854775808 ≤ a ∧ a ≤ 9223372036854775807) :=
  rdA_one (rd_slice (rd_int Try.underlying3 (by kernel_rfl)) Try.underlying22 (by kernel_rfl) (by decide)) (fun d h => by rw [Try.underlying22] at h; cases h; trivial)
theorem rA_int : RdA Try.prog 3 Int (fun n => -9223372036854775808 ≤ n ∧ n ≤ 9223372036854775807) :=
  rdA_one (rd_int Try.underlying3 (by kernel_rfl)) (fun d h => by rw [Try.underlying3] at h; cases h; trivial)
theorem law_args (b : Sl Int × Sl Int × Int × Unit) (h : ((b.1.nil = true → b.1.l = []) ∧ b.1.l.length ≤ maxLen ∧ ∀ a ∈ b.1.l, -9223372036854775808 ≤ a ∧ a ≤ 9223372036854775807) ∧
    ((b.2.1.nil = true → b.2.1.l = []) ∧ b.2.1.l.length ≤ maxLen ∧ ∀ a ∈ b.2.1.l, -9223372036854775808 ≤ a ∧ a ≤ 9223372036854775807) ∧ (-9223372036854775808 ≤ b.2.2.1 ∧ b.2.2.1 ≤ 9223372036854775807) ∧ True) :
    Gives (funsOf Try.prog ann) 4 (Args.avs b) (.bool true) := by
  obtain ⟨⟨n1, l1⟩, ⟨n2, l2⟩, k, u⟩ := b
  obtain ⟨⟨h1, h2, _⟩, ⟨h3, h4, _⟩, ⟨h5, h6⟩, _⟩ := h
  have hm : maxLen ≤ 9223372036854775807 := by decide
  exact law n1 n2 l1 l2 k h1 (Nat.le_trans h2 hm) (Nat.le_trans h4 hm) h6
end Go.AS.Ft
