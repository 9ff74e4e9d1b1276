import Derived.Test.YtfffeogjnmalkaaDoorProg
import Derived.KernelRfl
import Derived.Test.YtfffeogjnmalkaaDoorRd0
import Derived.Test.YtfffeogjnmalkaaDoorRn0
import Derived.Test.YtfffeogjnmalkaaDoorTr1
import Derived.Test.YtfffeogjnmalkaaDoorTr9
set_option linter.all false
namespace Go.AS.Tr
open Go Go.AS Go.Proofs Go.ChangeShapes Go.WideShapes Go.ChangeAt Go.RowKit
set_option maxRecDepth 100000
def okI (n : Int) : Prop := -9223372036854775808 ≤ n ∧ n ≤ 9223372036854775807
def okS (s : Str) : Prop := s.length ≤ maxLen
def okL {α : Type} (ok : α → Prop) (s : Sl α) : Prop := (s.nil = true → s.l = []) ∧ s.l.length ≤ maxLen ∧ ∀ a ∈ s.l, ok a
theorem rC_int : RdC Tryd.prog 3 Int okI := rd_int Tryd.underlying3 (by kernel_rfl)
theorem rA_int : RdA Tryd.prog 3 Int okI := rdA_one rC_int (fun d h => by rw [Tryd.underlying3] at h; cases h; trivial)
theorem rC_What : RdC Tryd.prog 33 UInt8 (fun _ => True) := rd_u8 Tryd.underlying33 (by kernel_rfl)
theorem rA_What : RdA Tryd.prog 33 UInt8 (fun _ => True) := rdA_one rC_What (fun d h => by rw [Tryd.underlying33] at h; cases h; trivial)
theorem rC_Errno : RdC Tryd.prog 24 Int okI := rd_int Tryd.underlying24 (by kernel_rfl)
def okMv (x : Mv) : Prop := okI x.who ∧ True ∧ okI x.node ∧ okI x.ver ∧ okI x.err ∧ True
theorem rC_Move : RdC Tryd.prog 35 Mv okMv :=
  rd_struct (β := Int × UInt8 × Int × Int × Int × Unit) (rdP_cons rC_int (rdP_cons rC_What (rdP_cons rC_int (rdP_cons rC_int (rdP_cons rC_Errno rdP_nil rfl rfl) rfl rfl) rfl rfl) rfl rfl) rfl rfl) Tryd.underlying35 (by kernel_rfl) rfl (fun b => ⟨b.1, b.2.1, b.2.2.1, b.2.2.2.1, b.2.2.2.2.1⟩) (fun _ => rfl) (by exact fun _ h => h)
theorem rC_LMove : RdC Tryd.prog 22 (Sl Mv) (okL okMv) := rd_slice rC_Move Tryd.underlying22 (by kernel_rfl) (by decide)
theorem rA_LMove : RdA Tryd.prog 22 (Sl Mv) (okL okMv) := rdA_one rC_LMove (fun d h => by rw [Tryd.underlying22] at h; cases h; trivial)
theorem rC_string : RdC Tryd.prog 9 Str okS := rd_str Tryd.underlying9 (by kernel_rfl)
theorem rA_string : RdA Tryd.prog 9 Str okS := rdA_one rC_string (fun d h => by rw [Tryd.underlying9] at h; cases h; trivial)
end Go.AS.Tr

/-
  TraceForth: its arguments. By an AI agent.
-/
namespace Go.AS.Tr
open Go Go.AS Go.Proofs Go.ChangeShapes Go.WideShapes Go.ChangeAt Go.RowKit
set_option maxRecDepth 100000
theorem law_args (b : Str × Unit) (h : okS b.1 ∧ True) :
    Gives (funsOf Tryd.prog ann) 4 (Args.avs b) (.bool true) :=
  forth_gives b.1 (Nat.le_trans h.1 (by decide))
end Go.AS.Tr
