import Derived.Test.YtabbnfifidpmfaaProg
import Derived.KernelRfl
import Derived.Test.YtabbnfifidpmfaaRd0
import Derived.Test.YtabbnfifidpmfaaRn0
import Derived.Test.YtabbnfifidpmfaaTh20
set_option linter.all false
namespace Go.AS.Th
open Go Go.AS Go.Proofs Go.ChangeShapes Go.WideShapes Go.ChangeAt Go.RowKit
set_option maxRecDepth 100000
def okI (n : Int) : Prop := -9223372036854775808 ≤ n ∧ n ≤ 9223372036854775807
def okS (s : Str) : Prop := s.length ≤ maxLen
def okL {α : Type} (ok : α → Prop) (s : Sl α) : Prop := (s.nil = true → s.l = []) ∧ s.l.length ≤ maxLen ∧ ∀ a ∈ s.l, ok a
theorem rC_int : RdC Try.prog 3 Int okI := rd_int Try.underlying3 (by kernel_rfl)
theorem rA_int : RdA Try.prog 3 Int okI := rdA_one rC_int (fun d h => by rw [Try.underlying3] at h; cases h; trivial)
theorem rC_bool : RdC Try.prog 4 Bool (fun _ => True) := rd_bool Try.underlying4 (by kernel_rfl)
theorem rA_bool : RdA Try.prog 4 Bool (fun _ => True) := rdA_one rC_bool (fun d h => by rw [Try.underlying4] at h; cases h; trivial)
theorem rC_NodeKind : RdC Try.prog 77 UInt8 (fun _ => True) := rd_u8 Try.underlying77 (by kernel_rfl)
theorem rC_string : RdC Try.prog 9 Str okS := rd_str Try.underlying9 (by kernel_rfl)
theorem rC_Lstring : RdC Try.prog 78 (Sl Str) (okL okS) := rd_slice rC_string Try.underlying78 (by kernel_rfl) (by decide)
theorem rC_Lint : RdC Try.prog 39 (Sl Int) (okL okI) := rd_slice rC_int Try.underlying39 (by kernel_rfl) (by decide)
theorem rC_Kind : RdC Try.prog 59 UInt8 (fun _ => True) := rd_u8 Try.underlying59 (by kernel_rfl)
theorem rC_uint64 : RdC Try.prog 60 UInt64 (fun _ => True) := rd_u64 Try.underlying60 (by kernel_rfl)
def okMsg (x : Msg) : Prop := True ∧ okI x.seq ∧ okS x.key ∧ okS x.to ∧ okS x.value ∧ True ∧ True
theorem rC_Msg : RdC Try.prog 62 Msg okMsg :=
  rd_struct (β := UInt8 × Int × Str × Str × Str × UInt64 × Unit) (rdP_cons rC_Kind (rdP_cons rC_int (rdP_cons rC_string (rdP_cons rC_string (rdP_cons rC_string (rdP_cons rC_uint64 rdP_nil rfl rfl) rfl rfl) rfl rfl) rfl rfl) rfl rfl) rfl rfl) Try.underlying62 (by kernel_rfl) rfl (fun b => ⟨b.1, b.2.1, b.2.2.1, b.2.2.2.1, b.2.2.2.2.1, b.2.2.2.2.2.1⟩) (fun _ => rfl) (by exact fun _ h => h)
theorem rC_LMsg : RdC Try.prog 23 (Sl Msg) (okL okMsg) := rd_slice rC_Msg Try.underlying23 (by kernel_rfl) (by decide)
def okEnt (x : Ent) : Prop := okS x.key ∧ okS x.value ∧ True
theorem rC_Entry : RdC Try.prog 86 Ent okEnt :=
  rd_struct (β := Str × Str × Unit) (rdP_cons rC_string (rdP_cons rC_string rdP_nil rfl rfl) rfl rfl) Try.underlying86 (by kernel_rfl) rfl (fun b => ⟨b.1, b.2.1⟩) (fun _ => rfl) (by exact fun _ h => h)
theorem rC_LEntry : RdC Try.prog 27 (Sl Ent) (okL okEnt) := rd_slice rC_Entry Try.underlying27 (by kernel_rfl) (by decide)
theorem rC_LLEntry : RdC Try.prog 79 (Sl (Sl Ent)) (okL (okL okEnt)) := rd_slice rC_LEntry Try.underlying79 (by kernel_rfl) (by decide)
def okNd (x : Nd) : Prop := True ∧ (okL okS) x.pivots ∧ (okL okI) x.kids ∧ (okL okMsg) x.msgs ∧ (okL (okL okEnt)) x.blocks ∧ True
theorem rC_Node : RdC Try.prog 81 Nd okNd :=
  rd_struct (β := UInt8 × (Sl Str) × (Sl Int) × (Sl Msg) × (Sl (Sl Ent)) × Unit) (rdP_cons rC_NodeKind (rdP_cons rC_Lstring (rdP_cons rC_Lint (rdP_cons rC_LMsg (rdP_cons rC_LLEntry rdP_nil rfl rfl) rfl rfl) rfl rfl) rfl rfl) rfl rfl) Try.underlying81 (by kernel_rfl) rfl (fun b => ⟨b.1, b.2.1, b.2.2.1, b.2.2.2.1, b.2.2.2.2.1⟩) (fun _ => rfl) (by exact fun _ h => h)
theorem rC_LNode : RdC Try.prog 50 (Sl Nd) (okL okNd) := rd_slice rC_Node Try.underlying50 (by kernel_rfl) (by decide)
def okTr (x : Tr) : Prop := (okL okNd) x.nodes ∧ True
theorem rC_Tree : RdC Try.prog 52 Tr okTr :=
  rd_struct (β := (Sl Nd) × Unit) (rdP_cons rC_LNode rdP_nil rfl rfl) Try.underlying52 (by kernel_rfl) rfl (fun b => ⟨b.1⟩) (fun _ => rfl) (by exact fun _ h => h)
theorem rA_Tree : @RdA Try.prog 52 Tr ⟨fun a => .agg (Cel.enc a)⟩ okTr := rdA_agg rC_Tree Try.underlying52
end Go.AS.Th

namespace Go.AS.Th
open Go Go.AS Go.Proofs Go.ChangeShapes Go.WideShapes Go.ChangeAt Go.RowKit
set_option maxRecDepth 100000
theorem law_args (b : Tr × Int × Unit) (_ : okTr b.1 ∧ okI b.2.1 ∧ True) :
    Gives (funsOf Try.prog ann) 5 (Args.avs b) (.bool true) := law b.1 b.2.1
end Go.AS.Th
