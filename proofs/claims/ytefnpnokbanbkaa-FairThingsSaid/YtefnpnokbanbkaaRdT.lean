import Derived.Test.YtefnpnokbanbkaaProg
import Derived.KernelRfl
import Derived.Test.YtefnpnokbanbkaaRd0
import Derived.Test.YtefnpnokbanbkaaRn0
import Derived.Test.YtefnpnokbanbkaaTh11
set_option linter.all false
namespace Go.AS.Th
open Go Go.AS Go.Proofs Go.ChangeShapes Go.WideShapes Go.ChangeAt Go.RowKit
set_option maxRecDepth 100000
def okI (n : Int) : Prop := -9223372036854775808 ≤ n ∧ n ≤ 9223372036854775807
def okS (s : Str) : Prop := s.length ≤ maxLen
def okL {α : Type} (ok : α → Prop) (s : Sl α) : Prop := (s.nil = true → s.l = []) ∧ s.l.length ≤ maxLen ∧ ∀ a ∈ s.l, ok a
theorem rC_int : RdC Try.prog 3 Int okI := rd_int Try.underlying3 (by kernel_rfl)
theorem rA_int : RdA Try.prog 3 Int okI := rdA_one rC_int (fun d h => by rw [Try.underlying3] at h; cases h; trivial)
theorem rC_string : RdC Try.prog 9 Str okS := rd_str Try.underlying9 (by kernel_rfl)
theorem rA_string : RdA Try.prog 9 Str okS := rdA_one rC_string (fun d h => by rw [Try.underlying9] at h; cases h; trivial)
theorem rC_bool : RdC Try.prog 4 Bool (fun _ => True) := rd_bool Try.underlying4 (by kernel_rfl)
theorem rA_bool : RdA Try.prog 4 Bool (fun _ => True) := rdA_one rC_bool (fun d h => by rw [Try.underlying4] at h; cases h; trivial)
theorem rC_Lint : RdC Try.prog 22 (Sl Int) (okL okI) := rd_slice rC_int Try.underlying22 (by kernel_rfl) (by decide)
theorem rA_Lint : RdA Try.prog 22 (Sl Int) (okL okI) := rdA_one rC_Lint (fun d h => by rw [Try.underlying22] at h; cases h; trivial)
def okCfg (x : Cfg) : Prop := okI x.key ∧ okI x.value ∧ okI x.fanout ∧ okI x.buffer ∧ okI x.leaf ∧ okI x.block ∧ okI x.nodes ∧ okI x.budget ∧ okI x.chunk ∧ True
theorem rC_Config : RdC Try.prog 57 Cfg okCfg :=
  rd_struct (β := Int × Int × Int × Int × Int × Int × Int × Int × Int × Unit) (rdP_cons rC_int (rdP_cons rC_int (rdP_cons rC_int (rdP_cons rC_int (rdP_cons rC_int (rdP_cons rC_int (rdP_cons rC_int (rdP_cons rC_int (rdP_cons rC_int rdP_nil rfl rfl) rfl rfl) rfl rfl) rfl rfl) rfl rfl) rfl rfl) rfl rfl) rfl rfl) rfl rfl) Try.underlying57 (by kernel_rfl) rfl (fun b => ⟨b.1, b.2.1, b.2.2.1, b.2.2.2.1, b.2.2.2.2.1, b.2.2.2.2.2.1, b.2.2.2.2.2.2.1, b.2.2.2.2.2.2.2.1, b.2.2.2.2.2.2.2.2.1⟩) (fun _ => rfl) (by exact fun _ h => h)
theorem rA_Config : @RdA Try.prog 57 Cfg ⟨fun a => .agg (Cel.enc a)⟩ okCfg := rdA_agg rC_Config Try.underlying57
theorem rC_NodeKind : RdC Try.prog 95 UInt8 (fun _ => True) := rd_u8 Try.underlying95 (by kernel_rfl)
theorem rC_Lstring : RdC Try.prog 96 (Sl Str) (okL okS) := rd_slice rC_string Try.underlying96 (by kernel_rfl) (by decide)
theorem rC_Kind : RdC Try.prog 43 UInt8 (fun _ => True) := rd_u8 Try.underlying43 (by kernel_rfl)
theorem rC_uint64 : RdC Try.prog 31 UInt64 (fun _ => True) := rd_u64 Try.underlying31 (by kernel_rfl)
def okMsg (x : Msg) : Prop := True ∧ okI x.seq ∧ okS x.key ∧ okS x.to ∧ okS x.value ∧ True ∧ True
theorem rC_Msg : RdC Try.prog 45 Msg okMsg :=
  rd_struct (β := UInt8 × Int × Str × Str × Str × UInt64 × Unit) (rdP_cons rC_Kind (rdP_cons rC_int (rdP_cons rC_string (rdP_cons rC_string (rdP_cons rC_string (rdP_cons rC_uint64 rdP_nil rfl rfl) rfl rfl) rfl rfl) rfl rfl) rfl rfl) rfl rfl) Try.underlying45 (by kernel_rfl) rfl (fun b => ⟨b.1, b.2.1, b.2.2.1, b.2.2.2.1, b.2.2.2.2.1, b.2.2.2.2.2.1⟩) (fun _ => rfl) (by exact fun _ h => h)
theorem rC_LMsg : RdC Try.prog 49 (Sl Msg) (okL okMsg) := rd_slice rC_Msg Try.underlying49 (by kernel_rfl) (by decide)
def okEnt (x : Ent) : Prop := okS x.key ∧ okS x.value ∧ True
theorem rC_Entry : RdC Try.prog 172 Ent okEnt :=
  rd_struct (β := Str × Str × Unit) (rdP_cons rC_string (rdP_cons rC_string rdP_nil rfl rfl) rfl rfl) Try.underlying172 (by kernel_rfl) rfl (fun b => ⟨b.1, b.2.1⟩) (fun _ => rfl) (by exact fun _ h => h)
theorem rC_LEntry : RdC Try.prog 100 (Sl Ent) (okL okEnt) := rd_slice rC_Entry Try.underlying100 (by kernel_rfl) (by decide)
theorem rC_LLEntry : RdC Try.prog 97 (Sl (Sl Ent)) (okL (okL okEnt)) := rd_slice rC_LEntry Try.underlying97 (by kernel_rfl) (by decide)
def okNd (x : Nd) : Prop := True ∧ (okL okS) x.pivots ∧ (okL okI) x.kids ∧ (okL okMsg) x.msgs ∧ (okL (okL okEnt)) x.blocks ∧ True
theorem rC_Node : RdC Try.prog 99 Nd okNd :=
  rd_struct (β := UInt8 × (Sl Str) × (Sl Int) × (Sl Msg) × (Sl (Sl Ent)) × Unit) (rdP_cons rC_NodeKind (rdP_cons rC_Lstring (rdP_cons rC_Lint (rdP_cons rC_LMsg (rdP_cons rC_LLEntry rdP_nil rfl rfl) rfl rfl) rfl rfl) rfl rfl) rfl rfl) Try.underlying99 (by kernel_rfl) rfl (fun b => ⟨b.1, b.2.1, b.2.2.1, b.2.2.2.1, b.2.2.2.2.1⟩) (fun _ => rfl) (by exact fun _ h => h)
theorem rC_LNode : RdC Try.prog 58 (Sl Nd) (okL okNd) := rd_slice rC_Node Try.underlying58 (by kernel_rfl) (by decide)
def okTr (x : Tr) : Prop := (okL okNd) x.nodes ∧ True
theorem rC_Tree : RdC Try.prog 60 Tr okTr :=
  rd_struct (β := (Sl Nd) × Unit) (rdP_cons rC_LNode rdP_nil rfl rfl) Try.underlying60 (by kernel_rfl) rfl (fun b => ⟨b.1⟩) (fun _ => rfl) (by exact fun _ h => h)
theorem rA_Tree : @RdA Try.prog 60 Tr ⟨fun a => .agg (Cel.enc a)⟩ okTr := rdA_agg rC_Tree Try.underlying60
theorem rC_OpKind : RdC Try.prog 48 UInt8 (fun _ => True) := rd_u8 Try.underlying48 (by kernel_rfl)
def okOpn (x : Opn) : Prop := True ∧ okS x.key ∧ okS x.to ∧ okI x.n ∧ (okL okMsg) x.batch ∧ True
theorem rC_Op : RdC Try.prog 51 Opn okOpn :=
  rd_struct (β := UInt8 × Str × Str × Int × (Sl Msg) × Unit) (rdP_cons rC_OpKind (rdP_cons rC_string (rdP_cons rC_string (rdP_cons rC_int (rdP_cons rC_LMsg rdP_nil rfl rfl) rfl rfl) rfl rfl) rfl rfl) rfl rfl) Try.underlying51 (by kernel_rfl) rfl (fun b => ⟨b.1, b.2.1, b.2.2.1, b.2.2.2.1, b.2.2.2.2.1⟩) (fun _ => rfl) (by exact fun _ h => h)
theorem rC_Errno : RdC Try.prog 74 Int okI := rd_int Try.underlying74 (by kernel_rfl)
def okRep (x : Rep) : Prop := okI x.err ∧ True ∧ okS x.value ∧ (okL okEnt) x.entries ∧ okI x.n ∧ True ∧ True
theorem rC_Reply : RdC Try.prog 102 Rep okRep :=
  rd_struct (β := Int × Bool × Str × (Sl Ent) × Int × Bool × Unit) (rdP_cons rC_Errno (rdP_cons rC_bool (rdP_cons rC_string (rdP_cons rC_LEntry (rdP_cons rC_int (rdP_cons rC_bool rdP_nil rfl rfl) rfl rfl) rfl rfl) rfl rfl) rfl rfl) rfl rfl) Try.underlying102 (by kernel_rfl) rfl (fun b => ⟨b.1, b.2.1, b.2.2.1, b.2.2.2.1, b.2.2.2.2.1, b.2.2.2.2.2.1⟩) (fun _ => rfl) (by exact fun _ h => h)
def okDon (x : Don) : Prop := okI x.session ∧ okI x.n ∧ okOpn x.op ∧ okI x.call ∧ okI x.point ∧ okI x.back ∧ okRep x.reply ∧ True
theorem rC_Done : RdC Try.prog 104 Don okDon :=
  rd_struct (β := Int × Int × Opn × Int × Int × Int × Rep × Unit) (rdP_cons rC_int (rdP_cons rC_int (rdP_cons rC_Op (rdP_cons rC_int (rdP_cons rC_int (rdP_cons rC_int (rdP_cons rC_Reply rdP_nil rfl rfl) rfl rfl) rfl rfl) rfl rfl) rfl rfl) rfl rfl) rfl rfl) Try.underlying104 (by kernel_rfl) rfl (fun b => ⟨b.1, b.2.1, b.2.2.1, b.2.2.2.1, b.2.2.2.2.1, b.2.2.2.2.2.1, b.2.2.2.2.2.2.1⟩) (fun _ => rfl) (by exact fun _ h => h)
theorem rC_LDone : RdC Try.prog 61 (Sl Don) (okL okDon) := rd_slice rC_Done Try.underlying61 (by kernel_rfl) (by decide)
theorem rA_LDone : RdA Try.prog 61 (Sl Don) (okL okDon) := rdA_one rC_LDone (fun d h => by rw [Try.underlying61] at h; cases h; trivial)
theorem rA_LMsg : RdA Try.prog 49 (Sl Msg) (okL okMsg) := rdA_one rC_LMsg (fun d h => by rw [Try.underlying49] at h; cases h; trivial)
theorem rA_uint64 : RdA Try.prog 31 UInt64 (fun _ => True) := rdA_one rC_uint64 (fun d h => by rw [Try.underlying31] at h; cases h; trivial)
end Go.AS.Th

namespace Go.AS.Th
open Go Go.AS Go.Proofs Go.ChangeShapes Go.WideShapes Go.ChangeAt Go.RowKit
set_option maxRecDepth 100000
theorem law_args (b : Cfg × Tr × Sl Don × Int × Int × Unit) (_ : okCfg b.1 ∧ okTr b.2.1 ∧ okL okDon b.2.2.1 ∧ okI b.2.2.2.1 ∧ okI b.2.2.2.2.1 ∧ True) :
    Gives (funsOf Try.prog ann) 6 (Args.avs b) (.bool true) := law b.1 b.2.1 b.2.2.1.nil b.2.2.1.l b.2.2.2.1 b.2.2.2.2.1
end Go.AS.Th
