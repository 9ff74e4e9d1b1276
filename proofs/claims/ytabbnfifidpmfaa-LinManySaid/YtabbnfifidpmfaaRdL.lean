import Derived.Test.YtabbnfifidpmfaaProg
import Derived.KernelRfl
import Derived.Test.YtabbnfifidpmfaaRd0
import Derived.Test.YtabbnfifidpmfaaRn0
import Derived.Test.YtabbnfifidpmfaaLm2
set_option linter.all false
namespace Go.AS.Li
open Go Go.AS Go.Proofs Go.ChangeShapes Go.WideShapes Go.ChangeAt Go.RowKit
set_option maxRecDepth 100000
def okI (n : Int) : Prop := -9223372036854775808 ≤ n ∧ n ≤ 9223372036854775807
def okS (s : Str) : Prop := s.length ≤ maxLen
def okL {α : Type} (ok : α → Prop) (s : Sl α) : Prop := (s.nil = true → s.l = []) ∧ s.l.length ≤ maxLen ∧ ∀ a ∈ s.l, ok a
theorem rC_int : RdC Try.prog 3 Int okI := rd_int Try.underlying3 (by kernel_rfl)
theorem rA_int : RdA Try.prog 3 Int okI := rdA_one rC_int (fun d h => by rw [Try.underlying3] at h; cases h; trivial)
theorem rC_bool : RdC Try.prog 4 Bool (fun _ => True) := rd_bool Try.underlying4 (by kernel_rfl)
theorem rA_bool : RdA Try.prog 4 Bool (fun _ => True) := rdA_one rC_bool (fun d h => by rw [Try.underlying4] at h; cases h; trivial)
theorem rC_OpKind : RdC Try.prog 22 UInt8 (fun _ => True) := rd_u8 Try.underlying22 (by kernel_rfl)
theorem rC_string : RdC Try.prog 9 Str okS := rd_str Try.underlying9 (by kernel_rfl)
theorem rC_Kind : RdC Try.prog 59 UInt8 (fun _ => True) := rd_u8 Try.underlying59 (by kernel_rfl)
theorem rC_uint64 : RdC Try.prog 60 UInt64 (fun _ => True) := rd_u64 Try.underlying60 (by kernel_rfl)
def okMsg (x : Msg) : Prop := True ∧ okI x.seq ∧ okS x.key ∧ okS x.to ∧ okS x.value ∧ True ∧ True
theorem rC_Msg : RdC Try.prog 62 Msg okMsg :=
  rd_struct (β := UInt8 × Int × Str × Str × Str × UInt64 × Unit) (rdP_cons rC_Kind (rdP_cons rC_int (rdP_cons rC_string (rdP_cons rC_string (rdP_cons rC_string (rdP_cons rC_uint64 rdP_nil rfl rfl) rfl rfl) rfl rfl) rfl rfl) rfl rfl) rfl rfl) Try.underlying62 (by kernel_rfl) rfl (fun b => ⟨b.1, b.2.1, b.2.2.1, b.2.2.2.1, b.2.2.2.2.1, b.2.2.2.2.2.1⟩) (fun _ => rfl) (by exact fun _ h => h)
theorem rC_LMsg : RdC Try.prog 23 (Sl Msg) (okL okMsg) := rd_slice rC_Msg Try.underlying23 (by kernel_rfl) (by decide)
def okOpn (x : Opn) : Prop := True ∧ okS x.key ∧ okS x.to ∧ okI x.n ∧ (okL okMsg) x.batch ∧ True
theorem rC_Op : RdC Try.prog 25 Opn okOpn :=
  rd_struct (β := UInt8 × Str × Str × Int × (Sl Msg) × Unit) (rdP_cons rC_OpKind (rdP_cons rC_string (rdP_cons rC_string (rdP_cons rC_int (rdP_cons rC_LMsg rdP_nil rfl rfl) rfl rfl) rfl rfl) rfl rfl) rfl rfl) Try.underlying25 (by kernel_rfl) rfl (fun b => ⟨b.1, b.2.1, b.2.2.1, b.2.2.2.1, b.2.2.2.2.1⟩) (fun _ => rfl) (by exact fun _ h => h)
theorem rC_Errno : RdC Try.prog 26 Int okI := rd_int Try.underlying26 (by kernel_rfl)
def okEnt (x : Ent) : Prop := okS x.key ∧ okS x.value ∧ True
theorem rC_Entry : RdC Try.prog 86 Ent okEnt :=
  rd_struct (β := Str × Str × Unit) (rdP_cons rC_string (rdP_cons rC_string rdP_nil rfl rfl) rfl rfl) Try.underlying86 (by kernel_rfl) rfl (fun b => ⟨b.1, b.2.1⟩) (fun _ => rfl) (by exact fun _ h => h)
theorem rC_LEntry : RdC Try.prog 27 (Sl Ent) (okL okEnt) := rd_slice rC_Entry Try.underlying27 (by kernel_rfl) (by decide)
def okRep (x : Rep) : Prop := okI x.err ∧ True ∧ okS x.value ∧ (okL okEnt) x.entries ∧ okI x.n ∧ True ∧ True
theorem rC_Reply : RdC Try.prog 29 Rep okRep :=
  rd_struct (β := Int × Bool × Str × (Sl Ent) × Int × Bool × Unit) (rdP_cons rC_Errno (rdP_cons rC_bool (rdP_cons rC_string (rdP_cons rC_LEntry (rdP_cons rC_int (rdP_cons rC_bool rdP_nil rfl rfl) rfl rfl) rfl rfl) rfl rfl) rfl rfl) rfl rfl) Try.underlying29 (by kernel_rfl) rfl (fun b => ⟨b.1, b.2.1, b.2.2.1, b.2.2.2.1, b.2.2.2.2.1, b.2.2.2.2.2.1⟩) (fun _ => rfl) (by exact fun _ h => h)
def okDon (x : Don) : Prop := okI x.session ∧ okI x.n ∧ okOpn x.op ∧ okI x.call ∧ okI x.point ∧ okI x.back ∧ okRep x.reply ∧ True
theorem rC_Done : RdC Try.prog 31 Don okDon :=
  rd_struct (β := Int × Int × Opn × Int × Int × Int × Rep × Unit) (rdP_cons rC_int (rdP_cons rC_int (rdP_cons rC_Op (rdP_cons rC_int (rdP_cons rC_int (rdP_cons rC_int (rdP_cons rC_Reply rdP_nil rfl rfl) rfl rfl) rfl rfl) rfl rfl) rfl rfl) rfl rfl) rfl rfl) Try.underlying31 (by kernel_rfl) rfl (fun b => ⟨b.1, b.2.1, b.2.2.1, b.2.2.2.1, b.2.2.2.2.1, b.2.2.2.2.2.1, b.2.2.2.2.2.2.1⟩) (fun _ => rfl) (by exact fun _ h => h)
theorem rA_Done : @RdA Try.prog 31 Don ⟨fun a => .agg (Cel.enc a)⟩ okDon := rdA_agg rC_Done Try.underlying31
theorem rC_LDone : RdC Try.prog 37 (Sl Don) (okL okDon) := rd_slice rC_Done Try.underlying37 (by kernel_rfl) (by decide)
theorem rA_LDone : RdA Try.prog 37 (Sl Don) (okL okDon) := rdA_one rC_LDone (fun d h => by rw [Try.underlying37] at h; cases h; trivial)
def okCfg (x : Cfg) : Prop := okI x.key ∧ okI x.value ∧ okI x.fanout ∧ okI x.buffer ∧ okI x.leaf ∧ okI x.block ∧ okI x.nodes ∧ okI x.budget ∧ okI x.chunk ∧ True
theorem rC_Config : RdC Try.prog 36 Cfg okCfg :=
  rd_struct (β := Int × Int × Int × Int × Int × Int × Int × Int × Int × Unit) (rdP_cons rC_int (rdP_cons rC_int (rdP_cons rC_int (rdP_cons rC_int (rdP_cons rC_int (rdP_cons rC_int (rdP_cons rC_int (rdP_cons rC_int (rdP_cons rC_int rdP_nil rfl rfl) rfl rfl) rfl rfl) rfl rfl) rfl rfl) rfl rfl) rfl rfl) rfl rfl) rfl rfl) Try.underlying36 (by kernel_rfl) rfl (fun b => ⟨b.1, b.2.1, b.2.2.1, b.2.2.2.1, b.2.2.2.2.1, b.2.2.2.2.2.1, b.2.2.2.2.2.2.1, b.2.2.2.2.2.2.2.1, b.2.2.2.2.2.2.2.2.1⟩) (fun _ => rfl) (by exact fun _ h => h)
theorem rA_Config : @RdA Try.prog 36 Cfg ⟨fun a => .agg (Cel.enc a)⟩ okCfg := rdA_agg rC_Config Try.underlying36
end Go.AS.Li

namespace Go.AS.Li
open Go Go.AS Go.Proofs Go.ChangeShapes Go.WideShapes Go.ChangeAt Go.RowKit
set_option maxRecDepth 100000
theorem law_argsM (b : Cfg × Int × Sl Don × Int × Unit) (_ : okCfg b.1 ∧ okI b.2.1 ∧ okL okDon b.2.2.1 ∧ okI b.2.2.2.1 ∧ True) :
    Gives (funsOf Try.prog ann) 4 (Args.avs b) (.bool true) := lawM b.1 b.2.1 b.2.2.1.nil b.2.2.1.l b.2.2.2.1
end Go.AS.Li
