import Derived.Test.YtckjahijnckgnaaGreatProg
import Derived.KernelRfl
import Derived.Test.YtckjahijnckgnaaGreatRd0
import Derived.Test.YtckjahijnckgnaaGreatRn0
import Derived.Test.YtckjahijnckgnaaGreatWl1c
set_option linter.all false
namespace Go.AS.Wi
open Go Go.AS Go.Proofs Go.ChangeShapes Go.WideShapes Go.ChangeAt Go.RowKit
set_option maxRecDepth 100000
def okI (n : Int) : Prop := -9223372036854775808 ≤ n ∧ n ≤ 9223372036854775807
def okS (s : Str) : Prop := s.length ≤ maxLen
def okL {α : Type} (ok : α → Prop) (s : Sl α) : Prop := (s.nil = true → s.l = []) ∧ s.l.length ≤ maxLen ∧ ∀ a ∈ s.l, ok a
theorem rC_int : RdC Tryz.prog 3 Int okI := rd_int Tryz.underlying3 (by kernel_rfl)
theorem rA_int : RdA Tryz.prog 3 Int okI := rdA_one rC_int (fun d h => by rw [Tryz.underlying3] at h; cases h; trivial)
theorem rC_bool : RdC Tryz.prog 4 Bool (fun _ => True) := rd_bool Tryz.underlying4 (by kernel_rfl)
theorem rA_bool : RdA Tryz.prog 4 Bool (fun _ => True) := rdA_one rC_bool (fun d h => by rw [Tryz.underlying4] at h; cases h; trivial)
theorem rC_OpKind : RdC Tryz.prog 42 UInt8 (fun _ => True) := rd_u8 Tryz.underlying42 (by kernel_rfl)
theorem rC_string : RdC Tryz.prog 9 Str okS := rd_str Tryz.underlying9 (by kernel_rfl)
theorem rC_Kind : RdC Tryz.prog 74 UInt8 (fun _ => True) := rd_u8 Tryz.underlying74 (by kernel_rfl)
theorem rC_uint64 : RdC Tryz.prog 75 UInt64 (fun _ => True) := rd_u64 Tryz.underlying75 (by kernel_rfl)
def okMsg (x : Msg) : Prop := True ∧ okI x.seq ∧ okS x.key ∧ okS x.to ∧ okS x.value ∧ True ∧ True
theorem rC_Msg : RdC Tryz.prog 77 Msg okMsg :=
  rd_struct (β := UInt8 × Int × Str × Str × Str × UInt64 × Unit) (rdP_cons rC_Kind (rdP_cons rC_int (rdP_cons rC_string (rdP_cons rC_string (rdP_cons rC_string (rdP_cons rC_uint64 rdP_nil rfl rfl) rfl rfl) rfl rfl) rfl rfl) rfl rfl) rfl rfl) Tryz.underlying77 (by kernel_rfl) rfl (fun b => ⟨b.1, b.2.1, b.2.2.1, b.2.2.2.1, b.2.2.2.2.1, b.2.2.2.2.2.1⟩) (fun _ => rfl) (by exact fun _ h => h)
theorem rC_LMsg : RdC Tryz.prog 43 (Sl Msg) (okL okMsg) := rd_slice rC_Msg Tryz.underlying43 (by kernel_rfl) (by decide)
def okOpn (x : Opn) : Prop := True ∧ okS x.key ∧ okS x.to ∧ okI x.n ∧ (okL okMsg) x.batch ∧ True
theorem rC_Op : RdC Tryz.prog 45 Opn okOpn :=
  rd_struct (β := UInt8 × Str × Str × Int × (Sl Msg) × Unit) (rdP_cons rC_OpKind (rdP_cons rC_string (rdP_cons rC_string (rdP_cons rC_int (rdP_cons rC_LMsg rdP_nil rfl rfl) rfl rfl) rfl rfl) rfl rfl) rfl rfl) Tryz.underlying45 (by kernel_rfl) rfl (fun b => ⟨b.1, b.2.1, b.2.2.1, b.2.2.2.1, b.2.2.2.2.1⟩) (fun _ => rfl) (by exact fun _ h => h)
theorem rC_Errno : RdC Tryz.prog 46 Int okI := rd_int Tryz.underlying46 (by kernel_rfl)
def okEnt (x : Ent) : Prop := okS x.key ∧ okS x.value ∧ True
theorem rC_Entry : RdC Tryz.prog 68 Ent okEnt :=
  rd_struct (β := Str × Str × Unit) (rdP_cons rC_string (rdP_cons rC_string rdP_nil rfl rfl) rfl rfl) Tryz.underlying68 (by kernel_rfl) rfl (fun b => ⟨b.1, b.2.1⟩) (fun _ => rfl) (by exact fun _ h => h)
theorem rC_LEntry : RdC Tryz.prog 35 (Sl Ent) (okL okEnt) := rd_slice rC_Entry Tryz.underlying35 (by kernel_rfl) (by decide)
def okRep (x : Rep) : Prop := okI x.err ∧ True ∧ okS x.value ∧ (okL okEnt) x.entries ∧ okI x.n ∧ True ∧ True
theorem rC_Reply : RdC Tryz.prog 48 Rep okRep :=
  rd_struct (β := Int × Bool × Str × (Sl Ent) × Int × Bool × Unit) (rdP_cons rC_Errno (rdP_cons rC_bool (rdP_cons rC_string (rdP_cons rC_LEntry (rdP_cons rC_int (rdP_cons rC_bool rdP_nil rfl rfl) rfl rfl) rfl rfl) rfl rfl) rfl rfl) rfl rfl) Tryz.underlying48 (by kernel_rfl) rfl (fun b => ⟨b.1, b.2.1, b.2.2.1, b.2.2.2.1, b.2.2.2.2.1, b.2.2.2.2.2.1⟩) (fun _ => rfl) (by exact fun _ h => h)
def okDon (x : Don) : Prop := okI x.session ∧ okI x.n ∧ okOpn x.op ∧ okI x.call ∧ okI x.point ∧ okI x.back ∧ okRep x.reply ∧ True
theorem rC_Done : RdC Tryz.prog 50 Don okDon :=
  rd_struct (β := Int × Int × Opn × Int × Int × Int × Rep × Unit) (rdP_cons rC_int (rdP_cons rC_int (rdP_cons rC_Op (rdP_cons rC_int (rdP_cons rC_int (rdP_cons rC_int (rdP_cons rC_Reply rdP_nil rfl rfl) rfl rfl) rfl rfl) rfl rfl) rfl rfl) rfl rfl) rfl rfl) Tryz.underlying50 (by kernel_rfl) rfl (fun b => ⟨b.1, b.2.1, b.2.2.1, b.2.2.2.1, b.2.2.2.2.1, b.2.2.2.2.2.1, b.2.2.2.2.2.2.1⟩) (fun _ => rfl) (by exact fun _ h => h)
theorem rC_LDone : RdC Tryz.prog 24 (Sl Don) (okL okDon) := rd_slice rC_Done Tryz.underlying24 (by kernel_rfl) (by decide)
theorem rA_LDone : RdA Tryz.prog 24 (Sl Don) (okL okDon) := rdA_one rC_LDone (fun d h => by rw [Tryz.underlying24] at h; cases h; trivial)
end Go.AS.Wi

namespace Go.AS.Wi
open Go Go.AS Go.Proofs Go.ChangeShapes Go.WideShapes Go.ChangeAt Go.RowKit
set_option maxRecDepth 100000
theorem law_args (b : Sl Don × Int × Unit) (h : okL okDon b.1 ∧ okI b.2.1 ∧ True) :
    Gives (funsOf Tryz.prog ann) 4 (Args.avs b) (.bool true) :=
  law b.1.nil b.1.l b.2.1 fun d hd => ⟨(h.1.2.2 d hd).2.2.1.2.2.2.2.1.1, (h.1.2.2 d hd).2.2.2.2.2.2.1.2.2.2.1.1⟩
end Go.AS.Wi
