import Derived.ChangeSlices
import Derived.WideShapes
import Derived.WalkKit
import Derived.Test.YtfffeogjnmalkaaDoorRn0
import Derived.Test.YtfffeogjnmalkaaDoorAs22
import Derived.Test.YtfffeogjnmalkaaDoorAs33
set_option linter.all false
/-
  Arguments that are read out of the memory, as typed values. By an AI agent.
-/
namespace Go.AS
open Go Go.ChangeShapes Go.WideShapes Go.ChangeAt Go.RowKit

abbrev look (W : World) : IMap := fun b => W.heap[b]?

/-- Cells of type t read as α. -/
structure RdC (P : Program) (t : TypeId) (α : Type) [Cel α] (ok : α → Prop) : Prop where
  size : P.cellsOf t = Cel.n α
  rd : ∀ {H : Type} {enc : TypeId × Value → H} {W : World} {fuel : Nat} {cs : List Value} {x : DataW H × List MemPlace}, DataW.trod enc P W 0 (fun _ => true) true fuel t cs = some x → ∃ a : α, ok a ∧ RVs (look W) (Cel.enc a) [] true cs

section
variable {P : Program}
theorem wf_range {k : IntKind} {n : Int} (h : (Lit.int k n).wf = true) : k.min ≤ n ∧ n ≤ k.max := by
  simp only [Lit.wf, Bool.and_eq_true, decide_eq_true_eq] at h; exact h
theorem rd_int {t : TypeId} (ht : P.underlying t = some (.int .i64)) (hs : P.cellsOf t = 1) : RdC P t Int (fun n => -9223372036854775808 ≤ n ∧ n ≤ 9223372036854775807) := by
  refine ⟨hs, fun h => ?_⟩
  obtain ⟨n, rfl, _, hw⟩ := DataW.trod_int ht h
  exact ⟨n, wf_range hw, _, _, rfl, rfl, fun _ => rfl, rfl⟩
theorem rd_u64 {t : TypeId} (ht : P.underlying t = some (.int .u64)) (hs : P.cellsOf t = 1) : RdC P t UInt64 (fun _ => True) := by
  refine ⟨hs, fun h => ?_⟩
  obtain ⟨n, rfl, _, hw⟩ := DataW.trod_int ht h
  obtain ⟨h1, h2⟩ := wf_range hw
  have h1 : 0 ≤ n := h1
  have h2 : n ≤ 18446744073709551615 := h2
  refine ⟨UInt64.ofNat n.toNat, trivial, _, _, rfl, ?_, fun _ => rfl, rfl⟩
  show Value.int .u64 n = .int .u64 ((UInt64.ofNat n.toNat).toNat : Int)
  have : (UInt64.ofNat n.toNat).toNat = n.toNat := by simp; omega
  rw [this, Int.toNat_of_nonneg h1]
theorem rd_u8 {t : TypeId} (ht : P.underlying t = some (.int .u8)) (hs : P.cellsOf t = 1) : RdC P t UInt8 (fun _ => True) := by
  refine ⟨hs, fun h => ?_⟩
  obtain ⟨n, rfl, _, hw⟩ := DataW.trod_int ht h
  obtain ⟨h1, h2⟩ := wf_range hw
  have h1 : 0 ≤ n := h1
  have h2 : n ≤ 255 := h2
  refine ⟨UInt8.ofNat n.toNat, trivial, _, _, rfl, ?_, fun _ => rfl, rfl⟩
  show Value.int .u8 n = .int .u8 ((UInt8.ofNat n.toNat).toNat : Int)
  have : (UInt8.ofNat n.toNat).toNat = n.toNat := by simp; omega
  rw [this, Int.toNat_of_nonneg h1]
theorem trod_bool' {t : TypeId} (ht : P.underlying t = some .bool) {H : Type} {enc : TypeId × Value → H} {W : World} {fuel : Nat} {cs : List Value} {x : DataW H × List MemPlace} (h : DataW.trod enc P W 0 (fun _ => true) true fuel t cs = some x) : ∃ b, cs = [.bool b] := by
  cases fuel with
  | zero => simp [DataW.trod] at h
  | succ n =>
    unfold DataW.trod at h
    rw [ht] at h
    split at h <;> simp_all
theorem rd_bool {t : TypeId} (ht : P.underlying t = some .bool) (hs : P.cellsOf t = 1) : RdC P t Bool (fun _ => True) := by
  refine ⟨hs, ?_⟩
  intro H enc W fuel cs x h
  obtain ⟨b, rfl⟩ := trod_bool' ht h
  exact ⟨b, trivial, _, _, rfl, rfl, fun _ => rfl, rfl⟩
theorem rd_str {t : TypeId} (ht : P.underlying t = some .string) (hs : P.cellsOf t = 1) : RdC P t Str (fun s => s.length ≤ maxLen) := by
  refine ⟨hs, ?_⟩
  intro H enc W fuel cs x h
  obtain ⟨s, rfl, _, hl⟩ := DataW.trod_string ht h
  exact ⟨s.data.toList, by simpa using hl, _, _, rfl, ⟨s, rfl, rfl⟩, fun _ => rfl, rfl⟩

theorem RVs.at {I : IMap} : ∀ {vs : List AV} {one : Bool} {xs : List Value} {Ms : List MMap}, RVs I vs Ms one xs → xs.length = vs.length := by
  intro vs one xs Ms h
  exact RVs.length vs h

theorem rd_slice {t e : TypeId} {α : Type} [Cel α] {ok : α → Prop} (he : RdC P e α ok) (ht : P.underlying t = some (.slice e)) (hs : P.cellsOf t = 1) (hn : 0 < Cel.n α) :
    RdC P t (Sl α) (fun s => (s.nil = true → s.l = []) ∧ s.l.length ≤ maxLen ∧ ∀ a ∈ s.l, ok a) := by
  refine ⟨hs, ?_⟩
  intro H enc W fuel cs x h
  rcases DataW.trod_slice ht h with ⟨rfl, _⟩ | ⟨a, len, cap, elems, rest, n, _, rfl, rfl, _, hl, hm, hlen, hel, _, _⟩
  · refine ⟨⟨true, []⟩, ⟨fun _ => rfl, Nat.zero_le _, by simp⟩, _, _, rfl, ?_, fun _ => rfl, rfl⟩
    exact RV.imm0 ⟨none, 0, [], rfl, rfl, fun _ => ⟨rfl, rfl⟩, Nat.le_refl _, (fun c h => by cases h), by simp [cellsL], rfl, fun h => absurd rfl h⟩
  · -- element by element
    have each : ∀ i, i < len → ∃ (cs : List Value) (y : α), W.cells? 0 (a.add (i * P.cellsOf e)) (P.cellsOf e) = some cs ∧ ok y ∧ RVs (look W) (Cel.enc y) [] true cs := by
      intro i hi
      have h1 := hel i hi
      rw [List.getElem?_eq_getElem (by omega), Option.bind_eq_some_iff] at h1
      obtain ⟨cs, h2, h3⟩ := h1
      obtain ⟨y, h4, h5⟩ := he.rd h3
      exact ⟨cs, y, h2, h4, h5⟩
    have all : ∀ k, k ≤ len → ∃ (l : List α) (vs : List Value), l.length = k ∧ (∀ y ∈ l, ok y) ∧ RVs (look W) (cellsL l) [] true vs ∧ ∀ i y, vs[i]? = some y → W.cell? (a.add i) = some y := by
      intro k
      induction k with
      | zero => intro _; exact ⟨[], [], rfl, by simp, rfl, by simp⟩
      | succ k ih =>
        intro hk
        obtain ⟨l, vs, h1, h2, h3, h4⟩ := ih (by omega)
        obtain ⟨cs, y, g1, g2, g3⟩ := each k (by omega)
        refine ⟨l ++ [y], vs ++ cs, by simp [h1], ?_, ?_, ?_⟩
        · intro z hz
          rcases List.mem_append.1 hz with hz | hz
          · exact h2 z hz
          · rw [List.mem_singleton.1 hz]; exact g2
        · rw [cellsL_append]
          refine RVs.append h3 ?_
          rw [cellsL_cons, cellsL_nil, List.append_nil]; exact g3
        · have hvl : vs.length = k * P.cellsOf e := by rw [RVs.length _ h3, cellsL_length, h1, he.size]
          intro i z hz
          rcases Nat.lt_or_ge i vs.length with hi | hi
          · rw [List.getElem?_append_left hi] at hz; exact h4 i z hz
          · rw [List.getElem?_append_right hi] at hz
            have hil : i - vs.length < cs.length := (List.getElem?_eq_some_iff.1 hz).1
            have hcl := (World.cells?_some g1).2.1
            have := (World.cells?_some g1).2.2 (i - vs.length) (by omega)
            rw [hz] at this
            rw [← this]
            congr 1
            rw [Addr.add_add]
            congr 1
            omega
    obtain ⟨l, vs, h1, h2, h3, h4⟩ := all len (Nat.le_refl _)
    refine ⟨⟨false, l⟩, ⟨(fun h => by cases h), (by show l.length ≤ maxLen; omega), h2⟩, _, _, rfl, ?_, fun _ => rfl, rfl⟩
    have hvl : vs.length = len * Cel.n α := by rw [RVs.length _ h3, cellsL_length, h1]
    refine RV.imm0 ⟨some a, cap, vs, by rw [h1], rfl, (fun h => by cases h), by rw [h1]; exact hl, (fun c h => by cases h), cellsL_length l, h3, fun hne => ?_⟩
    have hpos : 0 < vs.length := by
      rw [RVs.length _ h3]
      exact List.length_pos_iff.2 hne
    have h0 : vs[0]? = some vs[0] := List.getElem?_eq_getElem hpos
    have hc0 := h4 0 _ h0
    obtain ⟨b, off, spot⟩ := a
    have hspot : spot = none := by simpa [Addr.add] using World.cell?_spot hc0
    subst hspot
    simp only [Addr.add_none] at h4 hc0
    cases hb : W.heap[b]? with
    | none => simp [World.cell?, hb] at hc0
    | some o =>
      cases o with
      | cells c e fz =>
        refine ⟨b, off, c, e, fz, rfl, hb, fun i y hy => ?_⟩
        have := h4 i y hy
        simpa [World.cell?, hb] using this
      | _ => simp [World.cell?, hb] at hc0

/-! ### Structs, field by field -/
class CelP (β : Type) where
  n : Nat
  enc : β → List AV
instance : CelP Unit := ⟨0, fun _ => []⟩
instance {α β : Type} [Cel α] [CelP β] : CelP (α × β) := ⟨Cel.n α + CelP.n β, fun p => Cel.enc p.1 ++ CelP.enc p.2⟩

structure RdP (P : Program) (fs : List Field) (off : Nat) (β : Type) [CelP β] (ok : β → Prop) : Prop where
  rd : ∀ {H : Type} {enc : TypeId × Value → H} {W : World} {fuel : Nat} {cs : List Value} {xs : List (DataW H × List MemPlace)}, cs.length = off + CelP.n β →
    (fs.mapM fun f => DataW.trod enc P W 0 (fun _ => true) true fuel f.type ((cs.drop f.offset).take (P.cellsOf f.type))) = some xs → ∃ b : β, ok b ∧ RVs (look W) (CelP.enc b) [] true (cs.drop off)
theorem rdP_nil {off : Nat} : RdP P [] off Unit (fun _ => True) := by
  refine ⟨fun hl _ => ⟨(), trivial, ?_⟩⟩
  rw [List.drop_of_length_le (by rw [hl]; exact Nat.le_refl _)]
  rfl
theorem rdP_cons {f : Field} {fs : List Field} {off off' : Nat} {α β : Type} [Cel α] [CelP β] {ok : α → Prop} {ok' : β → Prop} (h1 : RdC P f.type α ok) (h2 : RdP P fs off' β ok') (ho : f.offset = off) (ho2 : off' = off + Cel.n α) :
    RdP P (f :: fs) off (α × β) (fun p => ok p.1 ∧ ok' p.2) := by
  subst ho2
  refine ⟨?_⟩
  intro H enc W fuel cs xs hl h
  rw [List.mapM_cons] at h
  simp only [Option.bind_eq_bind, Option.bind_eq_some_iff] at h
  obtain ⟨x, g1, ys, g2, _⟩ := h
  obtain ⟨a, g3, g4⟩ := h1.rd g1
  obtain ⟨b, g5, g6⟩ := h2.rd (by rw [hl]; show off + (Cel.n α + CelP.n β) = off + Cel.n α + CelP.n β; omega) g2
  refine ⟨(a, b), ⟨g3, g5⟩, ?_⟩
  have e : cs.drop off = (cs.drop off).take (Cel.n α) ++ cs.drop (off + Cel.n α) := by rw [← List.drop_drop, List.take_append_drop]
  rw [e]
  rw [ho, h1.size] at g4
  exact RVs.append g4 g6
/-- A struct. -/
theorem rd_struct {t : TypeId} {fs : Array Field} {β α : Type} [CelP β] [Cel α] {ok : β → Prop} (h : RdP P fs.toList 0 β ok) (ht : P.underlying t = some (.struct fs)) (hs : P.cellsOf t = Cel.n α) (hn : Cel.n α = CelP.n β)
    (of : β → α) (hof : ∀ b, Cel.enc (of b) = CelP.enc b) {ok' : α → Prop} (hok : ∀ b, ok b → ok' (of b)) : RdC P t α ok' := by
  refine ⟨hs, ?_⟩
  intro H enc W fuel cs x hx
  cases fuel with
  | zero => simp [DataW.trod] at hx
  | succ fuel =>
    unfold DataW.trod at hx
    rw [ht] at hx
    simp only at hx
    split at hx
    · rename_i hl
      simp only [Option.map_eq_some_iff] at hx
      obtain ⟨xs, g1, _⟩ := hx
      obtain ⟨b, g2, g3⟩ := h.rd (by rw [hl, hs, hn, Nat.zero_add]) g1
      refine ⟨of b, hok b g2, ?_⟩
      rw [hof]
      simpa using g3
    · cases hx

/-! ### Arguments -/
class Arg (α : Type) where
  av : α → AV
instance (priority := 50) {α : Type} [Cel α] : Arg α := ⟨fun a => .agg (Cel.enc a)⟩
instance (priority := 200) {α : Type} [One α] : Arg α := ⟨fun a => One.v a⟩

structure RdA (P : Program) (t : TypeId) (α : Type) [Arg α] (ok : α → Prop) : Prop where
  rd : ∀ {H : Type} {enc : TypeId × Value → H} {W : World} {r : Reach} {b0 : Nat} {v : Value} {d : DataW H} {ps : List MemPlace}, Value.okWide P W r b0 t v → DataW.Trod enc P W 0 (fun _ => true) true t v d ps → ∃ a : α, ok a ∧ RV (look W) (Arg.av a) [] v
theorem rdA_one {t : TypeId} {α : Type} [One α] {ok : α → Prop} (h : RdC P t α ok) (ht : ∀ d, P.underlying t = some d → (match d with | .struct _ | .array _ _ => False | _ => True)) : RdA P t α ok := by
  refine ⟨?_⟩
  rintro H enc W r b0 v d ps hv ⟨fuel, hf⟩
  obtain ⟨a, h1, h2⟩ := h.rd hf
  refine ⟨a, h1, ?_⟩
  obtain ⟨x, xs, e1, e2, e3, e4⟩ := h2
  have hxs : xs = [] := e4
  subst hxs
  have hva : ∀ cs, v ≠ .agg cs := by
    intro cs hc
    subst hc
    cases hu : P.underlying t with
    | none =>
      cases fuel with
      | zero => simp [DataW.trod] at hf
      | succ n => simp [DataW.trod, hu] at hf
    | some d =>
      have := ht d hu
      cases d <;> simp_all [Value.okWide, Cell.okWide, Cell.ok]
  cases v with
  | agg cs => exact absurd rfl (hva cs)
  | _ => cases e1; exact e2
theorem rdA_agg {t : TypeId} {α : Type} [Cel α] {fs : Array Field} {ok : α → Prop} (h : RdC P t α ok) (ht : P.underlying t = some (.struct fs)) : @RdA P t α ⟨fun a => .agg (Cel.enc a)⟩ ok := by
  refine @RdA.mk P t α ⟨fun a => .agg (Cel.enc a)⟩ ok ?_
  rintro H enc W r b0 v d ps hv ⟨fuel, hf⟩
  obtain ⟨a, h1, h2⟩ := h.rd hf
  simp only [Value.okWide, ht] at hv
  obtain ⟨cs, rfl, _⟩ := hv
  exact ⟨a, h1, cs, rfl, h2⟩

class Args (β : Type) where
  avs : β → List AV
instance : Args Unit := ⟨fun _ => []⟩
instance {α β : Type} [Arg α] [Args β] : Args (α × β) := ⟨fun p => Arg.av p.1 :: Args.avs p.2⟩
structure RdL (P : Program) (ts : List TypeId) (β : Type) [Args β] (ok : β → Prop) : Prop where
  rd : ∀ {H : Type} {enc : TypeId × Value → H} {W : World} {r : Reach} {b0 : Nat} {vs : List Value} {ds : List (DataW H)} {ps : List MemPlace}, (∀ (j : Nat) t v, ts[j]? = some t → vs[j]? = some v → Value.okWide P W r b0 t v) →
    DataW.TrodAll enc P W 0 (fun _ => true) true ts vs ds ps → ∃ b : β, ok b ∧ RVs (look W) (Args.avs b) [] false vs
theorem rdL_nil : RdL P [] Unit (fun _ => True) := by
  refine ⟨?_⟩
  intro H enc W r b0 vs ds ps _ h
  obtain ⟨rfl, rfl, rfl⟩ := trodAll_nil h
  exact ⟨(), trivial, rfl⟩
theorem rdL_cons {t : TypeId} {ts : List TypeId} {α β : Type} [Arg α] [Args β] {ok : α → Prop} {ok' : β → Prop} (h1 : RdA P t α ok) (h2 : RdL P ts β ok') : RdL P (t :: ts) (α × β) (fun p => ok p.1 ∧ ok' p.2) := by
  refine ⟨?_⟩
  intro H enc W r b0 vs ds ps hval h
  obtain ⟨v0, vs0, d0, ds0, p0, q0, rfl, rfl, rfl, g0, g1⟩ := trodAll_cons h
  obtain ⟨a, k1, k2⟩ := h1.rd (hval 0 t v0 rfl rfl) g0
  obtain ⟨b, k3, k4⟩ := h2.rd (fun j t v e1 e2 => hval (j + 1) t v e1 e2) g1
  exact ⟨(a, b), ⟨k1, k3⟩, _, _, rfl, k2, (fun h => by cases h), k4⟩

theorem trodAll_len {H : Type} {enc : TypeId × Value → H} {W : World} : ∀ {ts : List TypeId} {vs : List Value} {ds : List (DataW H)} {ps : List MemPlace}, DataW.TrodAll enc P W 0 (fun _ => true) true ts vs ds ps → ds.length = ts.length
  | [], [], [], _, _ => rfl
  | _ :: ts, _ :: vs, _ :: ds, _, h => by
    obtain ⟨p, q, _, b, _⟩ := h
    simp [trodAll_len b]
  | [], _ :: _, _, _, h => h.elim
  | [], [], _ :: _, _, h => h.elim
  | _ :: _, [], _, _, h => h.elim
  | _ :: _, _ :: _, [], _, h => h.elim
/-- A law's contract, from what the law comes to. -/
theorem law_contract {an : Ann} {i : Nat} {f : Func} {s : ChangeSpec} {tb : TypeId} {β : Type} [Args β] {ok : β → Prop} (hmo : P.follows .mixedOrders = true) (hl : laidOutB P = true)
    {ts : List TypeId} (hts : f.params.toList = ts) (hargs : RdL P ts β ok) (hlaw : ∀ b, ok b → Gives (funsOf P an) i (Args.avs b) (.bool true))
    (hpar : ∀ t ∈ ts, P.readableRec t = true ∧ decide (t < P.types.size) = true) (hvars : s.vars = []) (hr : f.resultTypes = #[tb]) (htb : P.underlying tb = some .bool)
    {H : Type} {enc : TypeId × Value → H} {W : World} {base : Nat} {args : Array Value} {ds gs : List (DataW H)} {before : List MemPlace} {apart fresh handsOn again : Bool}
    (hfn : ∀ ds : List (DataW H), ds.length = ts.length → (s.fn H ds).results = [.lit (.bool true)] ∧ (s.fn H ds).args = ds ∧ (s.fn H ds).vars = [])
    (hval : ∀ (j : Nat) t v, f.params[j]? = some t → args[j]? = some v → Value.okWide P W .any base t v)
    (hW : DataW.Whole enc P f.params.toList s.vars apart W args.toList ds gs before) (hnat : NatsOK P (look W) an.nat := by exact NatsOK.nil) :
    Calls P i args W fun e W' => ∃ v, e = .returned v ∧ s.post enc P f apart fresh handsOn again W args v W' := by
  have hW' := hW
  obtain ⟨p, q, hA, hV, rfl, hfz, hnd⟩ := hW
  rw [hts] at hA
  obtain ⟨b, hb, hrv⟩ := hargs.rd (fun j t v e1 e2 => hval j t v (by rw [← hts] at e1; simpa using e1) (by simpa using e2)) hA
  obtain ⟨hfn1, hfn2, hfn3⟩ := hfn ds (trodAll_len hA)
  obtain ⟨fuel, hev⟩ := hlaw b hb
  have := calls_of hmo hnat hev (fun b o h => h) (fun b o h => h) hrv
  rw [show args.toList.toArray = args by simp] at this
  refine this.mono ?_
  rintro e W' ⟨I', o1, o2, o3, o4, o5, _, _, o6⟩
  cases e with
  | panicked => exact o6.elim
  | outgrown => exact o6.elim
  | returned x =>
    have hx : x = .bool true := o6
    subst hx
    exact ⟨_, rfl, law_post hl (fun t ht => have h := hpar t (hts ▸ ht); ⟨h.1, of_decide_eq_true h.2⟩) hvars hr htb hfn1 hfn2 hfn3 hW' ⟨o1, o2, o3, o4, o5⟩⟩
end
end Go.AS
