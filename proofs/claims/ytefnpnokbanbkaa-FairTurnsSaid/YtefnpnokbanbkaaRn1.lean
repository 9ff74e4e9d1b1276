/-
  Typed values, and what operations answer at them. By an AI agent.
-/
import Derived.Test.YtefnpnokbanbkaaRn0
set_option linter.all false
namespace Go.AS
open Go

section
variable {funs : Nat → Option IFun} {Q : IX → Env → Stack → Prop} {cs : List Fr} {d : Bool} {dr : List Nat} {l : List IOper} {e : Env} {S : Stack} {t : Option Nat}
theorem RunO_mv (x : Opd) {H : Heap} : RunO funs Q cs d dr (⟨t, .mv x, none⟩ :: l) e (H :: S) = RunV funs Q cs d dr l e S t (opV H (.mv (.c (x.ev e)))) := RunO_op rfl
theorem RunO_pick (c a b : Opd) {H : Heap} : RunO funs Q cs d dr (⟨t, .pick c a b, none⟩ :: l) e (H :: S) = RunV funs Q cs d dr l e S t (opV H (.pick (.c (c.ev e)) (.c (a.ev e)) (.c (b.ev e)))) := RunO_op rfl
theorem RunO_box (n : Nat) (x : Opd) {H : Heap} : RunO funs Q cs d dr (⟨t, .box n x, none⟩ :: l) e (H :: S) = RunV funs Q cs d dr l e S t (opV H (.box n (.c (x.ev e)))) := RunO_op rfl
theorem RunO_load (n : Option Nat) (x : Opd) {H : Heap} : RunO funs Q cs d dr (⟨t, .load n x, none⟩ :: l) e (H :: S) = RunV funs Q cs d dr l e S t (opV H (.load n (.c (x.ev e)))) := RunO_op rfl
theorem RunO_store (n : Nat) (a x : Opd) {H : Heap} : RunO funs Q cs d dr (⟨t, .store n a x, none⟩ :: l) e (H :: S) = RunV funs Q cs d dr l e S t (opV H (.store n (.c (a.ev e)) (.c (x.ev e)))) := RunO_op rfl
theorem RunO_nilck (x : Opd) {H : Heap} : RunO funs Q cs d dr (⟨t, .nilck x, none⟩ :: l) e (H :: S) = RunV funs Q cs d dr l e S t (opV H (.nilck (.c (x.ev e)))) := RunO_op rfl
theorem RunO_bin (op : BinOp) (x y : Opd) {H : Heap} : RunO funs Q cs d dr (⟨t, .bin op x y, none⟩ :: l) e (H :: S) = RunV funs Q cs d dr l e S t (opV H (.bin op (.c (x.ev e)) (.c (y.ev e)))) := RunO_op rfl
theorem RunO_eqb (ng : Bool) (x y : Opd) {H : Heap} : RunO funs Q cs d dr (⟨t, .eqb ng x y, none⟩ :: l) e (H :: S) = RunV funs Q cs d dr l e S t (opV H (.eqb ng (.c (x.ev e)) (.c (y.ev e)))) := RunO_op rfl
theorem RunO_eqn (k : Nat) (ng : Bool) (x y : Opd) {H : Heap} : RunO funs Q cs d dr (⟨t, .eqn k ng x y, none⟩ :: l) e (H :: S) = RunV funs Q cs d dr l e S t (opV H (.eqn k ng (.c (x.ev e)) (.c (y.ev e)))) := RunO_op rfl
theorem RunO_eqa (ng : Bool) (o : List (Nat × Nat)) (x y : Opd) {H : Heap} : RunO funs Q cs d dr (⟨t, .eqa ng o x y, none⟩ :: l) e (H :: S) = RunV funs Q cs d dr l e S t (opV H (.eqa ng o (.c (x.ev e)) (.c (y.ev e)))) := RunO_op rfl
theorem RunO_neg (x : Opd) {H : Heap} : RunO funs Q cs d dr (⟨t, .neg x, none⟩ :: l) e (H :: S) = RunV funs Q cs d dr l e S t (opV H (.neg (.c (x.ev e)))) := RunO_op rfl
theorem RunO_inv (x : Opd) {H : Heap} : RunO funs Q cs d dr (⟨t, .inv x, none⟩ :: l) e (H :: S) = RunV funs Q cs d dr l e S t (opV H (.inv (.c (x.ev e)))) := RunO_op rfl
theorem RunO_not (x : Opd) {H : Heap} : RunO funs Q cs d dr (⟨t, .not x, none⟩ :: l) e (H :: S) = RunV funs Q cs d dr l e S t (opV H (.not (.c (x.ev e)))) := RunO_op rfl
theorem RunO_conv (k : IntKind) (x : Opd) {H : Heap} : RunO funs Q cs d dr (⟨t, .conv k x, none⟩ :: l) e (H :: S) = RunV funs Q cs d dr l e S t (opV H (.conv k (.c (x.ev e)))) := RunO_op rfl
theorem RunO_bytes (x : Opd) {H : Heap} : RunO funs Q cs d dr (⟨t, .bytes x, none⟩ :: l) e (H :: S) = RunV funs Q cs d dr l e S t (opV H (.bytes (.c (x.ev e)))) := RunO_op rfl
theorem RunO_text (x : Opd) {H : Heap} : RunO funs Q cs d dr (⟨t, .text x, none⟩ :: l) e (H :: S) = RunV funs Q cs d dr l e S t (opV H (.text (.c (x.ev e)))) := RunO_op rfl
theorem RunO_mvs (x : Opd) {H : Heap} : RunO funs Q cs d dr (⟨t, .mvs x, none⟩ :: l) e (H :: S) = RunV funs Q cs d dr l e S t (opV H (.mvs (.c (x.ev e)))) := RunO_op rfl
theorem RunO_mkif (ti : TypeId) (x : Opd) {H : Heap} : RunO funs Q cs d dr (⟨t, .mkif ti x, none⟩ :: l) e (H :: S) = RunV funs Q cs d dr l e S t (opV H (.mkif ti (.c (x.ev e)))) := RunO_op rfl
theorem RunO_mksl (es b : Nat) (z : List AV) (n c : Opd) {H : Heap} : RunO funs Q cs d dr (⟨t, .mksl es b z n c, none⟩ :: l) e (H :: S) = RunV funs Q cs d dr l e S t (opV H (.mksl es b z (.c (n.ev e)) (.c (c.ev e)))) := RunO_op rfl
theorem RunO_sub (es : Nat) (x : Opd) (lo hi mx : Option Opd) {H : Heap} : RunO funs Q cs d dr (⟨t, .sub es x lo hi mx, none⟩ :: l) e (H :: S) = RunV funs Q cs d dr l e S t (opV H (.sub es (.c (x.ev e)) (lo.map fun o => .c (o.ev e)) (hi.map fun o => .c (o.ev e)) (mx.map fun o => .c (o.ev e)))) := RunO_op rfl
theorem RunO_subs (x : Opd) (lo hi : Option Opd) {H : Heap} : RunO funs Q cs d dr (⟨t, .subs x lo hi, none⟩ :: l) e (H :: S) = RunV funs Q cs d dr l e S t (opV H (.subs (.c (x.ev e)) (lo.map fun o => .c (o.ev e)) (hi.map fun o => .c (o.ev e)))) := RunO_op rfl
theorem RunO_suba (n es : Nat) (x : Opd) (lo hi mx : Option Opd) {H : Heap} : RunO funs Q cs d dr (⟨t, .suba n es x lo hi mx, none⟩ :: l) e (H :: S) = RunV funs Q cs d dr l e S t (opV H (.suba n es (.c (x.ev e)) (lo.map fun o => .c (o.ev e)) (hi.map fun o => .c (o.ev e)) (mx.map fun o => .c (o.ev e)))) := RunO_op rfl
theorem RunO_faddr (o : Nat) (x : Opd) {H : Heap} : RunO funs Q cs d dr (⟨t, .faddr o x, none⟩ :: l) e (H :: S) = RunV funs Q cs d dr l e S t (opV H (.faddr o (.c (x.ev e)))) := RunO_op rfl
theorem RunO_fld (o : Nat) (n : Option Nat) (x : Opd) {H : Heap} : RunO funs Q cs d dr (⟨t, .fld o n x, none⟩ :: l) e (H :: S) = RunV funs Q cs d dr l e S t (opV H (.fld o n (.c (x.ev e)))) := RunO_op rfl
theorem RunO_ixa (es : Nat) (x i : Opd) {H : Heap} : RunO funs Q cs d dr (⟨t, .ixa es x i, none⟩ :: l) e (H :: S) = RunV funs Q cs d dr l e S t (opV H (.ixa es (.c (x.ev e)) (.c (i.ev e)))) := RunO_op rfl
theorem RunO_ixaa (n es : Nat) (x i : Opd) {H : Heap} : RunO funs Q cs d dr (⟨t, .ixaa n es x i, none⟩ :: l) e (H :: S) = RunV funs Q cs d dr l e S t (opV H (.ixaa n es (.c (x.ev e)) (.c (i.ev e)))) := RunO_op rfl
theorem RunO_ixs (x i : Opd) {H : Heap} : RunO funs Q cs d dr (⟨t, .ixs x i, none⟩ :: l) e (H :: S) = RunV funs Q cs d dr l e S t (opV H (.ixs (.c (x.ev e)) (.c (i.ev e)))) := RunO_op rfl
theorem RunO_ixv (n es : Nat) (g : Bool) (x i : Opd) {H : Heap} : RunO funs Q cs d dr (⟨t, .ixv n es g x i, none⟩ :: l) e (H :: S) = RunV funs Q cs d dr l e S t (opV H (.ixv n es g (.c (x.ev e)) (.c (i.ev e)))) := RunO_op rfl
theorem RunO_look (kk : Nat) (z : AV) (ok : Bool) (m k : Opd) {H : Heap} : RunO funs Q cs d dr (⟨t, .look kk z ok m k, none⟩ :: l) e (H :: S) = RunV funs Q cs d dr l e S t (opV H (.look kk z ok (.c (m.ev e)) (.c (k.ev e)))) := RunO_op rfl
theorem RunO_mapup (kk : Nat) (m k v : Opd) {H : Heap} : RunO funs Q cs d dr (⟨t, .mapup kk m k v, none⟩ :: l) e (H :: S) = RunV funs Q cs d dr l e S t (opV H (.mapup kk (.c (m.ev e)) (.c (k.ev e)) (.c (v.ev e)))) := RunO_op rfl
theorem RunO_extr (x : Opd) (i : Nat) {H : Heap} : RunO funs Q cs d dr (⟨t, .extr x i, none⟩ :: l) e (H :: S) = RunV funs Q cs d dr l e S t (opV H (.extr (.c (x.ev e)) i)) := RunO_op rfl
theorem RunO_len (x : Opd) {H : Heap} : RunO funs Q cs d dr (⟨t, .len x, none⟩ :: l) e (H :: S) = RunV funs Q cs d dr l e S t (opV H (.len (.c (x.ev e)))) := RunO_op rfl
theorem RunO_lens (x : Opd) {H : Heap} : RunO funs Q cs d dr (⟨t, .lens x, none⟩ :: l) e (H :: S) = RunV funs Q cs d dr l e S t (opV H (.lens (.c (x.ev e)))) := RunO_op rfl
theorem RunO_lenm (x : Opd) {H : Heap} : RunO funs Q cs d dr (⟨t, .lenm x, none⟩ :: l) e (H :: S) = RunV funs Q cs d dr l e S t (opV H (.lenm (.c (x.ev e)))) := RunO_op rfl
theorem RunO_cap (x : Opd) {H : Heap} : RunO funs Q cs d dr (⟨t, .cap x, none⟩ :: l) e (H :: S) = RunV funs Q cs d dr l e S t (opV H (.cap (.c (x.ev e)))) := RunO_op rfl
theorem RunO_append (es b : Nat) (s x : Opd) {H : Heap} : RunO funs Q cs d dr (⟨t, .append es b s x, none⟩ :: l) e (H :: S) = RunV funs Q cs d dr l e S t (opV H (.append es b (.c (s.ev e)) (.c (x.ev e)))) := RunO_op rfl
theorem RunO_copy (es : Nat) (a s : Opd) {H : Heap} : RunO funs Q cs d dr (⟨t, .copy es a s, none⟩ :: l) e (H :: S) = RunV funs Q cs d dr l e S t (opV H (.copy es (.c (a.ev e)) (.c (s.ev e)))) := RunO_op rfl
theorem RunO_clearm (m : Opd) {H : Heap} : RunO funs Q cs d dr (⟨t, .clearm m, none⟩ :: l) e (H :: S) = RunV funs Q cs d dr l e S t (opV H (.clearm (.c (m.ev e)))) := RunO_op rfl
theorem RunO_clears (es : Nat) (z : List AV) (s : Opd) {H : Heap} : RunO funs Q cs d dr (⟨t, .clears es z s, none⟩ :: l) e (H :: S) = RunV funs Q cs d dr l e S t (opV H (.clears es z (.c (s.ev e)))) := RunO_op rfl
theorem RunO_del (kk : Nat) (m k : Opd) {H : Heap} : RunO funs Q cs d dr (⟨t, .del kk m k, none⟩ :: l) e (H :: S) = RunV funs Q cs d dr l e S t (opV H (.del kk (.c (m.ev e)) (.c (k.ev e)))) := RunO_op rfl
theorem RunO_minmax (mx : Bool) (xs : List Opd) {H : Heap} : RunO funs Q cs d dr (⟨t, .minmax mx xs, none⟩ :: l) e (H :: S) = RunV funs Q cs d dr l e S t (opV H (.minmax mx ((evs e xs).map .c))) := RunO_op rfl
theorem RunO_build (z : List AV) (ps : List (Nat × Nat × Opd)) {H : Heap} : RunO funs Q cs d dr (⟨t, .build z ps, none⟩ :: l) e (H :: S) = RunV funs Q cs d dr l e S t (opV H (.build z (ps.map fun p => (p.1, p.2.1, .c (p.2.2.ev e))))) := RunO_op rfl
theorem RunO_bsl (mt : Bool) (es n : Nat) (z : List AV) (ps : List (Nat × Nat × Opd)) {H : Heap} : RunO funs Q cs d dr (⟨t, .bsl mt es n z ps, none⟩ :: l) e (H :: S) = RunV funs Q cs d dr l e S t (opV H (.bsl mt es n z (ps.map fun p => (p.1, p.2.1, .c (p.2.2.ev e))))) := RunO_op rfl
theorem RunO_mkfn (fn : Fn) (fi ca : List Opd) {H : Heap} : RunO funs Q cs d dr (⟨t, .mkfn fn fi ca, none⟩ :: l) e (H :: S) = RunV funs Q cs d dr l e S t (opV H (.mkfn fn ((evs e fi).map .c) ((evs e ca).map .c))) := RunO_op rfl
theorem RunO_ment (kk : Nat) (z : AV) (m k : Opd) {H : Heap} : RunO funs Q cs d dr (⟨t, .ment kk z m k, none⟩ :: l) e (H :: S) = RunV funs Q cs d dr l e S t (opV H (.ment kk z (.c (m.ev e)) (.c (k.ev e)))) := RunO_op rfl
theorem RunO_mentst (m s v : Opd) {H : Heap} : RunO funs Q cs d dr (⟨t, .mentst m s v, none⟩ :: l) e (H :: S) = RunV funs Q cs d dr l e S t (opV H (.mentst (.c (m.ev e)) (.c (s.ev e)) (.c (v.ev e)))) := RunO_op rfl
theorem RunO_alloc (z : List AV) {H : Heap} : RunO funs Q cs d dr (⟨t, .alloc z, none⟩ :: l) e (H :: S) = RunV funs Q cs d dr l e S t (opV H (.alloc z)) := RunO_op rfl
theorem RunO_mkmap  {H : Heap} : RunO funs Q cs d dr (⟨t, .mkmap , none⟩ :: l) e (H :: S) = RunV funs Q cs d dr l e S t (opV H (.mkmap)) := RunO_op rfl
end

/-! ### Kinds of data, as cells -/
class Cel (α : Type) where
  n : Nat
  enc : α → List AV
  len : ∀ a, (enc a).length = n
  free : ∀ a, hfrees (enc a) = true
  canon : ∀ a, fgs (enc a) = enc a

/-- Of one cell. -/
class One (α : Type) where
  v : α → AV
  free : ∀ a, hfree (v a) = true
  canon : ∀ a, fg (v a) = v a
  one : ∀ a, cellsOf (v a) = some [v a]

instance (priority := 100) One.cel {α : Type} [One α] : Cel α where
  n := 1
  enc a := [One.v a]
  len _ := rfl
  free a := by simp [hfrees, One.free]
  canon a := by simp [fgs, One.canon]

abbrev Str := List UInt8
instance oneInt : One Int := ⟨fun x => .int .i64 x, fun _ => rfl, fun _ => rfl, fun _ => rfl⟩
instance oneU8 : One UInt8 := ⟨fun x => .int .u8 x.toNat, fun _ => rfl, fun _ => rfl, fun _ => rfl⟩
instance oneU64 : One UInt64 := ⟨fun x => .int .u64 x.toNat, fun _ => rfl, fun _ => rfl, fun _ => rfl⟩
instance oneBool : One Bool := ⟨fun x => .bool x, fun _ => rfl, fun _ => rfl, fun _ => rfl⟩
instance oneStr : One Str := ⟨fun x => .str x, fun _ => rfl, fun _ => rfl, fun _ => rfl⟩

section
variable {α : Type} [Cel α]

def cellsL (l : List α) : List AV := l.flatMap Cel.enc
theorem cellsL_nil : cellsL ([] : List α) = [] := rfl
theorem cellsL_cons (a : α) (l : List α) : cellsL (a :: l) = Cel.enc a ++ cellsL l := rfl
theorem cellsL_append (a b : List α) : cellsL (a ++ b) = cellsL a ++ cellsL b := by simp [cellsL]
theorem cellsL_length (l : List α) : (cellsL l).length = l.length * Cel.n α := by
  induction l with
  | nil => simp [cellsL]
  | cons a r ih => simp [cellsL_cons, ih, Cel.len, Nat.add_mul]; omega
theorem hfrees_append (a b : List AV) : hfrees (a ++ b) = (hfrees a && hfrees b) := by
  induction a with
  | nil => rfl
  | cons x r ih => simp [hfrees, ih, Bool.and_assoc]
theorem fgs_append (a b : List AV) : fgs (a ++ b) = fgs a ++ fgs b := by
  induction a with
  | nil => rfl
  | cons x r ih => simp [fgs, ih]
theorem hfrees_cellsL (l : List α) : hfrees (cellsL l) = true := by
  induction l with
  | nil => rfl
  | cons a r ih => simp [cellsL_cons, hfrees_append, ih, Cel.free]
theorem fgs_cellsL (l : List α) : fgs (cellsL l) = cellsL l := by
  induction l with
  | nil => rfl
  | cons a r ih => simp [cellsL_cons, fgs_append, ih, Cel.canon]
theorem cellsL_at : ∀ (l : List α) (i : Nat) (h : i < l.length), ((cellsL l).drop (i * Cel.n α)).take (Cel.n α) = Cel.enc l[i]
  | a :: r, 0, _ => by simp [cellsL_cons, ← Cel.len a]
  | a :: r, i + 1, h => by
    have : (i + 1) * Cel.n α = (Cel.enc a).length + i * Cel.n α := by rw [Cel.len, Nat.add_mul]; omega
    rw [cellsL_cons, this, ← List.drop_drop, List.drop_left, cellsL_at r i (by simpa using h)]
    rfl
theorem cellsL_drop (l : List α) (i : Nat) : (cellsL l).drop (i * Cel.n α) = cellsL (l.drop i) := by
  induction l generalizing i with
  | nil => simp [cellsL]
  | cons a r ih =>
    cases i with
    | zero => simp
    | succ i =>
      have : (i + 1) * Cel.n α = (Cel.enc a).length + i * Cel.n α := by rw [Cel.len, Nat.add_mul]; omega
      rw [cellsL_cons, this, ← List.drop_drop, List.drop_left, ih]; rfl
theorem cellsL_take (l : List α) (i : Nat) : (cellsL l).take (i * Cel.n α) = cellsL (l.take i) := by
  induction l generalizing i with
  | nil => simp [cellsL]
  | cons a r ih =>
    cases i with
    | zero => simp [cellsL]
    | succ i =>
      have : (i + 1) * Cel.n α = (Cel.enc a).length + i * Cel.n α := by rw [Cel.len, Nat.add_mul]; omega
      rw [cellsL_cons, this, List.take_length_add_append, ih]; rfl

/-- A slice that nobody writes. -/
def sl (nl : Bool) (l : List α) : AV := imm0 nl (Cel.n α) l.length none (cellsL l)
theorem sl_free (nl : Bool) (l : List α) : hfree (sl nl l) = true := hfrees_cellsL l
theorem sl_canon (nl : Bool) (l : List α) : fg (sl nl l) = sl nl l := by
  unfold sl imm0
  cases l with
  | nil => rfl
  | cons a r =>
    have : Nat.beq (a :: r).length 0 = false := rfl
    rw [this]
    simp only [cond_false, fg, this, fgs_cellsL]
/-- A place in it. -/
def elp (l : List α) (i : Nat) : AV := .iptr (cellsL l) (i * Cel.n α)
/-- A field's place in it. -/
def flp (l : List α) (i off : Nat) : AV := .iptr (cellsL l) (i * Cel.n α + off)
end

structure Sl (α : Type) where
  nil : Bool
  l : List α
instance oneSl {α : Type} [Cel α] : One (Sl α) := ⟨fun s => sl s.nil s.l, fun _ => sl_free _ _, fun _ => sl_canon _ _, fun s => by unfold sl imm0; rfl⟩

/-! ### Operations at known operands -/
section
variable {H : Heap}

theorem opV_mv {v : AV} : opV H (.mv (.c v)) = some (v, H) := rfl
theorem opV_nilck_iptr {a : List AV} {b : Nat} : opV H (.nilck (.c (.iptr a b))) = some (.iptr a b, H) := rfl
theorem opV_nilck_ptr {a b c : Nat} : opV H (.nilck (.c (.ptr a b c))) = some (.ptr a b c, H) := rfl
theorem opV_pick {t : Bool} {a b : AV} : opV H (.pick (.c (.bool t)) (.c a) (.c b)) = some (bif t then a else b, H) := rfl
theorem opV_pick_and {p q : Prop} [Decidable p] [Decidable q] : opV H (.pick (.c (.bool (decide p))) (.c (.bool (decide q))) (.c (.bool false))) = some (.bool (decide (p ∧ q)), H) := by
  by_cases h : p <;> simp [opV, evOp, Opd.ev, ok, h]
theorem opV_pick_or {p q : Prop} [Decidable p] [Decidable q] : opV H (.pick (.c (.bool (decide p))) (.c (.bool true)) (.c (.bool (decide q)))) = some (.bool (decide (p ∨ q)), H) := by
  by_cases h : p <;> simp [opV, evOp, Opd.ev, ok, h]
theorem opV_not {b : Bool} : opV H (.not (.c (.bool b))) = some (.bool (!b), H) := rfl
theorem opV_extr {vs : List AV} {i : Nat} : opV H (.extr (.c (.tuple vs)) i) = (vs[i]?).map (·, H) := rfl
theorem opV_mkmap : opV H .mkmap = some (.map H.length, H ++ [.map [] 0]) := rfl
theorem opV_alloc {z : List AV} : opV H (.alloc z) = some (.ptr H.length z.length 0, H ++ [.cells z]) := rfl
theorem opV_mkif {t : TypeId} {v : AV} : opV H (.mkif t (.c v)) = some (.iface t v, H) := rfl
theorem opV_mkfn {fn : Fn} {fi ca : List AV} : opV H (.mkfn fn (fi.map .c) (ca.map .c)) = some (.func fn fi ca, H) := by
  simp only [opV, evOp, evs_c, ok]

theorem ikEq_self (k : IntKind) : ikEq k k = true := by cases k <;> rfl
theorem opV_add {k : IntKind} {a b : Int} : opV H (.bin .add (.c (.int k a)) (.c (.int k b))) = some (.int k (k.wrap (a + b)), H) := by simp [opV, evOp, Opd.ev, binA, ikEq_self]
theorem opV_minus {k : IntKind} {a b : Int} : opV H (.bin .sub (.c (.int k a)) (.c (.int k b))) = some (.int k (k.wrap (a - b)), H) := by simp [opV, evOp, Opd.ev, binA, ikEq_self]
theorem opV_mul {k : IntKind} {a b : Int} : opV H (.bin .mul (.c (.int k a)) (.c (.int k b))) = some (.int k (k.wrap (a * b)), H) := by simp [opV, evOp, Opd.ev, binA, ikEq_self]
theorem opV_quo {k : IntKind} {a b : Int} (h : b ≠ 0) : opV H (.bin .quo (.c (.int k a)) (.c (.int k b))) = some (.int k (k.wrap (a.tdiv b)), H) := by
  have h2 : (b == 0) = false := by simpa using h
  simp [opV, evOp, Opd.ev, binA, ikEq_self, h2]
theorem opV_rem {k : IntKind} {a b : Int} (h : b ≠ 0) : opV H (.bin .rem (.c (.int k a)) (.c (.int k b))) = some (.int k (a.tmod b), H) := by
  have h2 : (b == 0) = false := by simpa using h
  simp [opV, evOp, Opd.ev, binA, ikEq_self, h2]
theorem opV_eql {k : IntKind} {a b : Int} : opV H (.bin .eql (.c (.int k a)) (.c (.int k b))) = some (.bool (decide (a = b)), H) := by simp [opV, evOp, Opd.ev, binA, ikEq_self]; rfl
theorem opV_neq {k : IntKind} {a b : Int} : opV H (.bin .neq (.c (.int k a)) (.c (.int k b))) = some (.bool (decide (¬ a = b)), H) := by
  have : (a != b) = decide (¬ a = b) := by by_cases h : a = b <;> simp [h]
  simp [opV, evOp, Opd.ev, binA, ikEq_self, this]
theorem opV_lss {k : IntKind} {a b : Int} : opV H (.bin .lss (.c (.int k a)) (.c (.int k b))) = some (.bool (decide (a < b)), H) := by simp [opV, evOp, Opd.ev, binA, ikEq_self]
theorem opV_leq {k : IntKind} {a b : Int} : opV H (.bin .leq (.c (.int k a)) (.c (.int k b))) = some (.bool (decide (a ≤ b)), H) := by simp [opV, evOp, Opd.ev, binA, ikEq_self]
theorem opV_gtr {k : IntKind} {a b : Int} : opV H (.bin .gtr (.c (.int k a)) (.c (.int k b))) = some (.bool (decide (b < a)), H) := by simp [opV, evOp, Opd.ev, binA, ikEq_self]
theorem opV_geq {k : IntKind} {a b : Int} : opV H (.bin .geq (.c (.int k a)) (.c (.int k b))) = some (.bool (decide (b ≤ a)), H) := by simp [opV, evOp, Opd.ev, binA, ikEq_self]
theorem opV_shl {k k' : IntKind} {a b : Int} (h : 0 ≤ b) : opV H (.bin .shl (.c (.int k a)) (.c (.int k' b))) = some (.int k (k.wrap (a * 2 ^ (min b.toNat k.bits))), H) := by
  have : decide (b < 0) = false := by simp; omega
  simp [opV, evOp, Opd.ev, binA, this]
theorem opV_shr {k k' : IntKind} {a b : Int} (h : 0 ≤ b) : opV H (.bin .shr (.c (.int k a)) (.c (.int k' b))) = some (.int k (a.fdiv (2 ^ (min b.toNat k.bits))), H) := by
  have : decide (b < 0) = false := by simp; omega
  simp [opV, evOp, Opd.ev, binA, this]
theorem opV_xor {k : IntKind} {a b : Int} : opV H (.bin .xor (.c (.int k a)) (.c (.int k b))) = some (.int k (bitop .xor k a b), H) := by simp [opV, evOp, Opd.ev, binA, ikEq_self]
theorem opV_and {k : IntKind} {a b : Int} : opV H (.bin .and (.c (.int k a)) (.c (.int k b))) = some (.int k (bitop .and k a b), H) := by simp [opV, evOp, Opd.ev, binA, ikEq_self]
theorem opV_or {k : IntKind} {a b : Int} : opV H (.bin .or (.c (.int k a)) (.c (.int k b))) = some (.int k (bitop .or k a b), H) := by simp [opV, evOp, Opd.ev, binA, ikEq_self]
theorem opV_adds {a b : Str} (h : a.length + b.length ≤ 9223372036854775807) : opV H (.bin .add (.c (.str a)) (.c (.str b))) = some (.str (a ++ b), H) := by
  have : Nat.ble (a.length + b.length) 9223372036854775807 = true := Nat.ble_eq_true_of_le h
  simp only [opV, evOp, Opd.ev, binA, this, cond_true, Option.map_some]
theorem opV_eqls {a b : Str} : opV H (.bin .eql (.c (.str a)) (.c (.str b))) = some (.bool (decide (a = b)), H) := by
  have : (a == b) = decide (a = b) := by by_cases h : a = b <;> simp [h]
  simp [opV, evOp, Opd.ev, binA, this]
theorem opV_neqs {a b : Str} : opV H (.bin .neq (.c (.str a)) (.c (.str b))) = some (.bool (decide (¬ a = b)), H) := by
  have : (a == b) = decide (a = b) := by by_cases h : a = b <;> simp [h]
  simp [opV, evOp, Opd.ev, binA, this]
def slt (a b : Str) : Prop := bytesLt a b = true
instance (a b : Str) : Decidable (slt a b) := by unfold slt; infer_instance
theorem opV_lsss {a b : Str} : opV H (.bin .lss (.c (.str a)) (.c (.str b))) = some (.bool (decide (slt a b)), H) := by cases h : bytesLt a b <;> simp [opV, evOp, Opd.ev, binA, slt, h]
theorem opV_geqs {a b : Str} : opV H (.bin .geq (.c (.str a)) (.c (.str b))) = some (.bool (decide (¬ slt a b)), H) := by cases h : bytesLt a b <;> simp [opV, evOp, Opd.ev, binA, slt, h]
theorem opV_leqs {a b : Str} : opV H (.bin .leq (.c (.str a)) (.c (.str b))) = some (.bool (decide (slt a b ∨ a = b)), H) := by
  have : (a == b) = decide (a = b) := by by_cases h : a = b <;> simp [h]
  cases h : bytesLt a b <;> simp [opV, evOp, Opd.ev, binA, slt, this, h]
theorem opV_gtrs {a b : Str} : opV H (.bin .gtr (.c (.str a)) (.c (.str b))) = some (.bool (decide (¬ (slt a b ∨ a = b))), H) := by
  have : (a == b) = decide (a = b) := by by_cases h : a = b <;> simp [h]
  cases h : bytesLt a b <;> simp [opV, evOp, Opd.ev, binA, slt, this, h]
theorem opV_eqb_f {a b : Bool} : opV H (.eqb false (.c (.bool a)) (.c (.bool b))) = some (.bool (decide (a = b)), H) := by cases a <;> cases b <;> rfl
theorem opV_eqb_t {a b : Bool} : opV H (.eqb true (.c (.bool a)) (.c (.bool b))) = some (.bool (decide (¬ a = b)), H) := by cases a <;> cases b <;> rfl
theorem opV_neg {k : IntKind} {a : Int} : opV H (.neg (.c (.int k a))) = some (.int k (k.wrap (0 - a)), H) := rfl
theorem opV_conv {k k' : IntKind} {a : Int} : opV H (.conv k (.c (.int k' a))) = some (.int k (k.wrap a), H) := rfl
theorem opV_mvs {s : Str} : opV H (.mvs (.c (.str s))) = some (.str s, H) := rfl
theorem opV_lens {s : Str} : opV H (.lens (.c (.str s))) = some (.int .i64 s.length, H) := rfl
theorem opV_max {k : IntKind} {a b : Int} : opV H (.minmax true [.c (.int k a), .c (.int k b)]) = some (.int k (max a b), H) := by
  have : (bif decide (a < b) then b else a) = max a b := by rw [Bool.cond_eq_ite]; split <;> simp_all <;> omega
  simp [opV, evOp, evs, Opd.ev, minmaxA, intsMM, ikEq_self, this]
theorem opV_min {k : IntKind} {a b : Int} : opV H (.minmax false [.c (.int k a), .c (.int k b)]) = some (.int k (min a b), H) := by
  have : (bif decide (b < a) then b else a) = min a b := by rw [Bool.cond_eq_ite]; split <;> simp_all <;> omega
  simp [opV, evOp, evs, Opd.ev, minmaxA, intsMM, ikEq_self, this]
theorem opV_ixs {s : Str} {k : IntKind} {j : Int} (h0 : 0 ≤ j) (h1 : j < s.length) : opV H (.ixs (.c (.str s)) (.c (.int k j))) = some (.int .u8 (s[j.toNat]'(by omega)).toNat, H) := by
  have h2 : j.toNat < s.length := by omega
  simp [opV, evOp, Opd.ev, h0, List.getElem?_eq_getElem h2, ok]
theorem opV_subs {s : Str} {k k' : IntKind} {a b : Int} (h0 : 0 ≤ a) (h1 : a ≤ b) (h2 : b ≤ s.length) : opV H (.subs (.c (.str s)) (some (.c (.int k a))) (some (.c (.int k' b)))) = some (.str ((s.drop a.toNat).take (b.toNat - a.toNat)), H) := by
  have c1 : decide (0 ≤ b) = true := by simp; omega
  have c2 : decide (b ≤ (s.length : Int)) = true := by simpa using h2
  have c3 : decide (0 ≤ a) = true := by simpa using h0
  have c4 : decide (a ≤ ((b.toNat : Nat) : Int)) = true := by simp; omega
  simp only [opV, evOp, Opd.ev, cut, cutHi, cutLo, bnd, c1, c2, c3, c4, Bool.and_self, cond_true, Option.map_some, ok]
theorem opV_subs_lo {s : Str} {k : IntKind} {a : Int} (h0 : 0 ≤ a) (h1 : a ≤ s.length) : opV H (.subs (.c (.str s)) (some (.c (.int k a))) none) = some (.str (s.drop a.toNat), H) := by
  have c3 : decide (0 ≤ a) = true := by simpa using h0
  have c4 : decide (a ≤ (s.length : Int)) = true := by simpa using h1
  simp only [opV, evOp, Opd.ev, cut, cutHi, cutLo, bnd, c3, c4, Bool.and_self, cond_true, Option.map_some, ok]
  rw [List.take_of_length_le (by simp)]
theorem opV_subs_hi {s : Str} {k : IntKind} {b : Int} (h1 : 0 ≤ b) (h2 : b ≤ s.length) : opV H (.subs (.c (.str s)) none (some (.c (.int k b)))) = some (.str (s.take b.toNat), H) := by
  have c3 : decide (0 ≤ b) = true := by simpa using h1
  have c4 : decide (b ≤ (s.length : Int)) = true := by simpa using h2
  simp only [opV, evOp, Opd.ev, cut, cutHi, cutLo, bnd, c3, c4, Bool.and_self, cond_true, Option.map_some, ok, List.drop_zero, Nat.sub_zero]

section
variable {α : Type}
theorem opV_len [Cel α] {nl : Bool} {l : List α} : opV H (.len (.c (sl nl l))) = some (.int .i64 l.length, H) := rfl
theorem opV_len_imm {nl : Bool} {es n : Nat} {c : Option Nat} {cs : List AV} : opV H (.len (.c (.imm nl es n c cs))) = some (.int .i64 n, H) := rfl
theorem opV_isnil [Cel α] {nl : Bool} {l : List α} : opV H (.eqn 1 false (.c (sl nl l)) (.c (.imm true 0 0 (some 0) []))) = some (.bool nl, H) := by
  unfold sl imm0; cases nl <;> rfl
theorem opV_notnil [Cel α] {nl : Bool} {l : List α} : opV H (.eqn 1 true (.c (sl nl l)) (.c (.imm true 0 0 (some 0) []))) = some (.bool (!nl), H) := by
  unfold sl imm0; cases nl <;> rfl
theorem opV_ixa [Cel α] {nl : Bool} {l : List α} {k : IntKind} {j : Int} {es : Nat} (h0 : 0 ≤ j) (h1 : j < l.length) (he : Nat.beq es (Cel.n α) = true) : opV H (.ixa es (.c (sl nl l)) (.c (.int k j))) = some (elp l j.toNat, H) := by
  have he := Nat.eq_of_beq_eq_true he
  subst he
  have h2 : Nat.beq l.length 0 = false := by
    cases l with
    | nil => simp at h1; omega
    | cons a r => rfl
  have c1 : decide (0 ≤ j) = true := by simpa using h0
  have c2 : decide (j < (l.length : Int)) = true := by simpa using h1
  have c3 : ∀ n, Nat.beq n n = true := fun n => by simp
  simp only [opV, evOp, Opd.ev, sl, imm0, h2, cond_false, c1, c2, c3, Bool.and_self, cond_true, ok, elp]
theorem opV_load [One α] {l : List α} {i : Nat} (h : i < l.length) : opV H (.load none (.c (elp l i))) = some (One.v l[i], H) := by
  have := cellsL_at l i h
  have h2 : (cellsL l)[i * Cel.n α]? = some (One.v l[i]) := by
    have h3 : (((cellsL l).drop (i * Cel.n α)).take (Cel.n α))[0]? = (Cel.enc l[i])[0]? := by rw [this]
    rw [List.getElem?_take, if_pos (by exact Nat.one_pos), List.getElem?_drop, Nat.add_zero] at h3
    exact h3
  simp only [opV, evOp, Opd.ev, elp, one, h2, Option.map_some]
theorem opV_loadn [Cel α] {l : List α} {i m : Nat} (h : i < l.length) (hm : Nat.beq m (Cel.n α) = true) : opV H (.load (some m) (.c (elp l i))) = some (.agg (Cel.enc l[i]), H) := by
  have hm := Nat.eq_of_beq_eq_true hm
  subst hm
  have h2 : Nat.ble (i * Cel.n α + Cel.n α) (cellsL l).length = true := by
    rw [cellsL_length]
    apply Nat.ble_eq_true_of_le
    have : (i + 1) * Cel.n α ≤ l.length * Cel.n α := Nat.mul_le_mul_right _ h
    rw [Nat.add_mul] at this; omega
  simp only [opV, evOp, Opd.ev, elp, one, h2, cond_true, Option.map_some, cellsL_at l i h]
theorem opV_faddr [Cel α] {l : List α} {i off : Nat} : opV H (.faddr off (.c (elp l i))) = some (flp l i off, H) := rfl
theorem opV_load_f [Cel α] {l : List α} {i off : Nat} (h : i < l.length) (ho : Nat.blt off (Cel.n α) = true) : opV H (.load none (.c (flp l i off))) = (one none (Cel.enc l[i]) off).map (·, H) := by
  have ho : off < Cel.n α := Nat.le_of_ble_eq_true ho
  have := cellsL_at l i h
  have h2 : (cellsL l)[i * Cel.n α + off]? = (Cel.enc l[i])[off]? := by
    rw [← this, List.getElem?_take, if_pos ho, List.getElem?_drop]
  simp only [opV, evOp, Opd.ev, flp, one, h2]
theorem opV_loadn_f [Cel α] {l : List α} {i off m : Nat} (h : i < l.length) (ho : Nat.ble (off + m) (Cel.n α) = true) : opV H (.load (some m) (.c (flp l i off))) = some (.agg (((Cel.enc l[i]).drop off).take m), H) := by
  have ho : off + m ≤ Cel.n α := Nat.le_of_ble_eq_true ho
  have h1 := cellsL_at l i h
  have h2 : Nat.ble (i * Cel.n α + off + m) (cellsL l).length = true := by
    rw [cellsL_length]
    apply Nat.ble_eq_true_of_le
    have : (i + 1) * Cel.n α ≤ l.length * Cel.n α := Nat.mul_le_mul_right _ h
    rw [Nat.add_mul] at this; omega
  have h3 : ((cellsL l).drop (i * Cel.n α + off)).take m = ((Cel.enc l[i]).drop off).take m := by
    rw [← h1, ← List.drop_drop, List.drop_take, List.take_take, Nat.min_eq_left (by omega)]
  simp only [opV, evOp, Opd.ev, flp, one, h2, cond_true, Option.map_some, h3]
theorem opV_fld {cs : List AV} {off : Nat} {m : Option Nat} : opV H (.fld off m (.c (.agg cs))) = (one m cs off).map (·, H) := rfl
theorem sub_sl [Cel α] {nl : Bool} {l : List α} {a b es : Nat} (he : es = Cel.n α) (h1 : a ≤ b) (h2 : b ≤ l.length) : imm0 nl es (b - a) none (((cellsL l).drop (a * es)).take ((b - a) * es)) = sl nl ((l.drop a).take (b - a)) := by
  subst he
  rw [cellsL_drop, cellsL_take]
  unfold sl
  rw [List.length_take, List.length_drop, Nat.min_eq_left (by omega)]
theorem sl_es [Cel α] {nl : Bool} {l : List α} : ∃ es, sl nl l = .imm nl es l.length none (cellsL l) ∧ (Nat.beq (Cel.n α) es || Nat.beq l.length 0) = true := by
  refine ⟨_, rfl, ?_⟩
  cases h : Nat.beq l.length 0 <;> simp
theorem opV_sub [Cel α] {nl : Bool} {l : List α} {k k' : IntKind} {a b : Int} {es : Nat} (h0 : 0 ≤ a) (h1 : a ≤ b) (h2 : b ≤ l.length) (he : Nat.beq es (Cel.n α) = true) :
    opV H (.sub es (.c (sl nl l)) (some (.c (.int k a))) (some (.c (.int k' b))) none) = some (sl nl ((l.drop a.toNat).take (b.toNat - a.toNat)), H) := by
  have he := Nat.eq_of_beq_eq_true he
  obtain ⟨es', e1, e2⟩ := sl_es (nl := nl) (l := l)
  have c1 : decide (0 ≤ b) = true := by simp; omega
  have c2 : decide (b ≤ (l.length : Int)) = true := by simpa using h2
  have c3 : decide (0 ≤ a) = true := by simpa using h0
  have c4 : decide (a ≤ ((b.toNat : Nat) : Int)) = true := by simp; omega
  rw [← he] at e2
  simp only [opV, evOp, Opd.ev, e1, e2, Bool.not_true, cond_false, cut, cutHi, cutLo, bnd, c1, c2, c3, c4, Bool.and_self, cond_true, Option.map_some, Option.map_none, ok]
  rw [sub_sl he (by omega) (by omega)]
theorem opV_sub_lo [Cel α] {nl : Bool} {l : List α} {k : IntKind} {a : Int} {es : Nat} (h0 : 0 ≤ a) (h1 : a ≤ l.length) (he : Nat.beq es (Cel.n α) = true) :
    opV H (.sub es (.c (sl nl l)) (some (.c (.int k a))) none none) = some (sl nl (l.drop a.toNat), H) := by
  have he := Nat.eq_of_beq_eq_true he
  obtain ⟨es', e1, e2⟩ := sl_es (nl := nl) (l := l)
  have c3 : decide (0 ≤ a) = true := by simpa using h0
  have c4 : decide (a ≤ (l.length : Int)) = true := by simpa using h1
  rw [← he] at e2
  simp only [opV, evOp, Opd.ev, e1, e2, Bool.not_true, cond_false, cut, cutHi, cutLo, bnd, c3, c4, Bool.and_self, cond_true, Option.map_some, Option.map_none, ok]
  rw [sub_sl he (by omega) (Nat.le_refl _), List.take_of_length_le (by simp)]
theorem opV_sub_hi [Cel α] {nl : Bool} {l : List α} {k : IntKind} {b : Int} {es : Nat} (h0 : 0 ≤ b) (h1 : b ≤ l.length) (he : Nat.beq es (Cel.n α) = true) :
    opV H (.sub es (.c (sl nl l)) none (some (.c (.int k b))) none) = some (sl nl (l.take b.toNat), H) := by
  have he := Nat.eq_of_beq_eq_true he
  obtain ⟨es', e1, e2⟩ := sl_es (nl := nl) (l := l)
  have c3 : decide (0 ≤ b) = true := by simpa using h0
  have c4 : decide (b ≤ (l.length : Int)) = true := by simpa using h1
  rw [← he] at e2
  simp only [opV, evOp, Opd.ev, e1, e2, Bool.not_true, cond_false, cut, cutHi, cutLo, bnd, c3, c4, Bool.and_self, cond_true, Option.map_some, Option.map_none, ok]
  rw [sub_sl he (by omega) (by omega)]
  simp
theorem opV_sub_all [Cel α] {nl : Bool} {l : List α} {es : Nat} (he : Nat.beq es (Cel.n α) = true) :
    opV H (.sub es (.c (sl nl l)) none none none) = some (sl nl l, H) := by
  have he := Nat.eq_of_beq_eq_true he
  obtain ⟨es', e1, e2⟩ := sl_es (nl := nl) (l := l)
  rw [← he] at e2
  simp only [opV, evOp, Opd.ev, e1, e2, Bool.not_true, cond_false, cut, cutHi, cutLo, Option.map_some, Option.map_none, ok]
  rw [sub_sl he (by omega) (Nat.le_refl _)]
  simp [e1]
end

/-! ### Building -/
theorem opV_bsl0 {es : Nat} {z : List AV} : opV H (.bsl false es 0 z []) = some (.imm false 0 0 (some 0) [], H) := rfl
theorem opV_bsl1n {es m : Nat} {z cs : List AV} (h1 : cs.length = m) (h2 : z.length = m) : opV H (.bsl false es 1 z [(0, m, .c (.agg cs))]) = some (.imm false es 1 (some 1) cs, H) := by
  subst h1
  have h3 : Nat.ble cs.length cs.length = true := by simp
  have h4 : Nat.beq 1 0 = false := rfl
  have h5 : z.drop cs.length = [] := by simp [h2]
  simp [opV, evOp, fillA, Opd.ev, cellsOf, splice, repl, h2, ok, imm0, h3, h4, h5]
theorem opV_bsl1 {es : Nat} {z : List AV} {v : AV} (h1 : cellsOf v = some [v]) (h2 : z.length = 1) : opV H (.bsl false es 1 z [(0, 1, .c v)]) = some (.imm false es 1 (some 1) [v], H) := by
  have h3 : Nat.ble 1 1 = true := rfl
  have h4 : Nat.beq 1 0 = false := rfl
  have h5 : z.tail = [] := by
    cases z with
    | nil => rfl
    | cons a r => simpa using h2
  simp [opV, evOp, fillA, Opd.ev, h1, splice, repl, h2, ok, imm0, h3, h4, h5]
end

/-! ### A slice that is being built at the memory's end -/
section
variable {α : Type} [Cel α]
def bv (n : Nat) (nl : Bool) (l : List α) : AV := match l with
  | [] => .imm nl 0 0 (some 0) []
  | l => .ref n (l.length * Cel.n α) 0 (Cel.n α) l.length l.length false
def bh (H : Heap) (l : List α) : Heap := match l with
  | [] => H
  | l => H ++ [.cells (cellsL l)]
theorem bv_nil (n : Nat) (nl : Bool) : bv n nl ([] : List α) = .imm nl 0 0 (some 0) [] := rfl
theorem bh_nil (H : Heap) : bh H ([] : List α) = H := rfl
theorem bh_len (H : Heap) (l : List α) (id : Nat) (h : id < H.length) : (bh H l)[id]? = H[id]? := by
  cases l with
  | nil => rfl
  | cons a r => simp [bh, List.getElem?_append_left h]

theorem room_i (b n : Nat) (h1 : (2 * n + 200) * b ≤ 281474976710656) (h2 : n ≤ 4611686018427387904) : room b n = true := by
  simp [room, roomMost, h1, h2]

theorem append_bv {H : Heap} {nl : Bool} {l new : List α} {es bytes : Nat} {x : AV} (he : es = Cel.n α) (hp : 0 < Cel.n α) (hx : srcLen x = some new.length) (hx2 : srcCells x (bh H l) es = some (cellsL new))
    (hr : room bytes (l.length + new.length) = true) : appendA es bytes (bv H.length nl l) x (bh H l) = some (bv H.length nl (l ++ new), bh H (l ++ new)) := by
  subst he
  cases l with
  | nil =>
    cases new with
    | nil =>
      rw [bh_nil] at hx2 ⊢
      have hor : ((Cel.n α).beq 0 || Nat.beq 0 0) = true := by simp
      simp only [appendA, hx, hx2, bv, hor]; rfl
    | cons a r =>
      have hb : Nat.ble (r.length + 1) 0 = false := rfl
      have hb2 : Nat.beq (r.length + 1) 0 = false := rfl
      have hb3 : Nat.beq 0 0 = true := rfl
      simp only [List.length_nil, Nat.zero_add, List.length_cons] at hr
      rw [bh_nil] at hx2 ⊢
      simp only [appendA, hx, hx2, bv, List.length_cons, hb, hb2, hb3, Nat.zero_add, hr, Bool.or_true, Bool.not_true, cond_false, Bool.or_self]
      rfl
  | cons a r =>
    have hlen : (cellsL (a :: r)).length = (r.length + 1) * Cel.n α := by rw [cellsL_length]; rfl
    have hget : (bh H (a :: r))[H.length]? = some (.cells (cellsL (a :: r))) := by simp [bh]
    simp only [appendA, hx, hx2]
    simp only [bv, hget]
    rw [hlen]
    simp only [List.length_cons, cond_false]
    have h0 : ∀ n, Nat.beq n n = true := fun n => by simp
    simp only [h0, Bool.not_true, Bool.or_self, cond_false]
    cases new with
    | nil =>
      have h1 : Nat.ble (r.length + 1 + 0) (r.length + 1) = true := by simp
      have h2 : Nat.ble (0 + (r.length + 1 + 0) * Cel.n α) ((r.length + 1) * Cel.n α) = true := by simp
      simp only [List.length_nil, h1, h2, cond_true]
      simp [bh, splice, cellsL_nil]
    | cons b s =>
      have h1 : Nat.ble (r.length + 1 + (s.length + 1)) (r.length + 1) = false := by
        cases h : Nat.ble (r.length + 1 + (s.length + 1)) (r.length + 1) with
        | false => rfl
        | true => have := Nat.le_of_ble_eq_true h; omega
      simp only [List.length_cons, h1, cond_false] at hr ⊢
      have h3 : Nat.blt 0 (Cel.n α) = true := Nat.ble_eq_true_of_le hp
      simp only [hr, h3, Bool.not_true, cond_false, Bool.and_self, cond_true]
      have hN : r.length + 1 + (s.length + 1) = (r ++ b :: s).length + 1 := by simp; omega
      rw [hN]
      refine congrArg some (Prod.ext rfl ?_)
      simp only [List.cons_append, bh]
      rw [List.set_append_right _ _ (Nat.le_refl _), Nat.sub_self]
      simp only [List.set_cons_zero]
      rw [List.take_of_length_le (by rw [hlen]; simp), ← cellsL_append]
      rfl
theorem leave_bv {H : Heap} {nl : Bool} {l : List α} : leave (bh H l) (bv H.length nl l) = some (sl (nl && l.isEmpty) l) := by
  cases l with
  | nil => cases nl <;> rfl
  | cons a r =>
    have hget : (bh H (a :: r))[H.length]? = some (.cells (cellsL (a :: r))) := by simp [bh]
    have hlen : (cellsL (a :: r)).length = (r.length + 1) * Cel.n α := by rw [cellsL_length]; rfl
    have hm : ∀ (cs : List AV), hfrees cs = true → mapO (frz (bh H (a :: r)) 999) cs = some cs := by
      intro cs
      induction cs with
      | nil => intro _; rfl
      | cons c cs ih =>
        intro hf
        simp only [hfrees, Bool.and_eq_true] at hf
        have : frz (bh H (a :: r)) 999 c = some c := by unfold frz; rw [hf.1]; rfl
        simp only [mapO, this, ih hf.2]
    have h0 : ∀ n, Nat.beq n n = true := fun n => by simp
    have hbv : bv H.length nl (a :: r) = .ref H.length ((r.length + 1) * Cel.n α) 0 (Cel.n α) (r.length + 1) (r.length + 1) false := rfl
    have h2 : Nat.ble (0 + (r.length + 1) * Cel.n α) ((r.length + 1) * Cel.n α) = true := by simp
    have hf : frz (bh H (a :: r)) 1000 (bv H.length nl (a :: r)) = some (.imm false (Cel.n α) (r.length + 1) none (cellsL (a :: r))) := by
      rw [hbv, show (1000 : Nat) = 999 + 1 from rfl, frz]
      simp only [hfree, cond_false, hget, hlen, h0, h2, Bool.and_self, cond_true, List.drop_zero]
      rw [← hlen, List.take_length, hm _ (hfrees_cellsL _)]
      rfl
    unfold leave
    rw [hf]
    have hd : down (.imm false (Cel.n α) (r.length + 1) none (cellsL (a :: r))) = some (.imm false (Cel.n α) (r.length + 1) none (cellsL (a :: r))) := by
      have : hfree (.imm false (Cel.n α) (r.length + 1) none (cellsL (a :: r))) = true := hfrees_cellsL _
      simp only [down, this, cond_true]
    simp only [hd, Option.map_some]
    have h4 : Nat.beq (r.length + 1) 0 = false := rfl
    simp [fg, sl, imm0, h4, fgs_cellsL]
end
end Go.AS
