import GoSem.Dispatch
set_option linter.all false
/-
  An evaluator of the model's code over an abstract memory: values, the code's short form, the evaluator. By an AI agent.
-/
namespace Go.AS
open Go

/-- Abstract values. 'undef' stands for anything; 'ptr', 'ref', 'map' name objects of the level's own memory; 'iptr', 'imm' bear what they show (memory that nobody writes any more); 'ext' is a function value of the level below. -/
inductive AV where
  | undef
  | bool (b : Bool)
  | int (k : IntKind) (n : Int)
  | str (s : List UInt8)
  | nilptr
  | ptr (id lim off : Nat)
  | iptr (row : List AV) (off : Nat)
  | imm (nil : Bool) (es len : Nat) (cap : Option Nat) (cells : List AV)
  | ref (id lim off es len cap : Nat) (exact : Bool)
  | nilmap
  | map (id : Nat)
  | func (fn : Fn) (first captured : List AV)
  | nilFunc
  | iface (t : TypeId) (v : AV)
  | nilIface
  | agg (cells : List AV)
  | tuple (vs : List AV)
  | ext (v : AV)
  deriving Inhabited

/-! ### Equality -/
mutual
def AV.eqv : AV → AV → Bool
  | .undef, .undef => true
  | .bool a, .bool b => a == b
  | .int k a, .int l b => k == l && decide (a = b)
  | .str a, .str b => decide (a = b)
  | .nilptr, .nilptr => true
  | .ptr i l o, .ptr i' l' o' => Nat.beq i i' && Nat.beq l l' && Nat.beq o o'
  | .iptr r o, .iptr r' o' => AV.eqvs r r' && Nat.beq o o'
  | .imm n es l c cs, .imm n' es' l' c' cs' => (n == n') && Nat.beq es es' && Nat.beq l l' && decide (c = c') && AV.eqvs cs cs'
  | .ref i l o es n c x, .ref i' l' o' es' n' c' x' => Nat.beq i i' && Nat.beq l l' && Nat.beq o o' && Nat.beq es es' && Nat.beq n n' && Nat.beq c c' && (x == x')
  | .nilmap, .nilmap => true
  | .map i, .map j => Nat.beq i j
  | .func f a b, .func g c d => decide (f = g) && AV.eqvs a c && AV.eqvs b d
  | .nilFunc, .nilFunc => true
  | .iface t v, .iface u w => decide (t = u) && AV.eqv v w
  | .nilIface, .nilIface => true
  | .agg a, .agg b => AV.eqvs a b
  | .tuple a, .tuple b => AV.eqvs a b
  | .ext a, .ext b => AV.eqv a b
  | _, _ => false
def AV.eqvs : List AV → List AV → Bool
  | [], [] => true
  | a :: r, b :: s => AV.eqv a b && AV.eqvs r s
  | _, _ => false
end
mutual
theorem AV.eqv_eq (a b : AV) (h : AV.eqv a b = true) : a = b := by
  cases a with
  | undef =>
    cases b with
    | undef => rfl
    | _ => simp [AV.eqv] at h
  | bool a =>
    cases b with
    | bool a' =>
      simp only [AV.eqv, Bool.and_eq_true, beq_iff_eq, decide_eq_true_eq, Nat.beq_eq] at h
      simp [h]
    | _ => simp [AV.eqv] at h
  | int k n =>
    cases b with
    | int k' n' =>
      simp only [AV.eqv, Bool.and_eq_true, beq_iff_eq, decide_eq_true_eq, Nat.beq_eq] at h
      simp [h]
    | _ => simp [AV.eqv] at h
  | str s =>
    cases b with
    | str s' =>
      simp only [AV.eqv, Bool.and_eq_true, beq_iff_eq, decide_eq_true_eq, Nat.beq_eq] at h
      simp [h]
    | _ => simp [AV.eqv] at h
  | nilptr =>
    cases b with
    | nilptr => rfl
    | _ => simp [AV.eqv] at h
  | ptr i l o =>
    cases b with
    | ptr i' l' o' =>
      simp only [AV.eqv, Bool.and_eq_true, beq_iff_eq, decide_eq_true_eq, Nat.beq_eq] at h
      simp [h]
    | _ => simp [AV.eqv] at h
  | iptr r o =>
    cases b with
    | iptr r' o' =>
      simp only [AV.eqv, Bool.and_eq_true, beq_iff_eq, decide_eq_true_eq, Nat.beq_eq] at h
      rw [AV.eqvs_eq r r' h.1, h.2]
    | _ => simp [AV.eqv] at h
  | imm n es l c cs =>
    cases b with
    | imm n' es' l' c' cs' =>
      simp only [AV.eqv, Bool.and_eq_true, beq_iff_eq, decide_eq_true_eq, Nat.beq_eq] at h
      rw [AV.eqvs_eq cs cs' h.2]; simp [h]
    | _ => simp [AV.eqv] at h
  | ref i l o es n c x =>
    cases b with
    | ref i' l' o' es' n' c' x' =>
      simp only [AV.eqv, Bool.and_eq_true, beq_iff_eq, decide_eq_true_eq, Nat.beq_eq] at h
      simp [h]
    | _ => simp [AV.eqv] at h
  | nilmap =>
    cases b with
    | nilmap => rfl
    | _ => simp [AV.eqv] at h
  | map i =>
    cases b with
    | map i' =>
      simp only [AV.eqv, Bool.and_eq_true, beq_iff_eq, decide_eq_true_eq, Nat.beq_eq] at h
      simp [h]
    | _ => simp [AV.eqv] at h
  | func f p q =>
    cases b with
    | func f' p' q' =>
      simp only [AV.eqv, Bool.and_eq_true, beq_iff_eq, decide_eq_true_eq, Nat.beq_eq] at h
      rw [AV.eqvs_eq p p' h.1.2, AV.eqvs_eq q q' h.2, h.1.1]
    | _ => simp [AV.eqv] at h
  | nilFunc =>
    cases b with
    | nilFunc => rfl
    | _ => simp [AV.eqv] at h
  | iface t v =>
    cases b with
    | iface t' v' =>
      simp only [AV.eqv, Bool.and_eq_true, beq_iff_eq, decide_eq_true_eq, Nat.beq_eq] at h
      rw [AV.eqv_eq v v' h.2, h.1]
    | _ => simp [AV.eqv] at h
  | nilIface =>
    cases b with
    | nilIface => rfl
    | _ => simp [AV.eqv] at h
  | agg p =>
    cases b with
    | agg p' =>
      simp only [AV.eqv, Bool.and_eq_true, beq_iff_eq, decide_eq_true_eq, Nat.beq_eq] at h
      rw [AV.eqvs_eq p p' h]
    | _ => simp [AV.eqv] at h
  | tuple p =>
    cases b with
    | tuple p' =>
      simp only [AV.eqv, Bool.and_eq_true, beq_iff_eq, decide_eq_true_eq, Nat.beq_eq] at h
      rw [AV.eqvs_eq p p' h]
    | _ => simp [AV.eqv] at h
  | ext v =>
    cases b with
    | ext v' =>
      simp only [AV.eqv, Bool.and_eq_true, beq_iff_eq, decide_eq_true_eq, Nat.beq_eq] at h
      rw [AV.eqv_eq v v' h]
    | _ => simp [AV.eqv] at h
theorem AV.eqvs_eq (a b : List AV) (h : AV.eqvs a b = true) : a = b := by
  match a, b, h with
  | [], [], _ => rfl
  | a :: r, b :: s, h =>
    simp only [AV.eqvs, Bool.and_eq_true] at h
    rw [AV.eqv_eq a b h.1, AV.eqvs_eq r s h.2]
  | [], _ :: _, h => simp [AV.eqvs] at h
  | _ :: _, [], h => simp [AV.eqvs] at h
end
mutual
theorem AV.eqv_refl (a : AV) : AV.eqv a a = true := by
  cases a with
  | undef => rfl
  | bool a => simp [AV.eqv]
  | int k n => simp [AV.eqv]
  | str s => simp [AV.eqv]
  | nilptr => rfl
  | ptr i l o => simp [AV.eqv]
  | iptr r o => simp [AV.eqv, AV.eqvs_refl r]
  | imm n es l c cs => simp [AV.eqv, AV.eqvs_refl cs]
  | ref i l o es n c x => simp [AV.eqv]
  | nilmap => rfl
  | map i => simp [AV.eqv]
  | func f p q => simp [AV.eqv, AV.eqvs_refl p, AV.eqvs_refl q]
  | nilFunc => rfl
  | iface t v => simp [AV.eqv, AV.eqv_refl v]
  | nilIface => rfl
  | agg p => simp [AV.eqv, AV.eqvs_refl p]
  | tuple p => simp [AV.eqv, AV.eqvs_refl p]
  | ext v => simp [AV.eqv, AV.eqv_refl v]
theorem AV.eqvs_refl (a : List AV) : AV.eqvs a a = true := by
  match a with
  | [] => rfl
  | a :: r => simp only [AV.eqvs, AV.eqv_refl a, AV.eqvs_refl r, Bool.and_self]
end
instance : DecidableEq AV := fun a b =>
  match h : AV.eqv a b with
  | true => isTrue (AV.eqv_eq a b h)
  | false => isFalse fun e => by rw [e, AV.eqv_refl] at h; cases h

inductive Opd where
  | t (i : Nat)
  | c (v : AV)
  deriving Inhabited, DecidableEq

/-- Operations, their types' numbers resolved. -/
inductive IOp where
  | mv (x : Opd)
  | pick (c a b : Opd)
  | box (n : Nat) (x : Opd)
  | alloc (zero : List AV)
  | slots (n : Nat)
  | allocA (d : Nat) (zero : List AV)
  | mapA (d : Nat)
  | allocAt (id : Nat) (zero : List AV)
  | mapAt (id : Nat)
  | build (zero : List AV) (parts : List (Nat × Nat × Opd))
  | bsl (mt : Bool) (es len : Nat) (zero : List AV) (parts : List (Nat × Nat × Opd))
  | load (n : Option Nat) (x : Opd)
  | store (n : Nat) (a x : Opd)
  | nilck (x : Opd)
  | bin (op : BinOp) (x y : Opd)
  | eqb (neg : Bool) (x y : Opd)
  | eqn (kind : Nat) (neg : Bool) (x y : Opd)
  | eqa (neg : Bool) (offs : List (Nat × Nat)) (x y : Opd)
  | neg (x : Opd)
  | inv (x : Opd)
  | not (x : Opd)
  | conv (k : IntKind) (x : Opd)
  | bytes (x : Opd)
  | text (x : Opd)
  | mvs (x : Opd)
  | mkif (t : TypeId) (x : Opd)
  | mkfn (fn : Fn) (first captured : List Opd)
  | mkmap
  | newb (t el : Nat)
  | rng (m : Opd)
  | nxt (x : Opd)
  | mksl (es bytes : Nat) (zero : List AV) (len cap : Opd)
  | sub (es : Nat) (x : Opd) (lo hi mx : Option Opd)
  | subs (x : Opd) (lo hi : Option Opd)
  | suba (n es : Nat) (x : Opd) (lo hi mx : Option Opd)
  | faddr (off : Nat) (x : Opd)
  | fld (off : Nat) (n : Option Nat) (x : Opd)
  | ixa (es : Nat) (x i : Opd)
  | ixaa (n es : Nat) (x i : Opd)
  | ixs (x i : Opd)
  | ixv (len es : Nat) (agg : Bool) (x i : Opd)
  | look (kk : Nat) (zero : AV) (ok : Bool) (m k : Opd)
  | mapup (kk : Nat) (m k v : Opd)
  | ment (kk : Nat) (zero : AV) (m k : Opd)
  | mentst (m s v : Opd)
  | extr (x : Opd) (i : Nat)
  | len (x : Opd)
  | lens (x : Opd)
  | lenm (x : Opd)
  | cap (x : Opd)
  | minmax (mx : Bool) (xs : List Opd)
  | append (es bytes : Nat) (s x : Opd)
  | appi (es bytes : Nat) (s x : Opd)
  | appz (es bytes : Nat) (zero : List AV) (s x : Opd)
  | copy (es : Nat) (d s : Opd)
  | clearm (m : Opd)
  | clears (es : Nat) (zero : List AV) (s : Opd)
  | del (kk : Nat) (m k : Opd)
  | diff (x y : Opd)
  | cmps (x y : Opd)
  | panic (x : Opd)
  | callp (f : Nat) (args : List Opd)
  | callf (f : Nat) (args : List Opd)
  | calls (f : Nat) (args : List Opd)
  | call (f : Opd) (args : List Opd)
  deriving Inhabited, DecidableEq

structure IOper where
  dst : Option Nat
  op : IOp
  guard : Option (Nat × Bool)
  deriving Inhabited, DecidableEq

/-- Code. -/
inductive IC where
  | nop
  | ops (draw : Bool) (l : List IOper) (drop : List Nat)
  | multi (ls : List (List IOper)) (drop : List Nat)
  | seq (a b : IC)
  | cond (c : Opd) (a b : IC)
  | block (id : Nat) (b : IC)
  | loop (b : IC)
  | rangeF (g : Opd) (params : List Nat) (assign body : IC)
  | exit (id : Nat)
  | ret
  deriving Inhabited, DecidableEq
/-- What is not compiled stands still. -/
def IC.bad : IC := .cond (.c .undef) .nop .nop

inductive IX where
  | normal
  | exit (id : Nat)
  | ret
  | panic (v : AV)
  deriving Inhabited, DecidableEq

/-- How a call ends. -/
inductive CR where
  | ret (v : AV)
  | pan (v : AV)
  deriving Inhabited

inductive IRes where
  | tmp (t : Nat)
  | cell (a : Nat) (n : Option Nat)
  deriving Inhabited

/-- The library's functions that are not entered: what they do is told. -/
inductive NatK where
  | wbyte (t el : Nat)
  | wstr (t el : Nat)
  | bstr (t el : Nat)
  | repeats
  | fields
  | itoa
  | join
  | split
  | cut
  deriving Inhabited, DecidableEq

structure IFun where
  shared : Bool
  nargs : Nat
  results : List IRes
  body : IC
  nat : Option NatK := none
  deriving Inhabited

abbrev Env := List (Nat × AV)

inductive LS where
  | ready | busy | done
  deriving DecidableEq, Inhabited

structure ILoop where
  state : LS
  pending : Option IX
  env : Env
  params : List Nat
  assign : IC
  body : IC
  deriving Inhabited, DecidableEq

inductive AObj where
  | dead
  | slot
  | cells (cs : List AV)
  | map (es : List (AV × AV × Nat)) (clock : Nat)
  | loop (l : ILoop)
  | iter (m : Option Nat)
  | bld (t el : Nat) (bs : List UInt8)
  deriving Inhabited, DecidableEq

abbrev Heap := List AObj
abbrev Stack := List Heap

def Env.get : Env → Nat → AV
  | [], _ => .undef
  | (j, v) :: r, i => bif Nat.beq i j then v else Env.get r i

def Env.set : Env → Nat → AV → Env
  | [], i, v => [(i, v)]
  | (j, u) :: r, i, v => bif Nat.blt i j then (i, v) :: (j, u) :: r else bif Nat.beq i j then (i, v) :: r else (j, u) :: Env.set r i v

def Env.del : Env → Nat → Env
  | [], _ => []
  | (j, u) :: r, i => bif Nat.beq i j then Env.del r i else (j, u) :: Env.del r i

def Env.drop : Env → List Nat → Env
  | e, [] => e
  | e, i :: r => Env.drop (Env.del e i) r

def Env.ofArgs (i : Nat) : List AV → Env
  | [] => []
  | v :: r => (i, v) :: Env.ofArgs (i + 1) r

def Env.sets : Env → List Nat → List AV → Env
  | e, i :: is, v :: vs => Env.sets (Env.set e i v) is vs
  | e, _, _ => e

def Opd.ev (e : Env) : Opd → AV
  | .t i => Env.get e i
  | .c v => v

/-! ### Values that touch no memory; between levels -/
mutual
def hfree : AV → Bool
  | .ptr .. | .ref .. | .map _ | .ext _ => false
  | .iptr row _ => hfrees row
  | .imm _ _ _ _ cs => hfrees cs
  | .func fn fi ca => (match fn with | .yield _ => false | _ => true) && hfrees fi && hfrees ca
  | .iface _ v => hfree v
  | .agg cs => hfrees cs
  | .tuple vs => hfrees vs
  | _ => true
def hfrees : List AV → Bool
  | [] => true
  | v :: r => hfree v && hfrees r
end

mutual
/-- A value as the level above sees it. -/
def raise : AV → Option AV
  | .ptr .. | .ref .. | .map _ => none
  | .iptr row o => (raises row).map (AV.iptr · o)
  | .imm n es l c cs => (raises cs).map (AV.imm n es l c ·)
  | .func fn fi ca => some (if hfree (.func fn fi ca) then .func fn fi ca else .ext (.func fn fi ca))
  | .iface t v => (raise v).map (AV.iface t ·)
  | .agg cs => (raises cs).map AV.agg
  | .tuple vs => (raises vs).map AV.tuple
  | .ext v => some (.ext (.ext v))
  | v => some v
def raises : List AV → Option (List AV)
  | [] => some []
  | v :: r => match raise v, raises r with
    | some v, some r => some (v :: r)
    | _, _ => none
end

mutual
/-- A value as the level below sees it. -/
def lower : AV → Option AV
  | .ptr .. | .ref .. | .map _ => none
  | .iptr row o => (lowers row).map (AV.iptr · o)
  | .imm n es l c cs => (lowers cs).map (AV.imm n es l c ·)
  | .func (.yield _) _ _ => none
  | .func fn fi ca => match lowers fi, lowers ca with
    | some fi, some ca => some (.func fn fi ca)
    | _, _ => none
  | .iface t v => (lower v).map (AV.iface t ·)
  | .agg cs => (lowers cs).map AV.agg
  | .tuple vs => (lowers vs).map AV.tuple
  | .ext v => some v
  | v => some v
def lowers : List AV → Option (List AV)
  | [] => some []
  | v :: r => match lower v, lowers r with
    | some v, some r => some (v :: r)
    | _, _ => none
end

mutual
/-- A value, of whose slices no more than length and cells is told. -/
def fg : AV → AV
  | .iptr row o => .iptr (fgs row) o
  | .imm n es l _ cs => bif Nat.beq l 0 then .imm n 0 0 none [] else .imm n es l none (fgs cs)
  | .func fn fi ca => .func fn (fgs fi) (fgs ca)
  | .iface t v => .iface t (fg v)
  | .agg cs => .agg (fgs cs)
  | .tuple vs => .tuple (fgs vs)
  | v => v
def fgs : List AV → List AV
  | [] => []
  | v :: r => fg v :: fgs r
end

def up (v : AV) : Option AV := bif hfree v then some v else raise v
def down (v : AV) : Option AV := bif hfree v then some v else lower v
def mapO {α β : Type} (f : α → Option β) : List α → Option (List β)
  | [] => some []
  | x :: r => match f x, mapO f r with
    | some y, some r => some (y :: r)
    | _, _ => none

/-- What a value shows, when its level's memory is given up. -/
def frz (H : Heap) : Nat → AV → Option AV
  | 0, _ => none
  | k + 1, v => bif hfree v then some v else match v with
    | .ptr id lim off => match H[id]? with
      | some (.cells cs) => bif Nat.beq cs.length lim then (mapO (frz H k) cs).map (AV.iptr · off) else none
      | _ => none
    | .ref id lim off es len _ _ => match H[id]? with
      | some (.cells cs) => bif Nat.beq cs.length lim && Nat.ble (off + len * es) lim then (mapO (frz H k) ((cs.drop off).take (len * es))).map (AV.imm false es len none ·) else none
      | _ => none
    | .iptr row o => (mapO (frz H k) row).map (AV.iptr · o)
    | .imm n es l c cs => (mapO (frz H k) cs).map (AV.imm n es l c ·)
    | .func (.yield _) _ _ => none
    | .func fn fi ca => match mapO (frz H k) fi, mapO (frz H k) ca with
      | some fi, some ca => some (.func fn fi ca)
      | _, _ => none
    | .iface t v => (frz H k v).map (AV.iface t ·)
    | .agg cs => (mapO (frz H k) cs).map AV.agg
    | .tuple vs => (mapO (frz H k) vs).map AV.tuple
    | .ext v => some (.ext v)
    | _ => none

def isFn : AV → Bool
  | .func .. => true
  | .ext v => isFn v
  | _ => false

/-- A function of the program's, not a range's yield. -/
def isFnF : AV → Bool
  | .func (.func _) _ _ => true
  | .ext v => isFnF v
  | _ => false

/-! ### Operations -/
/-- Does a value take one cell? -/
def isOne : AV → Bool
  | .undef | .agg _ | .tuple _ => false
  | .ext v => isFn v
  | _ => true

def cellsOf (v : AV) : Option (List AV) :=
  match v with
  | .agg cs => some cs
  | v => bif isOne v then some [v] else none

def splice (cs : List AV) (off : Nat) (vs : List AV) : List AV := cs.take off ++ vs ++ cs.drop (off + vs.length)

def fillA (e : Env) (cs : List AV) : List (Nat × Nat × Opd) → Option (List AV)
  | [] => some cs
  | (off, n, x) :: r => match cellsOf (x.ev e) with
    | some vs => bif Nat.beq vs.length n && Nat.ble (off + n) cs.length then fillA e (splice cs off vs) r else none
    | none => none

def repl (zero : List AV) : Nat → List AV
  | 0 => []
  | n + 1 => zero ++ repl zero n

def one (n : Option Nat) (cs : List AV) (off : Nat) : Option AV :=
  match n with
  | none => cs[off]?
  | some n => bif Nat.ble (off + n) cs.length then some (.agg ((cs.drop off).take n)) else none

def bytesLt : List UInt8 → List UInt8 → Bool
  | _, [] => false
  | [], _ :: _ => true
  | a :: x, b :: y => a < b || (a == b && bytesLt x y)

def bitop (op : BinOp) (k : IntKind) (x y : Int) : Int :=
  let a := BitVec.ofInt k.bits x
  let b := BitVec.ofInt k.bits y
  k.wrap (match op with
    | .and => a &&& b
    | .or => a ||| b
    | .xor => a ^^^ b
    | _ => a &&& ~~~b).toNat

def ikEq (a b : IntKind) : Bool := a == b

def binA (op : BinOp) : AV → AV → Option AV
  | .int k a, .int k' b =>
    match op with
    | .shl => bif b < 0 then none else some (.int k (k.wrap (a * 2 ^ (min b.toNat k.bits))))
    | .shr => bif b < 0 then none else some (.int k (a.fdiv (2 ^ (min b.toNat k.bits))))
    | _ => bif !(ikEq k k') then none else
      match op with
      | .add => some (.int k (k.wrap (a + b)))
      | .sub => some (.int k (k.wrap (a - b)))
      | .mul => some (.int k (k.wrap (a * b)))
      | .quo => bif b == 0 then none else some (.int k (k.wrap (a.tdiv b)))
      | .rem => bif b == 0 then none else some (.int k (a.tmod b))
      | .eql => some (.bool (a == b))
      | .neq => some (.bool (a != b))
      | .lss => some (.bool (decide (a < b)))
      | .leq => some (.bool (decide (a ≤ b)))
      | .gtr => some (.bool (decide (b < a)))
      | .geq => some (.bool (decide (b ≤ a)))
      | op => some (.int k (bitop op k a b))
  | .str a, .str b =>
    match op with
    | .add => bif Nat.ble (a.length + b.length) 9223372036854775807 then some (.str (a ++ b)) else none
    | .eql => some (.bool (a == b))
    | .neq => some (.bool (!(a == b)))
    | .lss => some (.bool (bytesLt a b))
    | .leq => some (.bool (bytesLt a b || a == b))
    | .gtr => some (.bool (!(bytesLt a b || a == b)))
    | .geq => some (.bool (!(bytesLt a b)))
    | _ => none
  | _, _ => none

/-- Equality of values of one plain kind (0: numbers, 1: texts, 2: truth). -/
def primEq : Nat → AV → AV → Option Bool
  | 0, .int k a, .int k' b => bif ikEq k k' then some (a == b) else none
  | 1, .str a, .str b => some (a == b)
  | 2, .bool a, .bool b => some (a == b)
  | _, _, _ => none

def primEqs (xs ys : List AV) : List (Nat × Nat) → Option Bool
  | [] => some true
  | (o, k) :: r => match xs[o]?, ys[o]? with
    | some x, some y => match primEq k x y with
      | some true => primEqs xs ys r
      | some false => some false
      | none => none
    | _, _ => none

/-- Of values of one kind (0: pointers, 1: slices, 2: maps, 3: functions, 4: interfaces): is it nil? -/
def isNil : Nat → AV → Option Bool
  | 0, .nilptr => some true
  | 0, .ptr .. | 0, .iptr .. => some false
  | 1, .imm n _ _ _ _ => some n
  | 1, .ref .. => some false
  | 2, .nilmap => some true
  | 2, .map _ => some false
  | 3, .nilFunc => some true
  | 3, .func .. => some false
  | 3, .ext v => bif isFn v then some false else none
  | 4, .nilIface => some true
  | 4, .iface .. => some false
  | _, _ => none

def alive (H : Heap) (id lim : Nat) : Bool :=
  match H[id]? with
  | some (.cells cs) => Nat.beq cs.length lim
  | _ => false

/-- Of two pointers to one level's objects. -/
def ptrEq (H : Heap) (k : Nat) (x y : AV) : Option Bool :=
  match x, y with
  | .ptr i li oi, .ptr j lj oj => bif Nat.beq k 0 && alive H i li && alive H j lj then some (Nat.beq i j && Nat.beq oi oj) else none
  | _, _ => none

/-- Of two values at least one of which is nil; or of two pointers. -/
def eqNil (H : Heap) (k : Nat) (x y : AV) : Option Bool :=
  match isNil k x with
  | some true => match isNil k y with
    | some b => some b
    | none => none
  | some false => match isNil k y with
    | some true => some false
    | _ => ptrEq H k x y
  | none => none

def maxInt : Nat := 9223372036854775807
def roomMost : Nat := 281474976710656

def bnd (o : Opd) (e : Env) (most : Nat) : Option Nat :=
  match o.ev e with
  | .int _ n => bif decide (0 ≤ n) && decide (n ≤ most) then some n.toNat else none
  | _ => none
def cutHi (hi : Option Opd) (e : Env) (len most : Nat) : Option Nat :=
  match hi with
  | none => some len
  | some o => bnd o e most
def cutLo (lo : Option Opd) (e : Env) (h : Nat) : Option Nat :=
  match lo with
  | none => some 0
  | some o => bnd o e h
def cut (lo hi : Option Opd) (e : Env) (len most : Nat) : Option (Nat × Nat) :=
  match cutHi hi e len most with
  | none => none
  | some h => (cutLo lo e h).map (·, h)
/-- With a maximum. -/
def cut3 (lo hi : Option Opd) (m : Opd) (e : Env) (most : Nat) : Option (Nat × Nat × Nat) :=
  match bnd m e most, hi with
  | some m, some o => match bnd o e m with
    | some h => (cutLo lo e h).map (·, h, m)
    | none => none
  | _, _ => none

def keyOk : Nat → AV → Bool
  | 0, .int .. => true
  | 1, .str _ => true
  | 2, .bool _ => true
  | _, _ => false

/-- Where a key stands: none: it does not fit the others' kind. -/
def findK (kk : Nat) (k : AV) (i : Nat) : List (AV × AV × Nat) → Option (Option (Nat × AV × Nat))
  | [] => some none
  | (k', v, b) :: r => match primEq kk k k' with
    | some true => some (some (i, v, b))
    | some false => findK kk k (i + 1) r
    | none => none

def srcCells : AV → Heap → Nat → Option (List AV)
  | .imm _ es n _ cs, _, es' => bif Nat.beq es es' || Nat.beq n 0 then some cs else none
  | .str s, _, es' => bif Nat.beq es' 1 then some (s.map fun b => .int .u8 b.toNat) else none
  | .ref id lim off es len _ _, H, es' => match H[id]? with
    | some (.cells cs) => bif Nat.beq cs.length lim && Nat.beq es es' && Nat.ble (off + len * es) lim then some ((cs.drop off).take (len * es)) else none
    | _ => none
  | _, _, _ => none

def srcLen : AV → Option Nat
  | .imm _ _ n _ _ => some n
  | .str s => some s.length
  | .ref _ _ _ _ n _ _ => some n
  | _ => none

def room (bytes need : Nat) : Bool := Nat.ble ((2 * need + 200) * bytes) roomMost && Nat.ble need 4611686018427387904

def appendA (es bytes : Nat) (s x : AV) (H : Heap) : Option (AV × Heap) :=
  match srcLen x, srcCells x H es with
  | some m, some new =>
    match s with
    | .imm _ es' len cap cs =>
      bif !(Nat.beq es es' || Nat.beq len 0) then none else
      bif Nat.beq m 0 then some (s, H) else
      match cap with
      | none => none
      | some c =>
        let need := len + m
        bif Nat.ble need c || !(room bytes need) then none else
          some (.ref H.length (need * es) 0 es need need false, H ++ [.cells (cs ++ new)])
    | .ref id lim off es' len cap exact =>
      match H[id]? with
      | some (.cells cs) =>
        let need := len + m
        bif !(Nat.beq cs.length lim) || !(Nat.beq es es') then none else
        bif Nat.ble need cap then
          bif Nat.ble (off + need * es) lim then some (.ref id lim off es need cap exact, H.set id (.cells (splice cs (off + len * es) new))) else none
        else bif !(room bytes need) then none else
        bif exact then
          bif Nat.ble (off + len * es) lim then some (.ref H.length (need * es) 0 es need need false, H ++ [.cells ((cs.drop off).take (len * es) ++ new)]) else none
        else bif Nat.beq off 0 && Nat.beq (cap * es) lim && Nat.blt 0 es then
          some (.ref id (need * es) 0 es need need false, H.set id (.cells (cs.take (len * es) ++ new)))
        else none
      | _ => none
    | _ => none
  | _, _ => none

def intsMM (mx : Bool) (k : IntKind) (a : Int) : List AV → Option AV
  | [] => some (.int k a)
  | .int k' b :: r => bif ikEq k k' then intsMM mx k (bif mx then (bif decide (a < b) then b else a) else (bif decide (b < a) then b else a)) r else none
  | _ => none
def strsMM (mx : Bool) (a : List UInt8) : List AV → Option AV
  | [] => some (.str a)
  | .str b :: r => strsMM mx (bif mx then (bif bytesLt a b then b else a) else (bif bytesLt a b || a == b then a else b)) r
  | _ => none
def minmaxA (mx : Bool) : List AV → Option AV
  | .int k a :: r => intsMM mx k a r
  | .str a :: r => strsMM mx a r
  | _ => none

/-- A row that nobody writes, and more behind it, in a row that nobody writes either. -/
def appI (es bytes : Nat) (s x : AV) (H : Heap) : Option AV :=
  match srcLen x, srcCells x H es with
  | some m, some new =>
    match s with
    | .imm _ es' len cap cs =>
      bif !(Nat.beq es es' || Nat.beq len 0) then none else
      bif Nat.beq m 0 then some s else
      match cap with
      | none => none
      | some c => bif Nat.ble (len + m) c || !(room bytes (len + m)) then none else some (.imm false es (len + m) none (cs ++ new))
    | _ => none
  | _, _ => none

def evs (e : Env) : List Opd → List AV
  | [] => []
  | x :: r => x.ev e :: evs e r

/-- A row that nobody writes; an empty one's cells have no size. -/
def imm0 (n : Bool) (es len : Nat) (cap : Option Nat) (cs : List AV) : AV := .imm n (bif Nat.beq len 0 then 0 else es) len cap cs

def ok (v : AV) (H : Heap) : Option (AV × Heap) := some (v, H)

/-- How two texts compare. -/
def cmpB (a b : List UInt8) : Int := bif bytesLt a b then -1 else bif bytesLt b a then 1 else 0
/-- A byte. -/
def u8Of : AV → Option UInt8
  | .int .u8 n => some (UInt8.ofNat n.toNat)
  | _ => none

def evOp (e : Env) (H : Heap) : IOp → Option (AV × Heap)
  | .mv x => ok (x.ev e) H
  | .pick c a b => match c.ev e with
    | .bool t => ok (bif t then a.ev e else b.ev e) H
    | _ => none
  | .box n x => match cellsOf (x.ev e) with
    | some cs => bif Nat.beq cs.length n then ok (.ptr H.length n 0) (H ++ [.cells cs]) else none
    | none => none
  | .alloc zero => ok (.ptr H.length zero.length 0) (H ++ [.cells zero])
  | .allocAt id zero => match H[id]? with
    | some .slot => ok (.ptr id zero.length 0) (H.set id (.cells zero))
    | _ => none
  | .mapAt id => match H[id]? with
    | some .slot => ok (.map id) (H.set id (.map [] 0))
    | _ => none
  | .mapA d => match H[H.length - d]? with
    | some .slot => bif Nat.ble d H.length then ok (.map (H.length - d)) (H.set (H.length - d) (.map [] 0)) else none
    | _ => none
  | .rng m => match m.ev e with
    | .nilmap => ok (.ptr H.length 0 0) (H ++ [.iter none])
    | .map id => match H[id]? with
      | some (.map _ _) => ok (.ptr H.length 0 0) (H ++ [.iter (some id)])
      | _ => none
    | _ => none
  | .nxt x => match x.ev e with
    | .ptr id 0 0 => match H[id]? with
      | some (.iter none) => ok (.tuple [.bool false]) H
      | some (.iter (some j)) => match H[j]? with
        | some (.map [] _) => ok (.tuple [.bool false]) H
        | _ => none
      | _ => none
    | _ => none
  | .slots n => ok .undef (H ++ List.replicate n .slot)
  | .allocA d zero => match H[H.length - d]? with
    | some .slot => bif Nat.ble d H.length then ok (.ptr (H.length - d) zero.length 0) (H.set (H.length - d) (.cells zero)) else none
    | _ => none
  | .build zero parts => match fillA e zero parts with
    | some cs => ok (.agg cs) H
    | none => none
  | .bsl mt es len zero parts => match fillA e (repl zero len) parts with
    | some cs => bif mt then ok (.ref H.length (len * es) 0 es len len true) (H ++ [.cells cs]) else ok (imm0 false es len (some len) cs) H
    | none => none
  | .load n x => match x.ev e with
    | .ptr id lim off => match H[id]? with
      | some (.cells cs) => bif Nat.beq cs.length lim then (one n cs off).map (·, H) else none
      | _ => none
    | .iptr row off => (one n row off).map (·, H)
    | _ => none
  | .store n a x => match a.ev e, cellsOf (x.ev e) with
    | .ptr id lim off, some vs => match H[id]? with
      | some (.cells cs) => bif Nat.beq cs.length lim && Nat.beq vs.length n && Nat.ble (off + n) lim then ok .undef (H.set id (.cells (splice cs off vs))) else none
      | _ => none
    | _, _ => none
  | .nilck x => match x.ev e with
    | .ptr a b c => ok (.ptr a b c) H
    | .iptr a b => ok (.iptr a b) H
    | .func (.func f) a b => ok (.func (.func f) a b) H
    | .func (.yield f) a b => ok (.func (.yield f) a b) H
    | .ext (.func (.func f) a b) => ok (.ext (.func (.func f) a b)) H
    | .ext (.func (.yield f) a b) => ok (.ext (.func (.yield f) a b)) H
    | _ => none
  | .bin op x y => (binA op (x.ev e) (y.ev e)).map (·, H)
  | .eqb ng x y => match x.ev e, y.ev e with
    | .bool a, .bool b => ok (.bool (bif ng then !(a == b) else a == b)) H
    | _, _ => none
  | .eqn k ng x y => (eqNil H k (x.ev e) (y.ev e)).map fun b => (.bool (bif ng then !b else b), H)
  | .eqa ng offs x y => match x.ev e, y.ev e with
    | .agg xs, .agg ys => (primEqs xs ys offs).map fun b => (.bool (bif ng then !b else b), H)
    | _, _ => none
  | .neg x => match x.ev e with
    | .int k n => ok (.int k (k.wrap (0 - n))) H
    | _ => none
  | .inv x => match x.ev e with
    | .int k n => ok (.int k (bitop .xor k (if k.signed then -1 else k.max) n)) H
    | _ => none
  | .not x => match x.ev e with
    | .bool b => ok (.bool (!b)) H
    | _ => none
  | .conv k x => match x.ev e with
    | .int _ n => ok (.int k (k.wrap n)) H
    | _ => none
  | .bytes x => match x.ev e with
    | .str s => ok (.imm false 1 s.length none (s.map fun b => .int .u8 b.toNat)) H
    | _ => none
  | .text x => match x.ev e with
    | .str _ => none
    | v => match srcLen v, srcCells v H 1 with
      | some _, some cs => (mapO u8Of cs).map fun s => (.str s, H)
      | _, _ => none
  | .mvs x => match x.ev e with
    | .str s => ok (.str s) H
    | _ => none
  | .mkif t x => ok (.iface t (x.ev e)) H
  | .mkfn fn fi ca => ok (.func fn (evs e fi) (evs e ca)) H
  | .mkmap => ok (.map H.length) (H ++ [.map [] 0])
  | .newb t el => ok (.ptr H.length 0 0) (H ++ [.bld t el []])
  | .mksl es bytes zero l c => match l.ev e, c.ev e with
    | .int _ l, .int _ c => bif decide (0 ≤ l) && decide (l ≤ c) && Nat.ble (c.toNat * bytes) roomMost && Nat.ble c.toNat maxInt
        then ok (.ref H.length (c.toNat * es) 0 es l.toNat c.toNat true) (H ++ [.cells (repl zero c.toNat)]) else none
    | _, _ => none
  | .sub es x lo hi mx => match x.ev e with
    | .imm n es' len cap cs =>
      bif !(Nat.beq es es' || Nat.beq len 0) then none else
      match mx with
      | none => match cut lo hi e len len with
        | some (l, h) => ok (imm0 n es (h - l) (cap.map (· - l)) ((cs.drop (l * es)).take ((h - l) * es))) H
        | none => none
      | some m => match cut3 lo hi m e len with
        | some (l, h, m) => ok (imm0 n es (h - l) (some (m - l)) ((cs.drop (l * es)).take ((h - l) * es))) H
        | none => none
    | .ref id lim off es' len cap ex =>
      bif !(Nat.beq es es') then none else
      match mx with
      | none => match cut lo hi e len cap with
        | some (l, h) => ok (.ref id lim (off + l * es) es (h - l) (cap - l) ex) H
        | none => none
      | some m => match cut3 lo hi m e cap with
        | some (l, h, m) => ok (.ref id lim (off + l * es) es (h - l) (m - l) true) H
        | none => none
    | _ => none
  | .subs x lo hi => match x.ev e with
    | .str s => match cut lo hi e s.length s.length with
      | some (l, h) => ok (.str ((s.drop l).take (h - l))) H
      | none => none
    | _ => none
  | .suba n es x lo hi mx => match mx, x.ev e with
    | none, .ptr id lim off => match cut lo hi e n n, H[id]? with
      | some (l, h), some (.cells cs) => bif Nat.beq cs.length lim && Nat.ble (off + n * es) lim then ok (.ref id lim (off + l * es) es (h - l) (n - l) true) H else none
      | _, _ => none
    | _, _ => none
  | .faddr off x => match x.ev e with
    | .ptr id lim o => ok (.ptr id lim (o + off)) H
    | .iptr row o => ok (.iptr row (o + off)) H
    | _ => none
  | .fld off n x => match x.ev e with
    | .agg cs => (one n cs off).map (·, H)
    | _ => none
  | .ixa es x i => match x.ev e, i.ev e with
    | .imm _ es' len _ cs, .int _ j => bif decide (0 ≤ j) && decide (j < len) && Nat.beq es es' then ok (.iptr cs (j.toNat * es)) H else none
    | .ref id lim off es' len _ _, .int _ j => bif decide (0 ≤ j) && decide (j < len) && Nat.beq es es' then ok (.ptr id lim (off + j.toNat * es)) H else none
    | _, _ => none
  | .ixaa n es x i => match x.ev e, i.ev e with
    | .ptr id lim off, .int _ j => bif decide (0 ≤ j) && decide (j < n) then ok (.ptr id lim (off + j.toNat * es)) H else none
    | .iptr row off, .int _ j => bif decide (0 ≤ j) && decide (j < n) then ok (.iptr row (off + j.toNat * es)) H else none
    | _, _ => none
  | .ixs x i => match x.ev e, i.ev e with
    | .str s, .int _ j => bif decide (0 ≤ j) then match s[j.toNat]? with
        | some b => ok (.int .u8 b.toNat) H
        | none => none
      else none
    | _, _ => none
  | .ixv len es ag x i => match x.ev e, i.ev e with
    | .agg cs, .int _ j => bif decide (0 ≤ j) && decide (j < len) then (one (bif ag then some es else none) cs (j.toNat * es)).map (·, H) else none
    | _, _ => none
  | .look kk zero cm m k => bif !(keyOk kk (k.ev e)) then none else
    match (match m.ev e with
      | .nilmap => some none
      | .map id => match H[id]? with
        | some (.map es _) => findK kk (k.ev e) 0 es
        | _ => none
      | _ => none) with
    | some (some (_, v, _)) => ok (bif cm then .tuple [v, .bool true] else v) H
    | some none => ok (bif cm then .tuple [zero, .bool false] else zero) H
    | none => none
  | .mapup kk m k v => bif !(keyOk kk (k.ev e)) then none else
    match m.ev e, v.ev e with
    | .map id, x => match H[id]? with
      | some (.map es c) => match findK kk (k.ev e) 0 es with
        | some (some (i, _, b)) => ok .undef (H.set id (.map (es.set i (k.ev e, x, b)) c))
        | some none => ok .undef (H.set id (.map (es ++ [(k.ev e, x, c)]) (c + 1)))
        | none => none
      | _ => none
    | _, _ => none
  | .ment kk zero m k => bif !(keyOk kk (k.ev e)) then none else
    match m.ev e with
    | .map id => match H[id]? with
      | some (.map es c) => match findK kk (k.ev e) 0 es with
        | some (some (_, v, b)) => ok (.tuple [v, .int .i64 b]) H
        | some none => ok (.tuple [zero, .int .i64 c]) (H.set id (.map (es ++ [(k.ev e, zero, c)]) (c + 1)))
        | none => none
      | _ => none
    | _ => none
  | .mentst m s v => match m.ev e, s.ev e, v.ev e with
    | .map id, .int _ b, x => match H[id]? with
      | some (.map es c) => match es.findIdx? (fun y => ((y.2.2 : Nat) : Int) == b) with
        | some i => match es[i]? with
          | some (k, _, b) => ok .undef (H.set id (.map (es.set i (k, x, b)) c))
          | none => none
        | none => none
      | _ => none
    | _, _, _ => none
  | .extr x i => match x.ev e with
    | .tuple vs => (vs[i]?).map (·, H)
    | _ => none
  | .len x => match x.ev e with
    | .imm _ _ n _ _ => ok (.int .i64 n) H
    | .ref _ _ _ _ n _ _ => ok (.int .i64 n) H
    | _ => none
  | .lens x => match x.ev e with
    | .str s => ok (.int .i64 s.length) H
    | _ => none
  | .lenm x => match x.ev e with
    | .nilmap => ok (.int .i64 0) H
    | .map id => match H[id]? with
      | some (.map es _) => ok (.int .i64 es.length) H
      | _ => none
    | _ => none
  | .cap x => match x.ev e with
    | .imm _ _ _ (some c) _ => ok (.int .i64 c) H
    | .ref _ _ _ _ _ c true => ok (.int .i64 c) H
    | _ => none
  | .minmax mx xs => (minmaxA mx (evs e xs)).map (·, H)
  | .append es bytes s x => appendA es bytes (s.ev e) (x.ev e) H
  | .appi es bytes s x => (appI es bytes (s.ev e) (x.ev e) H).map (·, H)
  | .appz es bytes zero s x => match x.ev e with
    | .int _ k => bif decide (0 ≤ k) && Nat.ble k.toNat maxInt && Nat.ble (k.toNat * bytes) roomMost then appendA es bytes (s.ev e) (.imm false es k.toNat none (repl zero k.toNat)) H else none
    | _ => none
  | .copy es d s => match d.ev e with
    | .ref id lim off es' len _ _ => bif !(Nat.beq es es') then none else
      match srcLen (s.ev e), srcCells (s.ev e) H es, H[id]? with
      | some m, some new, some (.cells cs) => bif Nat.beq cs.length lim && Nat.ble (off + len * es) lim
          then ok (.int .i64 (min m len : Nat)) (H.set id (.cells (splice cs off (new.take (min m len * es))))) else none
      | _, _, _ => none
    | .imm _ _ 0 _ _ => match srcLen (s.ev e) with
      | some _ => ok (.int .i64 0) H
      | none => none
    | _ => none
  | .clearm m => match m.ev e with
    | .nilmap => ok (.tuple []) H
    | .map id => match H[id]? with
      | some (.map _ c) => ok (.tuple []) (H.set id (.map [] c))
      | _ => none
    | _ => none
  | .clears es zero s => match s.ev e with
    | .imm _ _ 0 _ _ => ok (.tuple []) H
    | .ref id lim off es' len _ _ => match H[id]? with
      | some (.cells cs) => bif Nat.beq cs.length lim && Nat.beq es es' && Nat.beq zero.length es && Nat.ble (off + len * es) lim
          then ok (.tuple []) (H.set id (.cells (splice cs off (repl zero len)))) else none
      | _ => none
    | _ => none
  | .del kk m k => bif !(keyOk kk (k.ev e)) then none else
    match m.ev e with
    | .nilmap => ok (.tuple []) H
    | .map id => match H[id]? with
      | some (.map es c) => match findK kk (k.ev e) 0 es with
        | some (some (i, _, _)) => ok (.tuple []) (H.set id (.map (es.eraseIdx i) c))
        | some none => ok (.tuple []) H
        | none => none
      | _ => none
    | _ => none
  | .diff x y => match x.ev e, y.ev e with
    | .ptr i _ _, .ptr j _ _ => bif Nat.beq i j then none else ok .undef H
    | .ptr i _ _, .ref j _ _ _ _ _ _ => bif Nat.beq i j then none else ok .undef H
    | .ptr i _ _, .map j => bif Nat.beq i j then none else ok .undef H
    | .ptr .., .imm .. => ok .undef H
    | .iptr .., _ => ok .undef H
    | _, _ => none
  | .cmps x y => match x.ev e, y.ev e with
    | .str a, .str b => ok (.int .i64 (cmpB a b)) H
    | _, _ => none
  | .panic _ | .callp .. | .callf .. | .calls .. | .call .. => none

/-! ### The evaluator -/
abbrev CallT := AV → List AV → Stack → Option (CR × Stack)

def putD (e : Env) (d : Option Nat) (v : AV) : Env :=
  match d with
  | none => e
  | some i => Env.set e i v

/-- How an operation ends: with the next state, or with a panic. -/
inductive OR where
  | go (e : Env) (S : Stack)
  | pan (v : AV) (e : Env) (S : Stack)
  deriving Inhabited

def afterCall (e : Env) (d : Option Nat) : Option (CR × Stack) → Option OR
  | some (_, []) => none
  | some (.ret r, S) => some (.go (putD e d r) S)
  | some (.pan v, S) => some (.pan v e S)
  | none => none

def guardA (e : Env) : Option (Nat × Bool) → Option Bool
  | none => some true
  | some (j, want) => match Env.get e j with
    | .bool b => some (b == want)
    | .tuple [] => some false
    | _ => none

mutual
/-- Values that bear no memory at all. -/
def scal : AV → Bool
  | .bool _ | .int .. | .str _ | .nilptr | .nilmap | .nilFunc | .nilIface => true
  | .imm _ _ _ _ cs => cs.isEmpty
  | .agg cs => scals cs
  | .tuple vs => scals vs
  | _ => false
def scals : List AV → Bool
  | [] => true
  | v :: r => scal v && scals r
end

/-- What a value shows, when its level's memory is given up. -/
def leave (H : Heap) (r : AV) : Option AV :=
  match frz H 1000 r with
  | some r' => (down r').map fg
  | none => none

/-- What a call gives back that ran in a memory of its own: a row that goes on as an object of the caller's, or what is seen of the result. -/
def fresh (H' H : Heap) (r : AV) : Option (AV × Heap) :=
  match r with
  | .ref id lim off es len cap ex => match H'[id]? with
    | some (.cells cs) => bif Nat.beq cs.length lim && hfrees cs then some (.ref H.length lim off es len cap ex, H ++ [.cells cs]) else none
    | _ => none
  | r => match leave H' r with
    | some r' => bif hfree r' then some (r', H) else none
    | none => none

def evOper (call : CallT) (o : IOper) (e : Env) (S : Stack) : Option OR :=
  match guardA e o.guard with
  | none => none
  | some false => some (.go (putD e o.dst (.tuple [])) S)
  | some true => match o.op with
    | .panic x => match x.ev e with
      | .iface t v => some (.pan (.iface t v) e S)
      | _ => none
    | .callp f args => bif hfrees (evs e args) then match call (.func (.func f) [] []) (evs e args) [[]] with
        | some (.ret r, [H']) => match leave H' r with
          | some r' => bif hfree r' then some (.go (putD e o.dst r') S) else none
          | none => none
        | _ => none
      else none
    | .callf f args => match S with
      | [] => none
      | H :: S' => bif hfrees (evs e args) then match call (.func (.func f) [] []) (evs e args) [[]] with
        | some (.ret r, [H']) => match fresh H' H r with
          | some (r', H2) => some (.go (putD e o.dst r') (H2 :: S'))
          | none => none
        | _ => none
      else none
    | .calls f args => match S with
      | [] => none
      | H :: _ => match mapO (leave H) (evs e args) with
        | some azs => bif hfrees azs then match call (.func (.func f) [] []) azs [] with
            | some (.ret r, []) => bif scal r then some (.go (putD e o.dst r) S) else none
            | _ => none
          else none
        | none => none
    | .call f args => afterCall e o.dst (call (f.ev e) (evs e args) S)
    | op => match S with
      | [] => none
      | H :: S' => match evOp e H op with
        | some (v, H') => some (.go (putD e o.dst v) (H' :: S'))
        | none => none

def evOps (call : CallT) : List IOper → Env → Stack → Option OR
  | [], e, S => some (.go e S)
  | o :: r, e, S => match evOper call o e S with
    | some (.go e' S') => evOps call r e' S'
    | x => x

/-- Operations in several orders, all of which must come to the same. -/
def agree (call : CallT) (e : Env) (S : Stack) (e1 : Env) (S1 : Stack) : List (List IOper) → Bool
  | [] => true
  | l :: r => match evOps call l e S with
    | some (.go e2 S2) => bif decide (e2 = e1) && decide (S2 = S1) then agree call e S e1 S1 r else false
    | _ => false
def evAll (call : CallT) (e : Env) (S : Stack) : List (List IOper) → Option (Env × Stack)
  | [] => none
  | l :: r => match evOps call l e S with
    | some (.go e1 S1) => bif agree call e S e1 S1 r then some (e1, S1) else none
    | _ => none

/-- Places that are kept, told from the memory's end as it is now. -/
def absP (b : Nat) : IOp → IOp
  | .allocA d z => .allocAt (b - d) z
  | .mapA d => .mapAt (b - d)
  | op => op
def absO (b : Nat) (o : IOper) : IOper := { o with op := absP b o.op }
def evM (call : CallT) (e : Env) (S : Stack) (ls : List (List IOper)) : Option (Env × Stack) :=
  match S with
  | [] => none
  | H :: _ => evAll call e S (ls.map (List.map (absO H.length)))

abbrev Out := Option (IX × Env × Stack)

def iter (f : Env → Stack → Out) : Nat → Env → Stack → Out
  | 0, _, _ => none
  | n + 1, e, S => match f e S with
    | some (.normal, e', S') => iter f n e' S'
    | r => r

def evC (k : Nat) (call : CallT) : IC → Env → Stack → Out
  | .nop, e, S => some (.normal, e, S)
  | .ops draw l dr, e, S => match evOps call l e S with
    | some (.go e' S') => some (.normal, Env.drop e' dr, S')
    | some (.pan v e' S') => bif draw then none else some (.panic v, e', S')
    | none => none
  | .multi ls dr, e, S => match evM call e S ls with
    | some (e', S') => some (.normal, Env.drop e' dr, S')
    | none => none
  | .seq a b, e, S => match evC k call a e S with
    | some (.normal, e', S') => evC k call b e' S'
    | r => r
  | .cond c a b, e, S => match c.ev e with
    | .bool t => bif t then evC k call a e S else evC k call b e S
    | _ => none
  | .block id b, e, S => match evC k call b e S with
    | some (.exit j, e', S') => bif Nat.beq j id then some (.normal, e', S') else some (.exit j, e', S')
    | r => r
  | .loop b, e, S => iter (evC k call b) k e S
  | .exit id, e, S => some (.exit id, e, S)
  | .ret, e, S => some (.ret, e, S)
  | .rangeF g ps asg body, e, S => match S with
    | [] => none
    | H :: S' => bif !(isFnF (g.ev e)) then none else match call (g.ev e) [.func (.yield H.length) [] []] ((H ++ [.loop ⟨.ready, none, e, ps, asg, body⟩]) :: S') with
      | some (.ret _, H2 :: S2) => match H2[H.length]? with
        | some (.loop L) => match L.state with
          | .busy => none
          | _ => some (L.pending.getD .normal, e, H2.set H.length .dead :: S2)
        | _ => none
      | _ => none

def resultA (e : Env) (H : Heap) : IRes → Option AV
  | .tmp t => match Env.get e t with
    | .undef => none
    | v => some v
  | .cell a n => match Env.get e a with
    | .ptr id lim off => match H[id]? with
      | some (.cells cs) => bif Nat.beq cs.length lim then one n cs off else none
      | _ => none
    | _ => none

def resultsA (e : Env) (S : Stack) (rs : List IRes) : Option AV :=
  match S with
  | [] => none
  | H :: _ => match mapO (resultA e H) rs with
    | some [v] => some v
    | some vs => some (.tuple vs)
    | none => none

def runF (k : Nat) (call : CallT) (fn : IFun) (args : List AV) (S : Stack) : Option (CR × Stack) :=
  bif !(Nat.beq args.length fn.nargs) then none else
  match evC k call fn.body (Env.ofArgs 0 args) S with
  | none | some (.exit _, _, _) => none
  | some (.panic v, _, S') => some (.pan v, S')
  | some (_, e, S') => (resultsA e S' fn.results).map (.ret ·, S')

/-- A value that goes to a level of its own. -/
def upf (v : AV) : Option AV := (up v).map fg

def callFn (k : Nat) (call : CallT) (fn : IFun) (args : List AV) (S : Stack) : Option (CR × Stack) :=
  match (bif fn.shared then none else mapO upf args) with
  | none => match S with
    | [] => none
    | H :: S' => runF k call fn args (H :: S')
  | some args' => match runF k call fn args' ([] :: S) with
    | some (.ret r, H :: S') => (leave H r).map (.ret ·, S')
    | some (.pan r, H :: S') => (leave H r).map (.pan ·, S')
    | _ => none

def endRound (l : Nat) : Out → Option (CR × Stack)
  | some (x, _, H2 :: S2) => match H2[l]? with
    | some (.loop L2) => match x with
      | .panic _ => none
      | .normal => some (.ret (.bool true), H2.set l (.loop { L2 with state := .ready, pending := none }) :: S2)
      | x => some (.ret (.bool false), H2.set l (.loop { L2 with state := .done, pending := some x }) :: S2)
    | _ => none
  | _ => none

def round (k : Nat) (call : CallT) (l : Nat) (args : List AV) (S : Stack) : Option (CR × Stack) :=
  match S with
  | [] => none
  | H :: _ => match H[l]? with
    | some (.loop L) => bif !(Nat.beq args.length L.params.length) then none else
      match evC k call L.assign (Env.sets L.env L.params args) S with
      | some (.normal, e1, H1 :: S1) => match H1[l]? with
        | some (.loop L1) => match L1.state with
          | .ready => endRound l (evC k call L.body e1 (H1.set l (.loop { L1 with state := .busy }) :: S1))
          | _ => none
        | _ => none
      | _ => none
    | _ => none

/-- 'l', so many times. -/
def repL (l : List UInt8) : Nat → List UInt8
  | 0 => []
  | n + 1 => l ++ repL l n

/-- How long a text may become. -/
def maxText : Nat := 140737488355328

/-- Texts cut at a byte; the words of a text; a number as text; texts as one. -/
def splitL (c : UInt8) : List UInt8 → List (List UInt8)
  | [] => [[]]
  | b :: l => bif b == c then [] :: splitL c l else match splitL c l with
    | [] => [[b]]
    | x :: r => (b :: x) :: r
def cutL (c : UInt8) : List UInt8 → List UInt8 × List UInt8 × Bool
  | [] => ([], [], false)
  | b :: l => bif b == c then ([], l, true) else match cutL c l with
    | (x, y, t) => (b :: x, y, t)
def spB (b : UInt8) : Bool := b == 32 || Nat.ble 9 b.toNat && Nat.ble b.toNat 13
def fieldsL : List UInt8 → List UInt8 → List (List UInt8)
  | cur, [] => bif cur.isEmpty then [] else [cur]
  | cur, b :: l => bif spB b then (bif cur.isEmpty then fieldsL [] l else cur :: fieldsL [] l) else fieldsL (cur ++ [b]) l
def digL : Nat → Nat → List UInt8
  | 0, _ => []
  | k + 1, u => bif Nat.blt u 10 then [UInt8.ofNat (48 + u)] else digL k (u / 10) ++ [UInt8.ofNat (48 + u % 10)]
def itoaL (n : Int) : List UInt8 := bif decide (n < 0) then 45 :: digL 20 n.natAbs else digL 20 n.toNat
def joinL (sep : List UInt8) : List (List UInt8) → List UInt8
  | [] => []
  | [x] => x
  | x :: y :: r => x ++ (sep ++ joinL sep (y :: r))
def strOf : AV → Option (List UInt8)
  | .str s => some s
  | _ => none
def immS (l : List (List UInt8)) : AV := .imm false 1 l.length none (l.map AV.str)

/-- What the library's functions do that look at no memory. -/
def natS : NatK → List AV → Option AV
  | .repeats, [.str s, .int .i64 n] => bif decide (0 ≤ n) && decide (n ≤ 9223372036854775807) && Nat.ble (s.length * n.toNat) maxText then some (.str (repL s n.toNat)) else none
  | .fields, [.str s] => bif s.all (fun b => Nat.blt b.toNat 128) && !(fieldsL [] s).isEmpty && Nat.ble s.length 4000000000 then some (immS (fieldsL [] s)) else none
  | .itoa, [.int .i64 n] => bif decide (-9223372036854775808 ≤ n) && decide (n ≤ 9223372036854775807) then some (.str (itoaL n)) else none
  | .join, [.imm false 1 len _ cs, .str sep] => match mapO strOf cs with
    | some l => bif Nat.beq l.length len && Nat.blt 0 len && Nat.ble len maxText && Nat.ble (joinL sep l).length maxText then some (.str (joinL sep l)) else none
    | none => none
  | .split, [.str s, .str [c]] => bif Nat.ble s.length 4000000000 then some (immS (splitL c s)) else none
  | .cut, [.str s, .str [c]] => bif Nat.ble s.length 4000000000 then (match cutL c s with
    | (x, y, t) => some (.tuple [.str x, .str y, .bool t])) else none
  | _, _ => none

/-- What the library's functions do. -/
def natV : NatK → List AV → Stack → Option (CR × Stack)
  | .wbyte t el, [.ptr id 0 0, .int .u8 n], H :: S => match H[id]? with
    | some (.bld t' el' bs) => bif Nat.beq t t' && Nat.beq el el' && Nat.ble (bs.length + 1) maxText && decide (0 ≤ n) && decide (n < 256) then some (.ret .nilIface, H.set id (.bld t el (bs ++ [UInt8.ofNat n.toNat])) :: S) else none
    | _ => none
  | .wstr t el, [.ptr id 0 0, .str s], H :: S => match H[id]? with
    | some (.bld t' el' bs) => bif Nat.beq t t' && Nat.beq el el' && Nat.ble (bs.length + s.length) maxText then some (.ret (.tuple [.int .i64 s.length, .nilIface]), H.set id (.bld t el (bs ++ s)) :: S) else none
    | _ => none
  | .bstr t el, [.ptr id 0 0], H :: S => match H[id]? with
    | some (.bld t' el' bs) => bif Nat.beq t t' && Nat.beq el el' then some (.ret (.str bs), H.set id (.bld t el bs) :: S) else none
    | _ => none
  | k, args, S => match natS k args with
    | some v => some (.ret v, S)
    | none => none

def callV (funs : Nat → Option IFun) : Nat → CallT
  | 0, _, _, _ => none
  | k + 1, v, args, S => match v with
    | .func (.func g) fi ca => match funs g with
      | some fn => match fn.nat with
        | some nk => natV nk (fi ++ args ++ ca) S
        | none => callFn k (callV funs k) fn (fi ++ args ++ ca) S
      | none => none
    | .func (.yield l) _ _ => round k (callV funs k) l args S
    | .ext v => match S with
      | [] => none
      | H :: S' => match mapO down args with
        | none => none
        | some args' => match callV funs k v args' S' with
          | some (.ret r, S'') => (up r).map (.ret ·, H :: S'')
          | some (.pan r, S'') => (up r).map (.pan ·, H :: S'')
          | none => none
    | _ => none

end Go.AS
