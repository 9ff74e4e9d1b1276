import Derived.Wp
import Derived.Test.YtefnpnokbanbkaaAs0
set_option linter.all false
/-
  The short form of the model's code. By an AI agent.
-/
namespace Go.AS
open Go

structure Ann where
  shared : List Nat
  pure : List Nat
  muts : List Nat
  snap : List Nat
  imma : List Nat
  fresh : List (Nat × Nat)
  sl : List (Nat × Nat) := []
  plain : List (Nat × Nat) := []
  bld : Option (Nat × Nat) := none
  nat : List (Nat × NatK) := []
  deriving Inhabited

/-- The type of builders, and of their rows' elements. -/
def bldT : Option (Nat × Nat) → Nat → Option Nat
  | some (a, b), t => bif Nat.beq a t then some b else none
  | none, _ => none

def memN (x : Nat) : List Nat → Bool
  | [] => false
  | y :: r => Nat.beq x y || memN x r

def memP (x y : Nat) : List (Nat × Nat) → Bool
  | [] => false
  | (a, b) :: r => (Nat.beq x a && Nat.beq y b) || memP x y r

def countN (x : Nat) : List Nat → Nat
  | [] => 0
  | y :: r => bif Nat.beq x y then countN x r + 1 else countN x r

def cV : Nat → Value → Option AV
  | 0, _ => none
  | k + 1, v => match v with
    | .bool b => some (.bool b)
    | .int kd n => some (.int kd n)
    | .string s => some (.str s.data.toList)
    | .pointer none => some .nilptr
    | .slice none 0 0 => some (.imm true 0 0 (some 0) [])
    | .map none => some .nilmap
    | .nilFunc => some .nilFunc
    | .nilIface => some .nilIface
    | .agg cs => (mapO (fun c => bif c.oneCell then cV k c else none) cs.toList).map AV.agg
    | .func (.func f) fi ca => match mapO (cV k) fi.toList, mapO (cV k) ca.toList with
      | some fi, some ca => some (.func (.func f) fi ca)
      | _, _ => none
    | _ => none

def cO : Operand → Option Opd
  | .tmp t => some (.t t)
  | .const v => (cV 20 v).map .c
  | .global _ => none
  | .func f => some (.c (.func (.func f) [] []))

def cOo : Option Operand → Option (Option Opd)
  | none => some none
  | some x => (cO x).map some

/-- Is the operand the constant nil? -/
def nilC : Operand → Bool
  | .const .nilIface | .const (.pointer none) | .const (.slice none _ _) | .const (.map none) | .const .nilFunc => true
  | _ => false

section
variable (P : Program)

def sz (t : TypeId) : Option Nat := (P.info? t).map (·.size)
def zeroOf (t : TypeId) : Option AV := ((P.info? t).bind (·.zero)).bind (cV 20)
def zeroCs (t : TypeId) : Option (List AV) := (zeroOf P t).bind cellsOf
def aggN (t : TypeId) : Option (Option Nat) :=
  match P.underlying t with
  | some (.struct _) | some (.array _ _) => (sz P t).map some
  | some _ => some none
  | none => none

def kindOf (t : TypeId) : Option Nat :=
  match P.underlying t with
  | some (.int _) => some 0
  | some .string => some 1
  | some .bool => some 2
  | _ => none

/-- The places of the plain cells of a struct that is compared part by part. -/
def eqOffs (fs : List Field) : Option (List (Nat × Nat)) :=
  mapO (fun f : Field => bif f.name == "_" then none else (kindOf P f.type).map (f.offset, ·)) fs

def cParts (place : Nat → Option (Nat × Nat)) : List (Nat × Operand) → Option (List (Nat × Nat × Opd))
  | [] => some []
  | (i, x) :: r => match place i, cO x, cParts place r with
    | some (off, n), some o, some l => some ((off, n, o) :: l)
    | _, _, _ => none

def cBuiltin (b : Builtin) (ts : List TypeId) (azs : List Operand) : Option IOp :=
  match b, ts, azs with
  | .append, t :: u :: _, [s, x] => match P.underlying t, P.underlying u with
    | some (.slice e), some (.slice _) | some (.slice e), some .string => match P.info? e, zeroCs P e, cO s, cO x with
      | some i, some z, some s, some x => bif Nat.beq z.length i.size then some (.append i.size i.bytes s x) else none
      | _, _, _, _ => none
    | some (.slice e), some (.int _) => match P.info? e, zeroCs P e, cO s, cO x with
      | some i, some z, some s, some x => bif Nat.beq z.length i.size then some (.appz i.size i.bytes z s x) else none
      | _, _, _, _ => none
    | _, _ => none
  | .len, t :: _, [x] => match P.underlying t with
    | some .string => (cO x).map .lens
    | some (.slice _) => (cO x).map .len
    | some (.map _ _) => (cO x).map .lenm
    | some (.array n _) => some (.mv (.c (.int .i64 n)))
    | _ => none
  | .cap, t :: _, [x] => match P.underlying t with
    | some (.slice _) => (cO x).map .cap
    | _ => none
  | .min, _, azs => (mapO cO azs).map (.minmax false)
  | .max, _, azs => (mapO cO azs).map (.minmax true)
  | .copy, t :: _, [d, s] => match P.underlying t with
    | some (.slice e) => match sz P e, cO d, cO s with
      | some n, some d, some s => some (.copy n d s)
      | _, _, _ => none
    | _ => none
  | .clear, t :: _, [x] => match P.underlying t with
    | some (.map _ _) => (cO x).map .clearm
    | some (.slice e) => match P.info? e, zeroCs P e, cO x with
      | some i, some z, some x => bif Nat.beq z.length i.size then some (.clears i.size z x) else none
      | _, _, _ => none
    | _ => none
  | .delete, t :: _, [m, k] => match P.underlying t with
    | some (.map kt _) => match kindOf P kt, cO m, cO k with
      | some kk, some m, some k => some (.del kk m k)
      | _, _, _ => none
    | _ => none
  | _, _, _ => none

def cmpName : String := "internal/bytealg.abigen_runtime_cmpstring"
/-- The library's comparison of two texts, which has no body. -/
def isCmp (g : Nat) : Bool :=
  match P.funcs[g]? with
  | some f => f.name == cmpName && f.origin == "" && f.body.isNone
  | none => false

/-- Appends whose rows nobody writes. -/
def immA : Bool → IOp → IOp
  | true, .append es b s x => .appi es b s x
  | _, op => op

def cEq (t : TypeId) (ng : Bool) (x y : Operand) (a b : Opd) : TypeDesc → Option IOp
  | .bool => some (.eqb ng a b)
  | .struct fs => bif P.eqGuardType P.depth t || P.stoodInHeld t then none else (eqOffs P fs.toList).map (.eqa ng · a b)
  | .pointer e => bif (sz P e).getD 0 == 0 then none else some (.eqn 0 ng a b)
  | .interface _ => bif nilC x || nilC y then some (.eqn 4 ng a b) else none
  | .slice _ => some (.eqn 1 ng a b)
  | .map _ _ => some (.eqn 2 ng a b)
  | .func _ _ _ => some (.eqn 3 ng a b)
  | _ => none

def cBin (op : BinOp) (t : TypeId) (x y : Operand) : Option IOp :=
  match cO x, cO y with
  | some a, some b =>
    match P.underlying t with
    | some (.int _) | some .string => some (.bin op a b)
    | some d => match op with
      | .eql => cEq P t false x y a b d
      | .neq => cEq P t true x y a b d
      | _ => none
    | none => none
  | _, _ => none

def cConv (s d : TypeId) (x : Operand) : Option IOp :=
  match P.underlying s, P.underlying d, cO x with
  | some (.int _), some (.int k), some o => some (.conv k o)
  | some .string, some .string, some o => some (.mvs o)
  | some .string, some (.slice e), some o => match P.underlying e with
    | some (.int .u8) => some (.bytes o)
    | _ => none
  | some (.slice e), some .string, some o => match P.underlying e with
    | some (.int .u8) => some (.text o)
    | _ => none
  | _, _, _ => none

def cOp (an : Ann) (fn : Nat) : Op → Option IOp
  | .move x | .assign x => (cO x).map .mv
  | .pick c a b => match cO c, cO a, cO b with
    | some c, some a, some b => some (.pick c a b)
    | _, _, _ => none
  | .alloc t => match bldT an.bld t, zeroCs P t, sz P t with
    | none, some z, some n => bif Nat.beq z.length n then some (.alloc z) else none
    | some el, some [.nilptr, .imm true _ 0 _ _], some 2 => some (.newb t el)
    | _, _, _ => none
  | .box t x => match sz P t, cO x with
    | some n, some x => some (.box n x)
    | _, _ => none
  | .build t parts => match zeroCs P t, P.underlying t with
    | some z, some (.struct fs) => match mapO (fun f : Field => (sz P f.type).map (f.offset, ·)) fs.toList with
      | some pl => (cParts (pl[·]?) parts.toList).map (.build z)
      | none => none
    | some z, some (.array _ e) => match sz P e with
      | some n => (cParts (fun i => some (i * n, n)) parts.toList).map (.build z)
      | none => none
    | _, _ => none
  | .buildSlice t len parts => match P.underlying t with
    | some (.slice e) => match sz P e, zeroCs P e with
      | some n, some z => bif Nat.ble (len * n) 16777216 && Nat.beq z.length n then (cParts (fun i => some (i * n, n)) parts.toList).map (.bsl (memN fn an.muts) n len z) else none
      | _, _ => none
    | _ => none
  | .load t a => match aggN P t, cO a with
    | some n, some a => some (.load n a)
    | _, _ => none
  | .store t a v => match sz P t, cO a, cO v with
    | some n, some a, some v => some (.store n a v)
    | _, _, _ => none
  | .nilCheck x => (cO x).map .nilck
  | .binOp op t x y _ => cBin P op t x y
  | .unOp op _ x => match op, cO x with
    | .neg, some x => some (.neg x)
    | .xor, some x => some (.inv x)
    | .not, some x => some (.not x)
    | _, _ => none
  | .convert s d x => cConv P s d x
  | .makeInterface t x => match P.underlying t with
    | some (.interface _) | none => none
    | some _ => (cO x).map (.mkif t)
  | .makeFunc f fi ca => match f, mapO cO fi.toList, mapO cO ca.toList with
    | .func f, some fi, some ca => some (.mkfn (.func f) fi ca)
    | _, _, _ => none
  | .makeMap t r => match r with
    | none => some .mkmap
    | some (.const (.int _ _)) => match P.underlying t with
      | some (.map _ _) => some .mkmap
      | _ => none
    | _ => none
  | .makeSlice t l c => match P.underlying t with
    | some (.slice e) => match P.info? e, zeroCs P e, cO l, cO c with
      | some i, some z, some l, some c => bif Nat.beq z.length i.size then some (.mksl i.size i.bytes z l c) else none
      | _, _, _, _ => none
    | _ => none
  | .slice t x lo hi mx => match P.underlying t, cO x, cOo lo, cOo hi, cOo mx with
    | some .string, some x, some lo, some hi, some none => some (.subs x lo hi)
    | some (.slice e), some x, some lo, some hi, some mx => (sz P e).map (.sub · x lo hi mx)
    | some (.array n e), some x, some lo, some hi, some mx => (sz P e).map (.suba n · x lo hi mx)
    | _, _, _, _, _ => none
  | .fieldAddr t x f => match P.underlying t, cO x with
    | some (.struct fs), some x => match fs[f]? with
      | some fd => match sz P fd.type with
        | some (_ + 1) => some (.faddr fd.offset x)
        | _ => none
      | none => none
    | _, _ => none
  | .field t x f => match P.underlying t, cO x with
    | some (.struct fs), some x => match fs[f]? with
      | some fd => (aggN P fd.type).map (.fld fd.offset · x)
      | none => none
    | _, _ => none
  | .indexAddr t x i => match P.underlying t, cO x, cO i with
    | some (.slice e), some x, some i => match sz P e with
      | some (m + 1) => some (.ixa (m + 1) x i)
      | _ => none
    | some (.array n e), some x, some i => (sz P e).map (.ixaa n · x i)
    | _, _, _ => none
  | .index t x i => match P.underlying t, cO x, cO i with
    | some .string, some x, some i => some (.ixs x i)
    | some (.array n e), some x, some i => match aggN P e, sz P e with
      | some a, some s => some (.ixv n s a.isSome x i)
      | _, _ => none
    | _, _, _ => none
  | .lookup t m k ok => match P.underlying t with
    | some (.map kt e) => match kindOf P kt, zeroOf P e, cO m, cO k with
      | some kk, some z, some m, some k => some (.look kk z ok m k)
      | _, _, _, _ => none
    | _ => none
  | .mapUpdate t m k v => match P.underlying t with
    | some (.map kt _) => match kindOf P kt, cO m, cO k, cO v with
      | some kk, some m, some k, some v => some (.mapup kk m k v)
      | _, _, _, _ => none
    | _ => none
  | .range t m => match P.underlying t with
    | some (.map _ _) => (cO m).map .rng
    | _ => none
  | .next x str => bif str then none else (cO x).map .nxt
  | .panic x => (cO x).map .panic
  | .extract x i => (cO x).map (.extr · i)
  | .call c => match c.callee with
    | .builtin b => (cBuiltin P b c.argTypes.toList c.args.toList).map (immA (memN fn an.imma))
    | .value f => match cO f, mapO cO c.args.toList with
      | some (.c (.func (.func g) [] [])), some azs => bif isCmp P g then (match azs with | [x, y] => some (.cmps x y) | _ => none) else some (bif memP fn g an.plain then .call (.c (.func (.func g) [] [])) azs else bif memP fn g an.fresh then (bif memN g an.snap then .calls g azs else .callf g azs) else bif memN g an.pure then .callp g azs else bif memN g an.snap then .calls g azs else .call (.c (.func (.func g) [] [])) azs)
      | some f, some azs => some (.call f azs)
      | _, _ => none
    | .invoke _ _ => none
  | _ => none

/-! ### Orders -/
def binding (e : Edge) : Bool :=
  match e.ground with
  | .textOnly _ | .gcOnly _ => false
  | _ => true

/-- For each operation, those that come ahead of it. -/
def maskOf (acc : List Nat) : List Edge → Nat
  | [] => 0
  | e :: r => bif binding e then Nat.lor (Nat.lor (Nat.shiftLeft 1 e.on) (acc.getD e.on 0)) (maskOf acc r) else maskOf acc r
def aheadM (acc : List Nat) : List Oper → List Nat
  | [] => acc
  | o :: r => aheadM (acc ++ [maskOf acc o.after.toList]) r
def bitsTo (m : Nat) : Nat → List Nat
  | 0 => []
  | k + 1 => bif Nat.testBit m k then k :: bitsTo m k else bitsTo m k
def bitsOf (m : Nat) : List Nat := bitsTo m (Nat.log2 m + 1)
def aheadOf (_ : List (List Nat)) (ops : List Oper) : List (List Nat) := (aheadM [] ops).map bitsOf

def tmpsOf : List Operand → List Nat
  | [] => []
  | .tmp t :: r => t :: tmpsOf r
  | _ :: r => tmpsOf r

def optO : Option Opd → List Opd
  | none => []
  | some x => [x]

/-- What an operation looks at. -/
def opds : IOp → List Opd
  | .mv x | .box _ x | .load _ x | .nilck x | .neg x | .inv x | .not x | .conv _ x | .bytes x | .text x | .mvs x | .mkif _ x
  | .faddr _ x | .fld _ _ x | .extr x _ | .len x | .lens x | .lenm x | .cap x | .clearm x | .clears _ _ x | .panic x | .rng x | .nxt x => [x]
  | .pick a b c | .mapup _ a b c | .mentst a b c => [a, b, c]
  | .alloc _ | .slots _ | .allocA _ _ | .mapA _ | .allocAt _ _ | .mapAt _ | .mkmap | .newb _ _ => []
  | .build _ ps | .bsl _ _ _ _ ps => ps.map (·.2.2)
  | .store _ a b | .bin _ a b | .eqb _ a b | .eqn _ _ a b | .eqa _ _ a b | .mksl _ _ _ a b | .ixa _ a b | .ixaa _ _ a b | .ixs a b | .ixv _ _ _ a b
  | .look _ _ _ a b | .ment _ _ a b | .append _ _ a b | .appi _ _ a b | .appz _ _ _ a b | .diff a b | .cmps a b | .copy _ a b | .del _ a b => [a, b]
  | .mkfn _ xs ys => xs ++ ys
  | .sub _ x a b c | .suba _ _ x a b c => x :: (optO a ++ optO b ++ optO c)
  | .subs x a b => x :: (optO a ++ optO b)
  | .minmax _ xs | .callp _ xs | .callf _ xs | .calls _ xs => xs
  | .call f xs => f :: xs

def opdTs : List Opd → List Nat
  | [] => []
  | .t i :: r => i :: opdTs r
  | .c _ :: r => opdTs r

def optD : Option Nat → List Nat
  | none => []
  | some d => [d]

def looks (o : IOper) : List Nat := opdTs (opds o.op) ++ optD (o.guard.map (·.1))

/-- 0: no memory; 1: reads; 2: writes, or makes something. -/
def classOf : IOp → Nat
  | .box .. | .alloc .. | .allocA .. | .mapA _ | .allocAt .. | .mapAt _ | .rng _ | .nxt _ | .slots _ | .store .. | .mkmap | .newb .. | .mksl .. | .mapup .. | .ment .. | .mentst .. | .append .. | .appz .. | .copy .. | .clearm .. | .clears .. | .del .. | .call .. | .callf .. => 2
  | .bsl mt .. => bif mt then 2 else 0
  | .calls .. | .load .. | .look .. | .lenm .. | .text .. | .eqn .. | .suba .. | .appi .. => 1
  | _ => 0

def memNs (xs ys : List Nat) : Bool := xs.any (memN · ys)

def pairOk (x y : IOper) : Bool :=
  !(memNs (optD x.dst) (looks y)) && !(memNs (optD x.dst) (optD y.dst)) && !(memNs (optD y.dst) (looks x)) &&
  (Nat.beq (classOf x.op) 0 || Nat.beq (classOf y.op) 0 || (Nat.ble (classOf x.op) 1 && Nat.ble (classOf y.op) 1))

/-- Where each temporary is made: ahead of the place a, or by one of 'ps'. -/
def madeOk (t a : Nat) (ps : List Nat) : Nat → List IOper → Bool
  | _, [] => true
  | c, o :: r => ((match o.dst with | some d => !(Nat.beq d t) | none => true) || Nat.blt c a || memN c ps) && madeOk t a ps (c + 1) r

/-- What touches no object but the one that it gives back. -/
def isW : IOp → Bool
  | .append .. | .appz .. | .callf .. | .box .. | .alloc .. | .allocA .. | .mkmap | .mksl .. => true
  | .bsl mt .. => mt
  | _ => false
def isD (d : Nat) (o : IOper) : Bool :=
  match o.dst with
  | some j => Nat.beq j d
  | none => false
def cntD (d : Nat) : List IOper → Nat
  | [] => 0
  | o :: r => bif isD d o then cntD d r + 1 else cntD d r

/-- A load, and behind it in the text a store to another object, or a new object: may they change places? ios: all. a: the load's place, ps: what comes ahead of the other. -/
def dynOk (ios : List IOper) (a : Nat) (ps : List Nat) (x y : IOper) : Bool :=
  !(memNs (optD x.dst) (looks y)) && !(memNs (optD x.dst) (optD y.dst)) && !(memNs (optD y.dst) (looks x)) &&
  match x.op, y.op, y.guard with
  | .load _ (.t tx), .store _ (.t tj) _, none => madeOk tx a [] 0 ios && madeOk tj a ps 0 ios && (match x.guard with | none => true | some (j, _) => madeOk j a [] 0 ios)
  | .load _ _, .alloc _, none => true
  | .allocA d1 _, .allocA d2 _, none => !(Nat.beq d1 d2) && (match x.guard with | none => true | some _ => false)
  | .load _ (.t tx), op, none => (match y.dst with | some d => isW op && Nat.beq (cntD d ios) 1 && madeOk tx a [] 0 ios && (match x.guard with | none => true | some (j, _) => madeOk j a [] 0 ios) | none => false)
  | op, .load _ (.t tx), _ => (match x.dst, x.guard with | some d, none => isW op && Nat.beq (cntD d ios) 1 && madeOk tx a ps 0 ios && (match y.guard with | none => true | some (j, _) => madeOk j a ps 0 ios) | _, _ => false)
  | _, _, _ => false
/-- What is to be asked then. -/
def dynAsk (x y : IOper) : List IOper :=
  match x.op, y.op with
  | .load _ (.t tx), .store _ (.t tj) _ => [⟨none, .diff (.t tx) (.t tj), x.guard⟩]
  | .load _ _, .alloc _ => []
  | .load _ (.t tx), _ => (match y.dst with | some d => [⟨none, .diff (.t tx) (.t d), x.guard⟩] | none => [])
  | _, .load _ (.t tx) => (match x.dst with | some d => [⟨none, .diff (.t tx) (.t d), y.guard⟩] | none => [])
  | _, _ => []

def drawOkFrom (ios : List IOper) (x : IOper) (i : Nat) : List (IOper × List Nat) → Bool
  | [] => true
  | (y, ps) :: r => (memN i ps || pairOk x y || dynOk ios i ps x y) && drawOkFrom ios x i r

def drawOkAll (ios : List IOper) (i : Nat) : List (IOper × List Nat) → Bool
  | [] => true
  | (x, ps) :: r => ps.all (Nat.blt · i) && drawOkFrom ios x i r && drawOkAll ios (i + 1) r

def drawOk (ops : List Oper) (l : List IOper) : Bool := drawOkAll l 0 (l.zip (aheadOf [] ops))

def asksFrom (x : IOper) (i : Nat) : List (IOper × List Nat) → List IOper
  | [] => []
  | (y, ps) :: r => (bif memN i ps || pairOk x y then [] else dynAsk x y) ++ asksFrom x i r
def asksAll (i : Nat) : List (IOper × List Nat) → List IOper
  | [] => []
  | (x, ps) :: r => asksFrom x i r ++ asksAll (i + 1) r
def asks (ops : List Oper) (l : List IOper) : List IOper := asksAll 0 (l.zip (aheadOf [] ops))

/-! ### Uses -/
def usesOps : List Oper → List Nat
  | [] => []
  | o :: r => tmpsOf o.op.operands.toList ++ usesOps r

def usesC : Code → List Nat
  | .region _ ops _ => usesOps ops.toList
  | .seq a b => usesC a ++ usesC b
  | .cond c a b => tmpsOf [c] ++ usesC a ++ usesC b
  | .block _ b | .loop b | .scope b => usesC b
  | .rangeFunc g _ a b => tmpsOf [g] ++ usesC a ++ usesC b
  | _ => []

def defsOps : List Oper → List Nat
  | [] => []
  | o :: r => optD o.dst ++ defsOps r
def defsC : Code → List Nat
  | .region _ ops _ => defsOps ops.toList
  | .seq a b | .cond _ a b => defsC a ++ defsC b
  | .block _ b | .loop b | .scope b => defsC b
  | .rangeFunc _ ps a b => ps.toList ++ defsC a ++ defsC b
  | _ => []
def onceN : List Nat → List Nat
  | [] => []
  | x :: r => bif memN x r then onceN r else x :: onceN r
/-- Definitions, in the list of all uses. -/
def defMark : Nat := 1000000
/-- What is made and used within c alone. -/
def deadOf (all : List Nat) (c : Code) : List Nat :=
  let us := usesC c
  let ds := defsC c
  (onceN ds).filter fun d => Nat.beq (countN d all) (countN d us) && Nat.beq (countN (d + defMark) all) (countN d ds)
/-- Code, behind which something is forgotten. -/
def wd : List Nat → IC → IC
  | [], i => i
  | dr, i => .seq i (.ops false [] dr)

def dropsOf (all own : List Nat) : List Oper → List Nat
  | [] => []
  | o :: r => match o.dst with
    | some d => bif Nat.beq (countN d all) (countN d own) then d :: dropsOf all own r else dropsOf all own r
    | none => dropsOf all own r

def dstOk (d : Option Nat) (n : Nat) : Bool :=
  match d with
  | some d => Nat.blt d n
  | none => true

def guardOf (ops : List Oper) : Option (Nat × Bool) → Option (Option (Nat × Bool))
  | none => some none
  | some (g, want) => match ops[g]? with
    | some q => match q.dst with
      | some d => some (some (d, want))
      | none => none
    | none => none

/-- New objects whose places are kept. -/
def lookN (t : Nat) : List (Nat × Nat) → Option Nat
  | [] => none
  | (a, b) :: r => bif Nat.beq t a then some b else lookN t r
def slotOp (sl : List (Nat × Nat)) (dst : Option Nat) (op : IOp) : IOp :=
  match op, dst with
  | .alloc z, some t => match lookN t sl with
    | some d => .allocA d z
    | none => .alloc z
  | .mkmap, some t => match lookN t sl with
    | some d => .mapA d
    | none => .mkmap
  | op, _ => op

def cOper (an : Ann) (fn n : Nat) (ops : List Oper) (o : Oper) : Option IOper :=
  match cOp P an fn o.op, guardOf ops o.guard with
  | some op, some gd => bif dstOk o.dst n then some ⟨o.dst, slotOp an.sl o.dst op, gd⟩ else none
  | _, _ => none

/-- What a region makes new. -/
def allocsOf : List Oper → List Nat
  | [] => []
  | o :: r => match o.op, o.dst with
    | .alloc _, some t | .makeMap .., some t => t :: allocsOf r
    | _, _ => allocsOf r
def places : List Nat → List (Nat × Nat)
  | [] => []
  | t :: r => (t, r.length + 1) :: places r

/-- Where the order leaves it, the callees named are called in the caller's memory. -/
def Ann.calm (an : Ann) (fn : Nat) : Ann := { an with pure := an.pure.filter fun g => !(memP fn g an.fresh), fresh := [] }

def cR (an : Ann) (fn n : Nat) (all : List Nat) (ops : Array Oper) (draw : Bool) : Option IC :=
  match mapO (cOper P an fn n ops.toList) ops.toList with
  | some l => bif draw && !(drawOk ops.toList l) then none else some (.ops draw (bif draw then l ++ asks ops.toList l else l) (dropsOf all (usesOps ops.toList) ops.toList))
  | none => none
def slotAnn (an : Ann) (ops : Array Oper) : Ann := { an with sl := places (allocsOf ops.toList) }

/-! ### Operations in all orders that tell -/
def pairAt (ios : List IOper) (i k : Nat) : Bool :=
  match ios[i]?, ios[k]? with
  | some x, some y => pairOk x y
  | _, _ => false
def readyR (azs : List (List Nat)) (rest : List Nat) (i : Nat) : Bool := (azs.getD i []).all fun p => !(memN p rest)
/-- May it be the next one, whatever else is ready? -/
def ampleR (ios : List IOper) (azs : List (List Nat)) (rest : List Nat) (i : Nat) : Bool :=
  readyR azs rest i && rest.all fun k => Nat.beq k i || memN i (azs.getD k []) || pairAt ios i k
def delN (i : Nat) (rest : List Nat) : List Nat := rest.filter fun k => !(Nat.beq k i)
def reps (ios : List IOper) (azs : List (List Nat)) : Nat → List Nat → List (List Nat)
  | 0, _ => [[]]
  | _ + 1, [] => [[]]
  | f + 1, rest => match rest.find? (ampleR ios azs rest) with
    | some i => (reps ios azs f (delN i rest)).map (i :: ·)
    | none => rest.flatMap fun i => bif readyR azs rest i then (reps ios azs f (delN i rest)).map (i :: ·) else []
def badFrom (ios : List IOper) (azs : List (List Nat)) (i : Nat) : List Nat → Nat
  | [] => 0
  | k :: r => bif memN i (azs.getD k []) || pairAt ios i k then badFrom ios azs i r else badFrom ios azs i r + 1
def badAll (ios : List IOper) (azs : List (List Nat)) : List Nat → Nat
  | [] => 0
  | i :: r => badFrom ios azs i r + badAll ios azs r
def aheadIn : Nat → List (List Nat) → Bool
  | _, [] => true
  | i, ps :: r => ps.all (Nat.blt · i) && aheadIn (i + 1) r
def cM (an : Ann) (fn n : Nat) (all : List Nat) (ops : Array Oper) : Option IC :=
  match mapO (cOper P an fn n ops.toList) ops.toList with
  | some l => bif aheadIn 0 (aheadOf [] ops.toList) && Nat.ble (badAll l (aheadOf [] ops.toList) (List.range l.length)) 6
    then some (.multi ((reps l (aheadOf [] ops.toList) l.length (List.range l.length)).map fun L => L.filterMap (l[·]?)) (dropsOf all (usesOps ops.toList) ops.toList)) else none
  | none => none

def orBad : Option IC → Option IC
  | some i => some i
  | none => some .bad

/-- 'nest': within a round of a range over a function. -/
def cC (an : Ann) (fn n : Nat) (all : List Nat) (nest : Bool) : Code → Option IC
  | .skip | .label _ => some .nop
  | .region _ ops draw => orBad (match cR P (an.calm fn) fn n all ops draw with
    | some i => some i
    | none => match cR P an fn n all ops draw with
    | some i => some i
    | none => match cR P (slotAnn an ops) fn n all ops draw with
    | some i => some (.seq (.ops false [⟨none, .slots (allocsOf ops.toList).length, none⟩] []) i)
    | none => bif draw then (cM P (slotAnn (an.calm fn) ops) fn n all ops).map fun i => .seq (.ops false [⟨none, .slots (allocsOf ops.toList).length, none⟩] []) i else none)
  | .seq a b => match cC an fn n all nest a, cC an fn n all nest b with
    | some a, some b => some (.seq a b)
    | _, _ => none
  | .cond c a b => orBad (match cO c, cC an fn n all nest a, cC an fn n all nest b with
    | some c, some a, some b => some (.cond c a b)
    | _, _, _ => none)
  | .block id b => (cC an fn n all nest b).map fun i => wd (deadOf all b) (.block id i)
  | .loop b => (cC an fn n all nest b).map fun i => .loop (wd (deadOf all b) i)
  | .scope b => cC an fn n all nest b
  | .rangeFunc g ps a b => orBad (bif nest then none else match cO g, cC an fn n all true a, cC an fn n all true b with
    | some g, some a, some b => bif ps.toList.all (Nat.blt · n) then some (.rangeF g ps.toList a b) else none
    | _, _, _ => none)
  | .exit id => some (.exit id)
  | .ret => some .ret
  | _ => some .bad

def cRes (n : Nat) : ResultVar → Option IRes
  | .tmp t => bif Nat.blt t n then some (.tmp t) else none
  | .cell a t => (aggN P t).map (.cell a ·)

def usesR : List ResultVar → List Nat
  | [] => []
  | .tmp t :: r => t :: usesR r
  | .cell a _ :: r => a :: usesR r

def special (f : Func) : Bool := f.name == "runtime.NumGoroutine"

def cF (an : Ann) (i : Nat) (f : Func) : Option IFun :=
  match f.body with
  | none => none
  | some c => bif special f || Nat.blt f.ntmps (f.params.size + f.nfree) then none else
    match cC P an i f.ntmps (usesR f.results.toList ++ usesC c ++ (defsC c).map (· + defMark)) false c, mapO (cRes P f.ntmps) f.results.toList with
    | some b, some rs => some ⟨memN i an.shared, f.params.size + f.nfree, rs, b, none⟩
    | _, _ => none

/-- A function that is told. -/
def natOf (i : Nat) : List (Nat × NatK) → Option NatK
  | [] => none
  | (j, k) :: r => bif Nat.beq j i then some k else natOf i r

def cN (i : Nat) (f : Func) (an : Ann) : Option IFun :=
  match natOf i an.nat with
  | some nk => match f.body with
    | none => none
    | some _ => bif special f then none else some { shared := true, nargs := 0, results := [], body := .nop, nat := some nk }
  | none => cF P an i f

def funsOf (an : Ann) (i : Nat) : Option IFun := (P.funcs[i]?).bind fun f => cN P i f an
end

end Go.AS

/-
  More steps do no harm; nor does more memory below. By an AI agent.
-/
namespace Go.AS
open Go

def CallLe (c c' : CallT) : Prop := ∀ f args S r S', c f args S = some (r, S') → ∀ T, c' f args (S ++ T) = some (r, S' ++ T)

def OR.ext (T : Stack) : OR → OR
  | .go e S => .go e (S ++ T)
  | .pan v e S => .pan v e (S ++ T)

def outExt (T : Stack) (r : IX × Env × Stack) : IX × Env × Stack := (r.1, r.2.1, r.2.2 ++ T)

theorem afterCall_mono {c c' : CallT} (h : CallLe c c') {e : Env} {d : Option Nat} {f : AV} {args : List AV} {S : Stack} {r : OR} (T : Stack) (hc : afterCall e d (c f args S) = some r) : afterCall e d (c' f args (S ++ T)) = some (r.ext T) := by
  cases hx : c f args S with
  | none => rw [hx] at hc; cases hc
  | some p =>
    obtain ⟨q, S'⟩ := p
    rw [h _ _ _ _ _ hx T]
    rw [hx] at hc
    cases S' with
    | nil => cases q <;> cases hc
    | cons H1 S1 => cases q <;> (cases hc; rfl)

theorem evOper_mono {c c' : CallT} (h : CallLe c c') {o : IOper} {e : Env} {S : Stack} {r : OR} (T : Stack) (hr : evOper c o e S = some r) : evOper c' o e (S ++ T) = some (r.ext T) := by
  unfold evOper at hr ⊢
  split at hr
  · cases hr
  · cases hr; rfl
  · split at hr
    · split at hr
      · cases hr; rfl
      · cases hr
    · rename_i f azs _
      cases hf : hfrees (evs e azs) with
      | false => rw [hf] at hr; cases hr
      | true =>
        rw [hf] at hr
        simp only [cond_true] at hr ⊢
        split at hr
        · rename_i v H1 hv
          have := h _ _ _ _ _ hv []
          simp only [List.append_nil] at this
          rw [this]
          split at hr
          · rename_i v' hlv
            cases hv2 : hfree v' with
            | false => rw [hv2] at hr; cases hr
            | true => rw [hv2] at hr; cases hr; simp only [hlv, hv2, cond_true]; rfl
          · cases hr
        · cases hr
    · rename_i f azs _
      split at hr
      · cases hr
      · simp only [List.cons_append]
        cases hf : hfrees (evs e azs) with
        | false => rw [hf] at hr; cases hr
        | true =>
          rw [hf] at hr
          simp only [cond_true] at hr ⊢
          split at hr
          · rename_i v H1 hv
            have := h _ _ _ _ _ hv []
            simp only [List.append_nil] at this
            rw [this]
            split at hr
            · rename_i v' H2 hfr
              cases hr
              simp only [hfr]; rfl
            · cases hr
          · cases hr
    · split at hr
      · cases hr
      · simp only [List.cons_append]
        split at hr
        · rename_i azs has
          cases hf : hfrees azs with
          | false => rw [hf] at hr; cases hr
          | true =>
            rw [hf] at hr
            simp only [cond_true] at hr
            split at hr
            · rename_i v hv
              have := h _ _ _ _ _ hv []
              simp only [List.append_nil] at this
              cases hv2 : scal v with
              | false => rw [hv2] at hr; cases hr
              | true =>
                rw [hv2] at hr
                cases hr
                simp only [has, hf, cond_true, this, hv2]; rfl
            · cases hr
        · cases hr
    · exact afterCall_mono h T hr
    · split at hr
      · cases hr
      · simp only [List.cons_append]
        split at hr
        · cases hr; rfl
        · cases hr

theorem evOps_mono {c c' : CallT} (h : CallLe c c') (T : Stack) : ∀ {l : List IOper} {e : Env} {S : Stack} {r : OR}, evOps c l e S = some r → evOps c' l e (S ++ T) = some (r.ext T)
  | [], _, _, _, hr => by cases hr; rfl
  | o :: l, e, S, r, hr => by
    unfold evOps at hr ⊢
    split at hr
    · rename_i e1 S1 h1
      rw [evOper_mono h T h1]
      exact evOps_mono h T hr
    · rename_i hno
      rw [evOper_mono h T hr]
      cases r with
      | go e1 S1 => exact absurd hr (hno _ _)
      | pan => rfl

theorem iter_mono {f f' : Env → Stack → Out} (T : Stack) (hf : ∀ e S r, f e S = some r → f' e (S ++ T) = some (outExt T r)) : ∀ {n n' : Nat} {e : Env} {S : Stack} {r : IX × Env × Stack}, n ≤ n' → iter f n e S = some r → iter f' n' e (S ++ T) = some (outExt T r)
  | 0, _, _, _, _, _, h => by simp [iter] at h
  | n + 1, 0, _, _, _, hn, _ => by omega
  | n + 1, n' + 1, e, S, r, hn, h => by
    simp only [iter] at h ⊢
    split at h
    · rename_i e1 S1 h1
      rw [hf _ _ _ h1]
      exact iter_mono T hf (Nat.le_of_succ_le_succ hn) h
    · rename_i hno
      rw [hf _ _ _ h]
      obtain ⟨x, e1, S1⟩ := r
      cases x with
      | normal => exact absurd h (hno _ _)
      | _ => rfl

theorem agree_mono {c c' : CallT} (h : CallLe c c') (T : Stack) {e e1 : Env} {S S1 : Stack} : ∀ {ls : List (List IOper)}, agree c e S e1 S1 ls = true → agree c' e (S ++ T) e1 (S1 ++ T) ls = true
  | [], _ => rfl
  | l :: r, hr => by
    simp only [agree] at hr ⊢
    split at hr
    · rename_i e2 S2 h2
      rw [evOps_mono h T h2]
      cases hb : (decide (e2 = e1) && decide (S2 = S1)) with
      | false => rw [hb] at hr; cases hr
      | true =>
        rw [hb] at hr
        simp only [Bool.and_eq_true, decide_eq_true_eq] at hb
        obtain ⟨rfl, rfl⟩ := hb
        simp only [OR.ext, decide_true, Bool.and_self, cond_true]
        exact agree_mono h T hr
    · cases hr
theorem evAll_mono {c c' : CallT} (h : CallLe c c') (T : Stack) {e e1 : Env} {S S1 : Stack} {ls : List (List IOper)} (hr : evAll c e S ls = some (e1, S1)) : evAll c' e (S ++ T) ls = some (e1, S1 ++ T) := by
  cases ls with
  | nil => cases hr
  | cons l r =>
    simp only [evAll] at hr ⊢
    split at hr
    · rename_i e2 S2 h2
      rw [evOps_mono h T h2]
      cases hb : agree c e S e2 S2 r with
      | false => rw [hb] at hr; cases hr
      | true =>
        rw [hb] at hr
        simp only [cond_true, Option.some.injEq, Prod.mk.injEq] at hr
        obtain ⟨rfl, rfl⟩ := hr
        simp only [OR.ext, agree_mono h T hb, cond_true]
    · cases hr

theorem evC_mono {k k' : Nat} {c c' : CallT} (hk : k ≤ k') (h : CallLe c c') (T : Stack) : ∀ (ir : IC) {e : Env} {S : Stack} {r : IX × Env × Stack}, evC k c ir e S = some r → evC k' c' ir e (S ++ T) = some (outExt T r) := by
  intro ir
  induction ir with
  | nop => intro e S r hr; cases hr; rfl
  | exit => intro e S r hr; cases hr; rfl
  | ret => intro e S r hr; cases hr; rfl
  | ops d l dr =>
    intro e S r hr
    simp only [evC] at hr ⊢
    cases h1 : evOps c l e S with
    | none => rw [h1] at hr; cases hr
    | some o =>
      rw [evOps_mono h T h1]
      rw [h1] at hr
      cases o with
      | go e1 S1 => cases hr; rfl
      | pan v e1 S1 =>
        cases d with
        | true => cases hr
        | false => cases hr; rfl
  | multi ls dr =>
    intro e S r hr
    simp only [evC] at hr ⊢
    split at hr
    · rename_i e1 S1 h1
      have h2 : evM c' e (S ++ T) ls = some (e1, S1 ++ T) := by
        unfold evM at h1 ⊢
        cases S with
        | nil => cases h1
        | cons H S0 => exact evAll_mono h T h1
      rw [h2]
      cases hr; rfl
    · cases hr
  | seq a b iha ihb =>
    intro e S r hr
    simp only [evC] at hr ⊢
    split at hr
    · rename_i e1 S1 h1
      rw [iha h1]
      exact ihb hr
    · rename_i hno
      rw [iha hr]
      obtain ⟨x, e1, S1⟩ := r
      cases x with
      | normal => exact absurd hr (hno _ _)
      | _ => rfl
  | cond co a b iha ihb =>
    intro e S r hr
    simp only [evC] at hr ⊢
    split at hr
    · rename_i t ht
      cases t with
      | true => exact iha hr
      | false => exact ihb hr
    · cases hr
  | block id b ih =>
    intro e S r hr
    simp only [evC] at hr ⊢
    split at hr
    · rename_i j e1 S1 h1
      rw [ih h1]
      simp only [outExt]
      cases hj : Nat.beq j id with
      | true => rw [hj] at hr; cases hr; rfl
      | false => rw [hj] at hr; cases hr; rfl
    · rename_i hno
      rw [ih hr]
      obtain ⟨x, e1, S1⟩ := r
      cases x with
      | exit => exact absurd hr (hno _ _ _)
      | _ => rfl
  | loop b ih =>
    intro e S r hr
    simp only [evC] at hr ⊢
    exact iter_mono T (fun e S r hx => ih hx) hk hr
  | rangeF g ps a b _ _ =>
    intro e S r hr
    simp only [evC] at hr ⊢
    split at hr
    · cases hr
    · rename_i H S'
      simp only [List.cons_append]
      cases hg : isFnF (g.ev e) with
      | false => rw [hg] at hr; cases hr
      | true =>
        rw [hg] at hr
        simp only [Bool.not_true, cond_false] at hr ⊢
        split at hr
        · rename_i v H2 S2 h1
          have := h _ _ _ _ _ h1 T
          simp only [List.cons_append] at this
          rw [this]
          simp only
          split at hr
          · rename_i L hL
            split at hr
            · cases hr
            · cases hr; rfl
          · cases hr
        · cases hr

theorem resultsA_ext {e : Env} {S : Stack} {rs : List IRes} {v : AV} (T : Stack) (h : resultsA e S rs = some v) : resultsA e (S ++ T) rs = some v := by
  cases S with
  | nil => cases h
  | cons H S => exact h

def crExt (T : Stack) (r : CR × Stack) : CR × Stack := (r.1, r.2 ++ T)

theorem runF_mono {k k' : Nat} {c c' : CallT} (hk : k ≤ k') (h : CallLe c c') (T : Stack) {fn : IFun} {args : List AV} {S : Stack} {r : CR × Stack} (hr : runF k c fn args S = some r) : runF k' c' fn args (S ++ T) = some (crExt T r) := by
  unfold runF at hr ⊢
  cases hb : (!(Nat.beq args.length fn.nargs)) with
  | true => rw [hb] at hr; cases hr
  | false =>
    rw [hb] at hr
    simp only [cond_false] at hr ⊢
    cases h1 : evC k c fn.body (Env.ofArgs 0 args) S with
    | none => rw [h1] at hr; cases hr
    | some o =>
      rw [evC_mono hk h T fn.body h1]
      rw [h1] at hr
      obtain ⟨x, e1, S1⟩ := o
      cases x with
      | exit => cases hr
      | panic v => cases hr; rfl
      | normal =>
        simp only [Option.map_eq_some_iff] at hr
        obtain ⟨v, h2, rfl⟩ := hr
        simp only [outExt, resultsA_ext T h2, Option.map_some, crExt]
      | ret =>
        simp only [Option.map_eq_some_iff] at hr
        obtain ⟨v, h2, rfl⟩ := hr
        simp only [outExt, resultsA_ext T h2, Option.map_some, crExt]

theorem callFn_mono {k k' : Nat} {c c' : CallT} (hk : k ≤ k') (h : CallLe c c') (T : Stack) {fn : IFun} {args : List AV} {S : Stack} {r : CR × Stack} (hr : callFn k c fn args S = some r) : callFn k' c' fn args (S ++ T) = some (crExt T r) := by
  unfold callFn at hr ⊢
  split at hr
  · split at hr
    · cases hr
    · simp only [List.cons_append]
      exact runF_mono hk h T hr
  · rename_i args' hargs
    cases h1 : runF k c fn args' ([] :: S) with
    | none => rw [h1] at hr; cases hr
    | some o =>
      have := runF_mono hk h T h1
      simp only [List.cons_append] at this
      rw [this]
      rw [h1] at hr
      obtain ⟨q, S1⟩ := o
      cases S1 with
      | nil => cases q <;> cases hr
      | cons H1 S1 =>
        cases q with
        | ret v =>
          simp only [Option.map_eq_some_iff] at hr
          obtain ⟨v2, h2, rfl⟩ := hr
          simp only [crExt, List.cons_append, h2, Option.map_some]
        | pan v =>
          simp only [Option.map_eq_some_iff] at hr
          obtain ⟨v2, h2, rfl⟩ := hr
          simp only [crExt, List.cons_append, h2, Option.map_some]

theorem endRound_ext {l : Nat} {o : IX × Env × Stack} {r : CR × Stack} (T : Stack) (h : endRound l (some o) = some r) : endRound l (some (outExt T o)) = some (crExt T r) := by
  obtain ⟨x, e, S⟩ := o
  cases S with
  | nil => cases h
  | cons H2 S2 =>
    simp only [outExt, List.cons_append, endRound] at h ⊢
    split at h
    · rename_i L2 hL
      cases x with
      | panic v => cases h
      | normal => cases h; rfl
      | exit id => cases h; rfl
      | ret => cases h; rfl
    · cases h

theorem round_mono {k k' : Nat} {c c' : CallT} (hk : k ≤ k') (h : CallLe c c') (T : Stack) {l : Nat} {args : List AV} {S : Stack} {r : CR × Stack} (hr : round k c l args S = some r) : round k' c' l args (S ++ T) = some (crExt T r) := by
  unfold round at hr ⊢
  split at hr
  · cases hr
  · rename_i H S0
    simp only [List.cons_append]
    split at hr
    · rename_i L hL
      cases hb : (!(Nat.beq args.length L.params.length)) with
      | true => rw [hb] at hr; cases hr
      | false =>
        rw [hb] at hr
        simp only [cond_false] at hr ⊢
        split at hr
        · rename_i e1 H1 S1 h1
          have := evC_mono hk h T _ h1
          simp only [List.cons_append, outExt] at this
          rw [this]
          simp only
          split at hr
          · rename_i L1 hL1
            split at hr
            · rename_i hst
              cases h2 : evC k c L.body e1 (H1.set l (.loop { L1 with state := .busy }) :: S1) with
              | none => rw [h2] at hr; simp [endRound] at hr
              | some o =>
                have := evC_mono hk h T _ h2
                simp only [List.cons_append] at this
                rw [this]
                rw [h2] at hr
                exact endRound_ext T hr
            · cases hr
          · cases hr
        · cases hr
    · cases hr

theorem natV_ext (T : Stack) {nk : NatK} {args : List AV} {S : Stack} {r : CR × Stack} (h : natV nk args S = some r) : natV nk args (S ++ T) = some (crExt T r) := by
  unfold natV at h
  split at h
  · rename_i t el id n H S
    split at h
    · rename_i t' el' bs hid
      rw [Bool.cond_eq_ite] at h
      split at h
      · rename_i hc; cases h; simp only [natV, List.cons_append, hid, Bool.cond_eq_ite, if_pos hc]; rfl
      · cases h
    · cases h
  · rename_i t el id s H S
    split at h
    · rename_i t' el' bs hid
      rw [Bool.cond_eq_ite] at h
      split at h
      · rename_i hc; cases h; simp only [natV, List.cons_append, hid, Bool.cond_eq_ite, if_pos hc]; rfl
      · cases h
    · cases h
  · rename_i t el id H S
    split at h
    · rename_i t' el' bs hid
      rw [Bool.cond_eq_ite] at h
      split at h
      · rename_i hc; cases h; simp only [natV, List.cons_append, hid, Bool.cond_eq_ite, if_pos hc]; rfl
      · cases h
    · cases h
  · rename_i s n S
    rw [Bool.cond_eq_ite] at h
    split at h
    · rename_i hc; cases h; simp only [natV, Bool.cond_eq_ite, if_pos hc]; rfl
    · cases h
  · cases h

theorem callV_mono (funs : Nat → Option IFun) : ∀ {k k' : Nat}, k ≤ k' → CallLe (callV funs k) (callV funs k')
  | 0, _, _ => fun f args S r S' h => by simp [callV] at h
  | k + 1, 0, hk => by omega
  | k + 1, k' + 1, hk => by
    have ih := callV_mono funs (Nat.le_of_succ_le_succ hk)
    intro v args S r S' h T
    unfold callV at h ⊢
    split at h
    · split at h
      · rename_i fn hfn
        cases hn : fn.nat with
        | some nk =>
          rw [hn] at h
          exact natV_ext T h
        | none =>
          rw [hn] at h
          exact callFn_mono (Nat.le_of_succ_le_succ hk) ih T h
      · cases h
    · exact round_mono (Nat.le_of_succ_le_succ hk) ih T h
    · split at h
      · cases h
      · simp only [List.cons_append]
        split at h
        · cases h
        · rename_i args' hargs
          split at h
          · rename_i v S2 h1
            rw [ih _ _ _ _ _ h1 T]
            simp only [Option.map_eq_some_iff, Prod.mk.injEq] at h
            obtain ⟨v2, h2, rfl, rfl⟩ := h
            simp only [h2, Option.map_some, List.cons_append]
          · rename_i v S2 h1
            rw [ih _ _ _ _ _ h1 T]
            simp only [Option.map_eq_some_iff, Prod.mk.injEq] at h
            obtain ⟨v2, h2, rfl, rfl⟩ := h
            simp only [h2, Option.map_some, List.cons_append]
          · cases h
    · cases h
/-- Fewer functions do what all do. -/
theorem callV_sub {funs' funs : Nat → Option IFun} (hs : ∀ g fn, funs' g = some fn → funs g = some fn) : ∀ {k k' : Nat}, k ≤ k' → CallLe (callV funs' k) (callV funs k')
  | 0, _, _ => fun f args S r S' h => by simp [callV] at h
  | k + 1, 0, hk => by omega
  | k + 1, k' + 1, hk => by
    have ih := callV_sub hs (Nat.le_of_succ_le_succ hk)
    intro v args S r S' h T
    unfold callV at h ⊢
    split at h
    · split at h
      · rename_i fn hfn
        rw [hs _ _ hfn]
        cases hn : fn.nat with
        | some nk =>
          rw [hn] at h
          simp only [hn]
          exact natV_ext T h
        | none =>
          rw [hn] at h
          simp only [hn]
          exact callFn_mono (Nat.le_of_succ_le_succ hk) ih T h
      · cases h
    · exact round_mono (Nat.le_of_succ_le_succ hk) ih T h
    · split at h
      · cases h
      · simp only [List.cons_append]
        split at h
        · cases h
        · rename_i args' hargs
          split at h
          · rename_i v S2 h1
            rw [ih _ _ _ _ _ h1 T]
            simp only [Option.map_eq_some_iff, Prod.mk.injEq] at h
            obtain ⟨v2, h2, rfl, rfl⟩ := h
            simp only [h2, Option.map_some, List.cons_append]
          · rename_i v S2 h1
            rw [ih _ _ _ _ _ h1 T]
            simp only [Option.map_eq_some_iff, Prod.mk.injEq] at h
            obtain ⟨v2, h2, rfl, rfl⟩ := h
            simp only [h2, Option.map_some, List.cons_append]
          · cases h
    · cases h
def listF : List (Nat × IFun) → Nat → Option IFun
  | [], _ => none
  | (i, f) :: r, g => bif Nat.beq i g then some f else listF r g
theorem listF_sub {funs : Nat → Option IFun} : ∀ {L : List (Nat × IFun)}, (∀ p ∈ L, funs p.1 = some p.2) → ∀ g fn, listF L g = some fn → funs g = some fn
  | [], _, _, _, h => by cases h
  | (i, f) :: r, hl, g, fn, h => by
    simp only [listF] at h
    cases hb : Nat.beq i g with
    | true =>
      rw [hb] at h
      simp only [cond_true, Option.some.injEq] at h
      have := Nat.eq_of_beq_eq_true hb
      subst this
      subst h
      exact hl (i, f) (by simp)
    | false =>
      rw [hb] at h
      exact listF_sub (fun p hp => hl p (by simp [hp])) g fn h
end Go.AS

/-
  A logic of the evaluator: what code comes to, whatever number of steps it takes. By an AI agent.
-/
namespace Go.AS
open Go

/-- The operations that call or panic. -/
def isApart : IOp → Bool
  | .panic _ | .callp .. | .callf .. | .calls .. | .call .. => true
  | _ => false

section
variable {funs : Nat → Option IFun}

/-- Code c comes to an end that Q takes. -/
def Ev (funs : Nat → Option IFun) (c : IC) (e : Env) (S : Stack) (Q : IX → Env → Stack → Prop) : Prop :=
  ∃ k x e' S', evC k (callV funs k) c e S = some (x, e', S') ∧ Q x e' S'

/-- So do operations. -/
def EvO (funs : Nat → Option IFun) (l : List IOper) (e : Env) (S : Stack) (Q : Env → Stack → Prop) (N : AV → Stack → Prop) : Prop :=
  ∃ k o, evOps (callV funs k) l e S = some o ∧ (match o with | .go e' S' => Q e' S' | .pan v _ S' => N v S')

/-- So does a call. -/
def Ends (funs : Nat → Option IFun) (f : AV) (args : List AV) (S : Stack) (R : CR → Stack → Prop) : Prop :=
  ∃ k r S', callV funs k f args S = some (r, S') ∧ R r S'

/-- A function of the program's that is a function of its arguments. -/
def Gives (funs : Nat → Option IFun) (g : Nat) (args : List AV) (v : AV) : Prop :=
  ∃ k, callV funs k (.func (.func g) [] []) args [] = some (.ret v, [])

theorem Ev.mono {c : IC} {e : Env} {S : Stack} {Q Q' : IX → Env → Stack → Prop} (h : Ev funs c e S Q) (hQ : ∀ x e' S', Q x e' S' → Q' x e' S') : Ev funs c e S Q' :=
  let ⟨k, x, e', S', h1, h2⟩ := h; ⟨k, x, e', S', h1, hQ _ _ _ h2⟩

theorem outExt_nil (r : IX × Env × Stack) : outExt [] r = r := by simp [outExt]
theorem evC_up {k k' : Nat} (hk : k ≤ k') {c : IC} {e : Env} {S : Stack} {r : IX × Env × Stack} (h : evC k (callV funs k) c e S = some r) : evC k' (callV funs k') c e S = some r := by
  have := evC_mono hk (callV_mono funs hk) [] c h
  rwa [List.append_nil, outExt_nil] at this
theorem evOps_up {k k' : Nat} (hk : k ≤ k') {l : List IOper} {e : Env} {S : Stack} {r : OR} (h : evOps (callV funs k) l e S = some r) : evOps (callV funs k') l e S = some r := by
  have := evOps_mono (callV_mono funs hk) [] h
  cases r <;> simpa [OR.ext] using this
theorem callV_up {k k' : Nat} (hk : k ≤ k') {f : AV} {args : List AV} {S S' : Stack} {r : CR} (h : callV funs k f args S = some (r, S')) : callV funs k' f args S = some (r, S') := by
  simpa using callV_mono funs hk _ _ _ _ _ h []
theorem Gives.at {g : Nat} {args : List AV} {v : AV} (h : Gives funs g args v) : ∃ k, ∀ S, callV funs k (.func (.func g) [] []) args S = some (.ret v, S) :=
  let ⟨k, hk⟩ := h; ⟨k, fun S => by simpa using callV_mono funs (Nat.le_refl k) _ _ _ _ _ hk S⟩

theorem Ev.nop {e : Env} {S : Stack} {Q : IX → Env → Stack → Prop} (h : Q .normal e S) : Ev funs .nop e S Q := ⟨0, _, _, _, rfl, h⟩
theorem Ev.exit {id : Nat} {e : Env} {S : Stack} {Q : IX → Env → Stack → Prop} (h : Q (.exit id) e S) : Ev funs (.exit id) e S Q := ⟨0, _, _, _, rfl, h⟩
theorem Ev.ret {e : Env} {S : Stack} {Q : IX → Env → Stack → Prop} (h : Q .ret e S) : Ev funs .ret e S Q := ⟨0, _, _, _, rfl, h⟩

/-- On, where code ends as it ought to. -/
def onward (K : Env → Stack → Prop) (Q : IX → Env → Stack → Prop) : IX → Env → Stack → Prop
  | .normal, e, S => K e S
  | x, e, S => Q x e S

theorem Ev.seq {a b : IC} {e : Env} {S : Stack} {Q : IX → Env → Stack → Prop} (h : Ev funs a e S (onward (fun e S => Ev funs b e S Q) Q)) : Ev funs (.seq a b) e S Q := by
  obtain ⟨k, x, e1, S1, h1, h2⟩ := h
  cases x with
  | normal =>
    obtain ⟨k2, x2, e2, S2, h3, h4⟩ := h2
    refine ⟨max k k2, x2, e2, S2, ?_, h4⟩
    simp only [evC, evC_up (Nat.le_max_left k k2) h1]
    exact evC_up (Nat.le_max_right k k2) h3
  | exit id => exact ⟨k, _, _, _, by simp only [evC, h1], h2⟩
  | ret => exact ⟨k, _, _, _, by simp only [evC, h1], h2⟩
  | panic v => exact ⟨k, _, _, _, by simp only [evC, h1], h2⟩

theorem Ev.cond {c : Opd} {a b : IC} {e : Env} {S : Stack} {Q : IX → Env → Stack → Prop} {t : Bool} (hc : c.ev e = .bool t) (h1 : t = true → Ev funs a e S Q) (h2 : t = false → Ev funs b e S Q) : Ev funs (.cond c a b) e S Q := by
  cases t with
  | true =>
    obtain ⟨k, x, e1, S1, h3, h4⟩ := h1 rfl
    exact ⟨k, x, e1, S1, by simp only [evC, hc, cond_true, h3], h4⟩
  | false =>
    obtain ⟨k, x, e1, S1, h3, h4⟩ := h2 rfl
    exact ⟨k, x, e1, S1, by simp only [evC, hc, cond_false, h3], h4⟩

/-- Out of a block. -/
def outOf (id : Nat) (Q : IX → Env → Stack → Prop) : IX → Env → Stack → Prop
  | .exit j, e, S => bif Nat.beq j id then Q .normal e S else Q (.exit j) e S
  | x, e, S => Q x e S

theorem Ev.block {id : Nat} {b : IC} {e : Env} {S : Stack} {Q : IX → Env → Stack → Prop} (h : Ev funs b e S (outOf id Q)) : Ev funs (.block id b) e S Q := by
  obtain ⟨k, x, e1, S1, h1, h2⟩ := h
  cases x with
  | exit j =>
    simp only [outOf] at h2
    cases hj : Nat.beq j id with
    | true => rw [hj] at h2; exact ⟨k, _, _, _, by simp only [evC, h1, hj, cond_true], h2⟩
    | false => rw [hj] at h2; exact ⟨k, _, _, _, by simp only [evC, h1, hj, cond_false], h2⟩
  | normal => exact ⟨k, _, _, _, by simp only [evC, h1], h2⟩
  | ret => exact ⟨k, _, _, _, by simp only [evC, h1], h2⟩
  | panic v => exact ⟨k, _, _, _, by simp only [evC, h1], h2⟩

theorem iter_up {f f' : Env → Stack → Out} (hf : ∀ e S r, f e S = some r → f' e S = some r) {n n' : Nat} {e : Env} {S : Stack} {r : IX × Env × Stack} (hn : n ≤ n') (h : iter f n e S = some r) : iter f' n' e S = some r := by
  have := iter_mono (f := f) (f' := f') [] (fun e S r hx => by rw [List.append_nil, outExt_nil]; exact hf e S r hx) hn h
  rwa [List.append_nil, outExt_nil] at this

/-- A loop: an invariant that bears a number, which every round lowers. -/
theorem Ev.loop {b : IC} {Q : IX → Env → Stack → Prop} (I : Nat → Env → Stack → Prop) (hround : ∀ n e S, I n e S → Ev funs b e S (onward (fun e S => ∃ m, m < n ∧ I m e S) Q)) (n : Nat) {e : Env} {S : Stack} (h : I n e S) : Ev funs (.loop b) e S Q := by
  have key : ∀ n e S, I n e S → ∃ j k x e' S', iter (evC k (callV funs k) b) j e S = some (x, e', S') ∧ Q x e' S' := by
    intro n
    induction n using Nat.strongRecOn with
    | _ n ih =>
      intro e S hI
      obtain ⟨k, x, e1, S1, h1, h2⟩ := hround n e S hI
      cases x with
      | normal =>
        obtain ⟨m, hm, hI1⟩ := h2
        obtain ⟨j, k2, x2, e2, S2, h3, h4⟩ := ih m hm e1 S1 hI1
        refine ⟨j + 1, max k k2, x2, e2, S2, ?_, h4⟩
        simp only [iter, evC_up (Nat.le_max_left k k2) h1]
        exact iter_up (fun e S r hx => evC_up (Nat.le_max_right k k2) hx) (Nat.le_refl j) h3
      | exit id => exact ⟨1, k, _, _, _, by simp only [iter, h1], h2⟩
      | ret => exact ⟨1, k, _, _, _, by simp only [iter, h1], h2⟩
      | panic v => exact ⟨1, k, _, _, _, by simp only [iter, h1], h2⟩
  obtain ⟨j, k, x, e', S', h1, h2⟩ := key n e S h
  refine ⟨max j k, x, e', S', ?_, h2⟩
  simp only [evC]
  exact iter_up (fun e S r hx => evC_up (Nat.le_max_right j k) hx) (Nat.le_max_left j k) h1

/-- Operations. -/
theorem Ev.ops {d : Bool} {l : List IOper} {dr : List Nat} {e : Env} {S : Stack} {Q : IX → Env → Stack → Prop} (h : EvO funs l e S (fun e' S' => Q .normal (Env.drop e' dr) S') (fun v S' => d = false ∧ ∀ e', Q (.panic v) e' S')) : Ev funs (.ops d l dr) e S Q := by
  obtain ⟨k, o, h1, h2⟩ := h
  cases o with
  | go e1 S1 => exact ⟨k, _, _, _, by simp only [evC, h1], h2⟩
  | pan v e1 S1 =>
    obtain ⟨rfl, h3⟩ := h2
    exact ⟨k, .panic v, e1, S1, by simp only [evC, h1, cond_false], h3 _⟩

theorem EvO.nil {e : Env} {S : Stack} {Q : Env → Stack → Prop} {N : AV → Stack → Prop} (h : Q e S) : EvO funs [] e S Q N := ⟨0, _, rfl, h⟩

/-- An operation that calls nothing. -/
theorem EvO.op {o : IOper} {l : List IOper} {e : Env} {H : Heap} {S : Stack} {Q : Env → Stack → Prop} {N : AV → Stack → Prop} {v : AV} {H' : Heap} (hg : o.guard = none) (ha : isApart o.op = false) (hv : evOp e H o.op = some (v, H')) (h : EvO funs l (putD e o.dst v) (H' :: S) Q N) : EvO funs (o :: l) e (H :: S) Q N := by
  obtain ⟨k, r, h1, h2⟩ := h
  refine ⟨k, r, ?_, h2⟩
  have : evOper (callV funs k) o e (H :: S) = some (.go (putD e o.dst v) (H' :: S)) := by
    unfold evOper
    rw [hg]
    simp only [guardA]
    split
    · rename_i x hx; rw [hx] at ha; cases ha
    · rename_i x y hx; rw [hx] at ha; cases ha
    · rename_i x y hx; rw [hx] at ha; cases ha
    · rename_i x y hx; rw [hx] at ha; cases ha
    · rename_i x y hx; rw [hx] at ha; cases ha
    · simp only [hv]
  simp only [evOps, this, h1]

/-- A guarded one. -/
theorem EvO.opg {o : IOper} {l : List IOper} {e : Env} {H : Heap} {S : Stack} {Q : Env → Stack → Prop} {N : AV → Stack → Prop} {t : Bool} (hg : guardA e o.guard = some t) (ha : t = true → EvO funs ({ o with guard := none } :: l) e (H :: S) Q N) (hb : t = false → EvO funs l (putD e o.dst (.tuple [])) (H :: S) Q N) : EvO funs (o :: l) e (H :: S) Q N := by
  cases t with
  | false =>
    obtain ⟨k, r, h1, h2⟩ := hb rfl
    exact ⟨k, r, by simp only [evOps, evOper, hg, h1], h2⟩
  | true =>
    obtain ⟨k, r, h1, h2⟩ := ha rfl
    refine ⟨k, r, ?_, h2⟩
    rw [← h1]
    simp only [evOps, evOper]
    rw [hg]
    rfl

/-- A call. -/
theorem EvO.call {o : IOper} {f : Opd} {args : List Opd} {l : List IOper} {e : Env} {S : Stack} {Q : Env → Stack → Prop} {N : AV → Stack → Prop} (hg : o.guard = none) (ho : o.op = .call f args)
    (h : Ends funs (f.ev e) (evs e args) S fun r S' => S' ≠ [] ∧ match r with | .ret v => EvO funs l (putD e o.dst v) S' Q N | .pan v => N v S') : EvO funs (o :: l) e S Q N := by
  obtain ⟨k, r, S', h1, hne, h2⟩ := h
  have hS' : ∃ H1 S1, S' = H1 :: S1 := by
    cases S' with
    | nil => exact absurd rfl hne
    | cons H1 S1 => exact ⟨H1, S1, rfl⟩
  obtain ⟨H1, S1, rfl⟩ := hS'
  cases r with
  | ret v =>
    obtain ⟨k2, o2, h3, h4⟩ := h2
    refine ⟨max k k2, o2, ?_, h4⟩
    have h1' := callV_up (Nat.le_max_left k k2) h1
    have : evOper (callV funs (max k k2)) o e S = some (.go (putD e o.dst v) (H1 :: S1)) := by
      simp only [evOper, hg, guardA, ho, h1', afterCall]
    simp only [evOps, this]
    exact evOps_up (Nat.le_max_right k k2) h3
  | pan v =>
    refine ⟨k, .pan v e (H1 :: S1), ?_, h2⟩
    simp only [evOps, evOper, hg, guardA, ho, h1, afterCall]

/-- A call of a function that is a function of its arguments. -/
theorem EvO.gives {o : IOper} {g : Nat} {args : List Opd} {l : List IOper} {e : Env} {H : Heap} {S : Stack} {Q : Env → Stack → Prop} {N : AV → Stack → Prop} {v : AV} (hg : o.guard = none) (ho : o.op = .call (.c (.func (.func g) [] [])) args)
    (hc : Gives funs g (evs e args) v) (h : EvO funs l (putD e o.dst v) (H :: S) Q N) : EvO funs (o :: l) e (H :: S) Q N :=
  EvO.call hg ho (let ⟨k, hk⟩ := hc.at; ⟨k, _, _, hk _, by simp, h⟩)

/-- A function that runs in a memory of its own. -/
theorem Gives.intro {g : Nat} {fn : IFun} {args args' : List AV} {v : AV} (hf : funs g = some fn) (hs : fn.shared = false) (hn : Nat.beq args'.length fn.nargs = true) (hu : mapO upf args = some args')
    (h : Ev funs fn.body (Env.ofArgs 0 args') [[]] fun x e' S' => (x = .normal ∨ x = .ret) ∧ ∃ H' r, S' = [H'] ∧ resultsA e' [H'] fn.results = some r ∧ leave H' r = some v) (hnn : fn.nat = none := by rfl) : Gives funs g args v := by
  obtain ⟨k, x, e', S', h1, h2, H', r, rfl, h3, h4⟩ := h
  refine ⟨k + 1, ?_⟩
  simp only [callV, hf, hnn, List.nil_append, List.append_nil, callFn, hs, cond_false, hu, runF, hn, Bool.not_true, h1]
  rcases h2 with rfl | rfl <;> simp [h3, h4]
end
end Go.AS
