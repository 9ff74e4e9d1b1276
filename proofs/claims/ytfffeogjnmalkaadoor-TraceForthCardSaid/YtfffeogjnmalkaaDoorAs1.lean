import Derived.Wp
import Derived.Test.YtfffeogjnmalkaaDoorAs0
set_option linter.all false
/-
  The short form of the model's code. By an AI agent.
-/
namespace Go.AS
open Go

structure Ann where
  shared : List Nat
  pure : List Nat
  muts : List Nat
  snap : List Nat
  imma : List Nat
  fresh : List (Nat × Nat)
  sl : List (Nat × Nat) := []
  plain : List (Nat × Nat) := []
  bld : Option (Nat × Nat) := none
  nat : List (Nat × NatK) := []
  deriving Inhabited

/-- The type of builders, and of their rows' elements. -/
def bldT : Option (Nat × Nat) → Nat → Option Nat
  | some (a, b), t => bif Nat.beq a t then some b else none
  | none, _ => none

def memN (x : Nat) : List Nat → Bool
  | [] => false
  | y :: r => Nat.beq x y || memN x r

def memP (x y : Nat) : List (Nat × Nat) → Bool
  | [] => false
  | (a, b) :: r => (Nat.beq x a && Nat.beq y b) || memP x y r

def countN (x : Nat) : List Nat → Nat
  | [] => 0
  | y :: r => bif Nat.beq x y then countN x r + 1 else countN x r

def cV : Nat → Value → Option AV
  | 0, _ => none
  | k + 1, v => match v with
    | .bool b => some (.bool b)
    | .int kd n => some (.int kd n)
    | .string s => some (.str s.data.toList)
    | .pointer none => some .nilptr
    | .slice none 0 0 => some (.imm true 0 0 (some 0) [])
    | .map none => some .nilmap
    | .nilFunc => some .nilFunc
    | .nilIface => some .nilIface
    | .agg cs => (mapO (fun c => bif c.oneCell then cV k c else none) cs.toList).map AV.agg
    | .func (.func f) fi ca => match mapO (cV k) fi.toList, mapO (cV k) ca.toList with
      | some fi, some ca => some (.func (.func f) fi ca)
      | _, _ => none
    | _ => none

def cO : Operand → Option Opd
  | .tmp t => some (.t t)
  | .const v => (cV 20 v).map .c
  | .global _ => none
  | .func f => some (.c (.func (.func f) [] []))

def cOo : Option Operand → Option (Option Opd)
  | none => some none
  | some x => (cO x).map some

/-- Is the operand the constant nil? -/
def nilC : Operand → Bool
  | .const .nilIface | .const (.pointer none) | .const (.slice none _ _) | .const (.map none) | .const .nilFunc => true
  | _ => false

section
variable (P : Program)

def sz (t : TypeId) : Option Nat := (P.info? t).map (·.size)
def zeroOf (t : TypeId) : Option AV := ((P.info? t).bind (·.zero)).bind (cV 20)
def zeroCs (t : TypeId) : Option (List AV) := (zeroOf P t).bind cellsOf
def aggN (t : TypeId) : Option (Option Nat) :=
  match P.underlying t with
  | some (.struct _) | some (.array _ _) => (sz P t).map some
  | some _ => some none
  | none => none

def kindOf (t : TypeId) : Option Nat :=
  match P.underlying t with
  | some (.int _) => some 0
  | some .string => some 1
  | some .bool => some 2
  | _ => none

/-- The places of the plain cells of a struct that is compared part by part. -/
def eqOffs (fs : List Field) : Option (List (Nat × Nat)) :=
  mapO (fun f : Field => bif f.name == "_" then none else (kindOf P f.type).map (f.offset, ·)) fs

def cParts (place : Nat → Option (Nat × Nat)) : List (Nat × Operand) → Option (List (Nat × Nat × Opd))
  | [] => some []
  | (i, x) :: r => match place i, cO x, cParts place r with
    | some (off, n), some o, some l => some ((off, n, o) :: l)
    | _, _, _ => none

def cBuiltin (b : Builtin) (ts : List TypeId) (azs : List Operand) : Option IOp :=
  match b, ts, azs with
  | .append, t :: u :: _, [s, x] => match P.underlying t, P.underlying u with
    | some (.slice e), some (.slice _) | some (.slice e), some .string => match P.info? e, zeroCs P e, cO s, cO x with
      | some i, some z, some s, some x => bif Nat.beq z.length i.size then some (.append i.size i.bytes s x) else none
      | _, _, _, _ => none
    | some (.slice e), some (.int _) => match P.info? e, zeroCs P e, cO s, cO x with
      | some i, some z, some s, some x => bif Nat.beq z.length i.size then some (.appz i.size i.bytes z s x) else none
      | _, _, _, _ => none
    | _, _ => none
  | .len, t :: _, [x] => match P.underlying t with
    | some .string => (cO x).map .lens
    | some (.slice _) => (cO x).map .len
    | some (.map _ _) => (cO x).map .lenm
    | some (.array n _) => some (.mv (.c (.int .i64 n)))
    | _ => none
  | .cap, t :: _, [x] => match P.underlying t with
    | some (.slice _) => (cO x).map .cap
    | _ => none
  | .min, _, azs => (mapO cO azs).map (.minmax false)
  | .max, _, azs => (mapO cO azs).map (.minmax true)
  | .copy, t :: _, [d, s] => match P.underlying t with
    | some (.slice e) => match sz P e, cO d, cO s with
      | some n, some d, some s => some (.copy n d s)
      | _, _, _ => none
    | _ => none
  | .clear, t :: _, [x] => match P.underlying t with
    | some (.map _ _) => (cO x).map .clearm
    | some (.slice e) => match P.info? e, zeroCs P e, cO x with
      | some i, some z, some x => bif Nat.beq z.length i.size then some (.clears i.size z x) else none
      | _, _, _ => none
    | _ => none
  | .delete, t :: _, [m, k] => match P.underlying t with
    | some (.map kt _) => match kindOf P kt, cO m, cO k with
      | some kk, some m, some k => some (.del kk m k)
      | _, _, _ => none
    | _ => none
  | _, _, _ => none

def cmpName : String := "internal/bytealg.abigen_runtime_cmpstring"
/-- The library's comparison of two texts, which has no body. -/
def isCmp (g : Nat) : Bool :=
  match P.funcs[g]? with
  | some f => f.name == cmpName && f.origin == "" && f.body.isNone
  | none => false

/-- Appends whose rows nobody writes. -/
def immA : Bool → IOp → IOp
  | true, .append es b s x => .appi es b s x
  | _, op => op

def cEq (t : TypeId) (ng : Bool) (x y : Operand) (a b : Opd) : TypeDesc → Option IOp
  | .bool => some (.eqb ng a b)
  | .struct fs => bif P.eqGuardType P.depth t || P.stoodInHeld t then none else (eqOffs P fs.toList).map (.eqa ng · a b)
  | .pointer e => bif (sz P e).getD 0 == 0 then none else some (.eqn 0 ng a b)
  | .interface _ => bif nilC x || nilC y then some (.eqn 4 ng a b) else none
  | .slice _ => some (.eqn 1 ng a b)
  | .map _ _ => some (.eqn 2 ng a b)
  | .func _ _ _ => some (.eqn 3 ng a b)
  | _ => none

def cBin (op : BinOp) (t : TypeId) (x y : Operand) : Option IOp :=
  match cO x, cO y with
  | some a, some b =>
    match P.underlying t with
    | some (.int _) | some .string => some (.bin op a b)
    | some d => match op with
      | .eql => cEq P t false x y a b d
      | .neq => cEq P t true x y a b d
      | _ => none
    | none => none
  | _, _ => none

def cConv (s d : TypeId) (x : Operand) : Option IOp :=
  match P.underlying s, P.underlying d, cO x with
  | some (.int _), some (.int k), some o => some (.conv k o)
  | some .string, some .string, some o => some (.mvs o)
  | some .string, some (.slice e), some o => match P.underlying e with
    | some (.int .u8) => some (.bytes o)
    | _ => none
  | some (.slice e), some .string, some o => match P.underlying e with
    | some (.int .u8) => some (.text o)
    | _ => none
  | _, _, _ => none

def cOp (an : Ann) (fn : Nat) : Op → Option IOp
  | .move x | .assign x => (cO x).map .mv
  | .pick c a b => match cO c, cO a, cO b with
    | some c, some a, some b => some (.pick c a b)
    | _, _, _ => none
  | .alloc t => match bldT an.bld t, zeroCs P t, sz P t with
    | none, some z, some n => bif Nat.beq z.length n then some (.alloc z) else none
    | some el, some [.nilptr, .imm true _ 0 _ _], some 2 => some (.newb t el)
    | _, _, _ => none
  | .box t x => match sz P t, cO x with
    | some n, some x => some (.box n x)
    | _, _ => none
  | .build t parts => match zeroCs P t, P.underlying t with
    | some z, some (.struct fs) => match mapO (fun f : Field => (sz P f.type).map (f.offset, ·)) fs.toList with
      | some pl => (cParts (pl[·]?) parts.toList).map (.build z)
      | none => none
    | some z, some (.array _ e) => match sz P e with
      | some n => (cParts (fun i => some (i * n, n)) parts.toList).map (.build z)
      | none => none
    | _, _ => none
  | .buildSlice t len parts => match P.underlying t with
    | some (.slice e) => match sz P e, zeroCs P e with
      | some n, some z => bif Nat.ble (len * n) 16777216 && Nat.beq z.length n then (cParts (fun i => some (i * n, n)) parts.toList).map (.bsl (memN fn an.muts) n len z) else none
      | _, _ => none
    | _ => none
  | .load t a => match aggN P t, cO a with
    | some n, some a => some (.load n a)
    | _, _ => none
  | .store t a v => match sz P t, cO a, cO v with
    | some n, some a, some v => some (.store n a v)
    | _, _, _ => none
  | .nilCheck x => (cO x).map .nilck
  | .binOp op t x y _ => cBin P op t x y
  | .unOp op _ x => match op, cO x with
    | .neg, some x => some (.neg x)
    | .xor, some x => some (.inv x)
    | .not, some x => some (.not x)
    | _, _ => none
  | .convert s d x => cConv P s d x
  | .makeInterface t x => match P.underlying t with
    | some (.interface _) | none => none
    | some _ => (cO x).map (.mkif t)
  | .makeFunc f fi ca => match f, mapO cO fi.toList, mapO cO ca.toList with
    | .func f, some fi, some ca => some (.mkfn (.func f) fi ca)
    | _, _, _ => none
  | .makeMap t r => match r with
    | none => some .mkmap
    | some (.const (.int _ _)) => match P.underlying t with
      | some (.map _ _) => some .mkmap
      | _ => none
    | _ => none
  | .makeSlice t l c => match P.underlying t with
    | some (.slice e) => match P.info? e, zeroCs P e, cO l, cO c with
      | some i, some z, some l, some c => bif Nat.beq z.length i.size then some (.mksl i.size i.bytes z l c) else none
      | _, _, _, _ => none
    | _ => none
  | .slice t x lo hi mx => match P.underlying t, cO x, cOo lo, cOo hi, cOo mx with
    | some .string, some x, some lo, some hi, some none => some (.subs x lo hi)
    | some (.slice e), some x, some lo, some hi, some mx => (sz P e).map (.sub · x lo hi mx)
    | some (.array n e), some x, some lo, some hi, some mx => (sz P e).map (.suba n · x lo hi mx)
    | _, _, _, _, _ => none
  | .fieldAddr t x f => match P.underlying t, cO x with
    | some (.struct fs), some x => match fs[f]? with
      | some fd => match sz P fd.type with
        | some (_ + 1) => some (.faddr fd.offset x)
        | _ => none
      | none => none
    | _, _ => none
  | .field t x f => match P.underlying t, cO x with
    | some (.struct fs), some x => match fs[f]? with
      | some fd => (aggN P fd.type).map (.fld fd.offset · x)
      | none => none
    | _, _ => none
  | .indexAddr t x i => match P.underlying t, cO x, cO i with
    | some (.slice e), some x, some i => match sz P e with
      | some (m + 1) => some (.ixa (m + 1) x i)
      | _ => none
    | some (.array n e), some x, some i => (sz P e).map (.ixaa n · x i)
    | _, _, _ => none
  | .index t x i => match P.underlying t, cO x, cO i with
    | some .string, some x, some i => some (.ixs x i)
    | some (.array n e), some x, some i => match aggN P e, sz P e with
      | some a, some s => some (.ixv n s a.isSome x i)
      | _, _ => none
    | _, _, _ => none
  | .lookup t m k ok => match P.underlying t with
    | some (.map kt e) => match kindOf P kt, zeroOf P e, cO m, cO k with
      | some kk, some z, some m, some k => some (.look kk z ok m k)
      | _, _, _, _ => none
    | _ => none
  | .mapUpdate t m k v => match P.underlying t with
    | some (.map kt _) => match kindOf P kt, cO m, cO k, cO v with
      | some kk, some m, some k, some v => some (.mapup kk m k v)
      | _, _, _, _ => none
    | _ => none
  | .range t m => match P.underlying t with
    | some (.map _ _) => (cO m).map .rng
    | _ => none
  | .next x str => bif str then none else (cO x).map .nxt
  | .panic x => (cO x).map .panic
  | .extract x i => (cO x).map (.extr · i)
  | .call c => match c.callee with
    | .builtin b => (cBuiltin P b c.argTypes.toList c.args.toList).map (immA (memN fn an.imma))
    | .value f => match cO f, mapO cO c.args.toList with
      | some (.c (.func (.func g) [] [])), some azs => bif isCmp P g then (match azs with | [x, y] => some (.cmps x y) | _ => none) else some (bif memP fn g an.plain then .call (.c (.func (.func g) [] [])) azs else bif memP fn g an.fresh then (bif memN g an.snap then .calls g azs else .callf g azs) else bif memN g an.pure then .callp g azs else bif memN g an.snap then .calls g azs else .call (.c (.func (.func g) [] [])) azs)
      | some f, some azs => some (.call f azs)
      | _, _ => none
    | .invoke _ _ => none
  | _ => none

/-! ### Orders -/
def binding (e : Edge) : Bool :=
  match e.ground with
  | .textOnly _ | .gcOnly _ => false
  | _ => true

/-- For each operation, those that come ahead of it. -/
def maskOf (acc : List Nat) : List Edge → Nat
  | [] => 0
  | e :: r => bif binding e then Nat.lor (Nat.lor (Nat.shiftLeft 1 e.on) (acc.getD e.on 0)) (maskOf acc r) else maskOf acc r
def aheadM (acc : List Nat) : List Oper → List Nat
  | [] => acc
  | o :: r => aheadM (acc ++ [maskOf acc o.after.toList]) r
def bitsTo (m : Nat) : Nat → List Nat
  | 0 => []
  | k + 1 => bif Nat.testBit m k then k :: bitsTo m k else bitsTo m k
def bitsOf (m : Nat) : List Nat := bitsTo m (Nat.log2 m + 1)
def aheadOf (_ : List (List Nat)) (ops : List Oper) : List (List Nat) := (aheadM [] ops).map bitsOf

def tmpsOf : List Operand → List Nat
  | [] => []
  | .tmp t :: r => t :: tmpsOf r
  | _ :: r => tmpsOf r

def optO : Option Opd → List Opd
  | none => []
  | some x => [x]

/-- What an operation looks at. -/
def opds : IOp → List Opd
  | .mv x | .box _ x | .load _ x | .nilck x | .neg x | .inv x | .not x | .conv _ x | .bytes x | .text x | .mvs x | .mkif _ x
  | .faddr _ x | .fld _ _ x | .extr x _ | .len x | .lens x | .lenm x | .cap x | .clearm x | .clears _ _ x | .panic x | .rng x | .nxt x => [x]
  | .pick a b c | .mapup _ a b c | .mentst a b c => [a, b, c]
  | .alloc _ | .slots _ | .allocA _ _ | .mapA _ | .allocAt _ _ | .mapAt _ | .mkmap | .newb _ _ => []
  | .build _ ps | .bsl _ _ _ _ ps => ps.map (·.2.2)
  | .store _ a b | .bin _ a b | .eqb _ a b | .eqn _ _ a b | .eqa _ _ a b | .mksl _ _ _ a b | .ixa _ a b | .ixaa _ _ a b | .ixs a b | .ixv _ _ _ a b
  | .look _ _ _ a b | .ment _ _ a b | .append _ _ a b | .appi _ _ a b | .appz _ _ _ a b | .diff a b | .cmps a b | .copy _ a b | .del _ a b => [a, b]
  | .mkfn _ xs ys => xs ++ ys
  | .sub _ x a b c | .suba _ _ x a b c => x :: (optO a ++ optO b ++ optO c)
  | .subs x a b => x :: (optO a ++ optO b)
  | .minmax _ xs | .callp _ xs | .callf _ xs | .calls _ xs => xs
  | .call f xs => f :: xs

def opdTs : List Opd → List Nat
  | [] => []
  | .t i :: r => i :: opdTs r
  | .c _ :: r => opdTs r

def optD : Option Nat → List Nat
  | none => []
  | some d => [d]

def looks (o : IOper) : List Nat := opdTs (opds o.op) ++ optD (o.guard.map (·.1))

/-- 0: no memory; 1: reads; 2: writes, or makes something. -/
def classOf : IOp → Nat
  | .box .. | .alloc .. | .allocA .. | .mapA _ | .allocAt .. | .mapAt _ | .rng _ | .nxt _ | .slots _ | .store .. | .mkmap | .newb .. | .mksl .. | .mapup .. | .ment .. | .mentst .. | .append .. | .appz .. | .copy .. | .clearm .. | .clears .. | .del .. | .call .. | .callf .. => 2
  | .bsl mt .. => bif mt then 2 else 0
  | .calls .. | .load .. | .look .. | .lenm .. | .text .. | .eqn .. | .suba .. | .appi .. => 1
  | _ => 0

def memNs (xs ys : List Nat) : Bool := xs.any (memN · ys)

def pairOk (x y : IOper) : Bool :=
  !(memNs (optD x.dst) (looks y)) && !(memNs (optD x.dst) (optD y.dst)) && !(memNs (optD y.dst) (looks x)) &&
  (Nat.beq (classOf x.op) 0 || Nat.beq (classOf y.op) 0 || (Nat.ble (classOf x.op) 1 && Nat.ble (classOf y.op) 1))

/-- Where each temporary is made: ahead of the place a, or by one of 'ps'. -/
def madeOk (t a : Nat) (ps : List Nat) : Nat → List IOper → Bool
  | _, [] => true
  | c, o :: r => ((match o.dst with | some d => !(Nat.beq d t) | none => true) || Nat.blt c a || memN c ps) && madeOk t a ps (c + 1) r

/-- What touches no object but the one that it gives back. -/
def isW : IOp → Bool
  | .append .. | .appz .. | .callf .. | .box .. | .alloc .. | .allocA .. | .mkmap | .mksl .. => true
  | .bsl mt .. => mt
  | _ => false
def isD (d : Nat) (o : IOper) : Bool :=
  match o.dst with
  | some j => Nat.beq j d
  | none => false
def cntD (d : Nat) : List IOper → Nat
  | [] => 0
  | o :: r => bif isD d o then cntD d r + 1 else cntD d r

/-- A load, and behind it in the text a store to another object, or a new object: may they change places? ios: all. a: the load's place, ps: what comes ahead of the other. -/
def dynOk (ios : List IOper) (a : Nat) (ps : List Nat) (x y : IOper) : Bool :=
  !(memNs (optD x.dst) (looks y)) && !(memNs (optD x.dst) (optD y.dst)) && !(memNs (optD y.dst) (looks x)) &&
  match x.op, y.op, y.guard with
  | .load _ (.t tx), .store _ (.t tj) _, none => madeOk tx a [] 0 ios && madeOk tj a ps 0 ios && (match x.guard with | none => true | some (j, _) => madeOk j a [] 0 ios)
  | .load _ _, .alloc _, none => true
  | .allocA d1 _, .allocA d2 _, none => !(Nat.beq d1 d2) && (match x.guard with | none => true | some _ => false)
  | .load _ (.t tx), op, none => (match y.dst with | some d => isW op && Nat.beq (cntD d ios) 1 && madeOk tx a [] 0 ios && (match x.guard with | none => true | some (j, _) => madeOk j a [] 0 ios) | none => false)
  | op, .load _ (.t tx), _ => (match x.dst, x.guard with | some d, none => isW op && Nat.beq (cntD d ios) 1 && madeOk tx a ps 0 ios && (match y.guard with | none => true | some (j, _) => madeOk j a ps 0 ios) | _, _ => false)
  | _, _, _ => false
/-- What is to be asked then. -/
def dynAsk (x y : IOper) : List IOper :=
  match x.op, y.op with
  | .load _ (.t tx), .store _ (.t tj) _ => [⟨none, .diff (.t tx) (.t tj), x.guard⟩]
  | .load _ _, .alloc _ => []
  | .load _ (.t tx), _ => (match y.dst with | some d => [⟨none, .diff (.t tx) (.t d), x.guard⟩] | none => [])
  | _, .load _ (.t tx) => (match x.dst with | some d => [⟨none, .diff (.t tx) (.t d), y.guard⟩] | none => [])
  | _, _ => []

def drawOkFrom (ios : List IOper) (x : IOper) (i : Nat) : List (IOper × List Nat) → Bool
  | [] => true
  | (y, ps) :: r => (memN i ps || pairOk x y || dynOk ios i ps x y) && drawOkFrom ios x i r

def drawOkAll (ios : List IOper) (i : Nat) : List (IOper × List Nat) → Bool
  | [] => true
  | (x, ps) :: r => ps.all (Nat.blt · i) && drawOkFrom ios x i r && drawOkAll ios (i + 1) r

def drawOk (ops : List Oper) (l : List IOper) : Bool := drawOkAll l 0 (l.zip (aheadOf [] ops))

def asksFrom (x : IOper) (i : Nat) : List (IOper × List Nat) → List IOper
  | [] => []
  | (y, ps) :: r => (bif memN i ps || pairOk x y then [] else dynAsk x y) ++ asksFrom x i r
def asksAll (i : Nat) : List (IOper × List Nat) → List IOper
  | [] => []
  | (x, ps) :: r => asksFrom x i r ++ asksAll (i + 1) r
def asks (ops : List Oper) (l : List IOper) : List IOper := asksAll 0 (l.zip (aheadOf [] ops))

/-! ### Uses -/
def usesOps : List Oper → List Nat
  | [] => []
  | o :: r => tmpsOf o.op.operands.toList ++ usesOps r

def usesC : Code → List Nat
  | .region _ ops _ => usesOps ops.toList
  | .seq a b => usesC a ++ usesC b
  | .cond c a b => tmpsOf [c] ++ usesC a ++ usesC b
  | .block _ b | .loop b | .scope b => usesC b
  | .rangeFunc g _ a b => tmpsOf [g] ++ usesC a ++ usesC b
  | _ => []

def defsOps : List Oper → List Nat
  | [] => []
  | o :: r => optD o.dst ++ defsOps r
def defsC : Code → List Nat
  | .region _ ops _ => defsOps ops.toList
  | .seq a b | .cond _ a b => defsC a ++ defsC b
  | .block _ b | .loop b | .scope b => defsC b
  | .rangeFunc _ ps a b => ps.toList ++ defsC a ++ defsC b
  | _ => []
def onceN : List Nat → List Nat
  | [] => []
  | x :: r => bif memN x r then onceN r else x :: onceN r
/-- Definitions, in the list of all uses. -/
def defMark : Nat := 1000000
/-- What is made and used within c alone. -/
def deadOf (all : List Nat) (c : Code) : List Nat :=
  let us := usesC c
  let ds := defsC c
  (onceN ds).filter fun d => Nat.beq (countN d all) (countN d us) && Nat.beq (countN (d + defMark) all) (countN d ds)
/-- Code, behind which something is forgotten. -/
def wd : List Nat → IC → IC
  | [], i => i
  | dr, i => .seq i (.ops false [] dr)

def dropsOf (all own : List Nat) : List Oper → List Nat
  | [] => []
  | o :: r => match o.dst with
    | some d => bif Nat.beq (countN d all) (countN d own) then d :: dropsOf all own r else dropsOf all own r
    | none => dropsOf all own r

def dstOk (d : Option Nat) (n : Nat) : Bool :=
  match d with
  | some d => Nat.blt d n
  | none => true

def guardOf (ops : List Oper) : Option (Nat × Bool) → Option (Option (Nat × Bool))
  | none => some none
  | some (g, want) => match ops[g]? with
    | some q => match q.dst with
      | some d => some (some (d, want))
      | none => none
    | none => none

/-- New objects whose places are kept. -/
def lookN (t : Nat) : List (Nat × Nat) → Option Nat
  | [] => none
  | (a, b) :: r => bif Nat.beq t a then some b else lookN t r
def slotOp (sl : List (Nat × Nat)) (dst : Option Nat) (op : IOp) : IOp :=
  match op, dst with
  | .alloc z, some t => match lookN t sl with
    | some d => .allocA d z
    | none => .alloc z
  | .mkmap, some t => match lookN t sl with
    | some d => .mapA d
    | none => .mkmap
  | op, _ => op

def cOper (an : Ann) (fn n : Nat) (ops : List Oper) (o : Oper) : Option IOper :=
  match cOp P an fn o.op, guardOf ops o.guard with
  | some op, some gd => bif dstOk o.dst n then some ⟨o.dst, slotOp an.sl o.dst op, gd⟩ else none
  | _, _ => none

/-- What a region makes new. -/
def allocsOf : List Oper → List Nat
  | [] => []
  | o :: r => match o.op, o.dst with
    | .alloc _, some t | .makeMap .., some t => t :: allocsOf r
    | _, _ => allocsOf r
def places : List Nat → List (Nat × Nat)
  | [] => []
  | t :: r => (t, r.length + 1) :: places r

/-- Where the order leaves it, the callees named are called in the caller's memory. -/
def Ann.calm (an : Ann) (fn : Nat) : Ann := { an with pure := an.pure.filter fun g => !(memP fn g an.fresh), fresh := [] }

def cR (an : Ann) (fn n : Nat) (all : List Nat) (ops : Array Oper) (draw : Bool) : Option IC :=
  match mapO (cOper P an fn n ops.toList) ops.toList with
  | some l => bif draw && !(drawOk ops.toList l) then none else some (.ops draw (bif draw then l ++ asks ops.toList l else l) (dropsOf all (usesOps ops.toList) ops.toList))
  | none => none
def slotAnn (an : Ann) (ops : Array Oper) : Ann := { an with sl := places (allocsOf ops.toList) }

/-! ### Operations in all orders that tell -/
def pairAt (ios : List IOper) (i k : Nat) : Bool :=
  match ios[i]?, ios[k]? with
  | some x, some y => pairOk x y
  | _, _ => false
def readyR (azs : List (List Nat)) (rest : List Nat) (i : Nat) : Bool := (azs.getD i []).all fun p => !(memN p rest)
/-- May it be the next one, whatever else is ready? -/
def ampleR (ios : List IOper) (azs : List (List Nat)) (rest : List Nat) (i : Nat) : Bool :=
  readyR azs rest i && rest.all fun k => Nat.beq k i || memN i (azs.getD k []) || pairAt ios i k
def delN (i : Nat) (rest : List Nat) : List Nat := rest.filter fun k => !(Nat.beq k i)
def reps (ios : List IOper) (azs : List (List Nat)) : Nat → List Nat → List (List Nat)
  | 0, _ => [[]]
  | _ + 1, [] => [[]]
  | f + 1, rest => match rest.find? (ampleR ios azs rest) with
    | some i => (reps ios azs f (delN i rest)).map (i :: ·)
    | none => rest.flatMap fun i => bif readyR azs rest i then (reps ios azs f (delN i rest)).map (i :: ·) else []
def badFrom (ios : List IOper) (azs : List (List Nat)) (i : Nat) : List Nat → Nat
  | [] => 0
  | k :: r => bif memN i (azs.getD k []) || pairAt ios i k then badFrom ios azs i r else badFrom ios azs i r + 1
def badAll (ios : List IOper) (azs : List (List Nat)) : List Nat → Nat
  | [] => 0
  | i :: r => badFrom ios azs i r + badAll ios azs r
def aheadIn : Nat → List (List Nat) → Bool
  | _, [] => true
  | i, ps :: r => ps.all (Nat.blt · i) && aheadIn (i + 1) r
def cM (an : Ann) (fn n : Nat) (all : List Nat) (ops : Array Oper) : Option IC :=
  match mapO (cOper P an fn n ops.toList) ops.toList with
  | some l => bif aheadIn 0 (aheadOf [] ops.toList) && Nat.ble (badAll l (aheadOf [] ops.toList) (List.range l.length)) 6
    then some (.multi ((reps l (aheadOf [] ops.toList) l.length (List.range l.length)).map fun L => L.filterMap (l[·]?)) (dropsOf all (usesOps ops.toList) ops.toList)) else none
  | none => none

def orBad : Option IC → Option IC
  | some i => some i
  | none => some .bad

/-- 'nest': within a round of a range over a function. -/
def cC (an : Ann) (fn n : Nat) (all : List Nat) (nest : Bool) : Code → Option IC
  | .skip | .label _ => some .nop
  | .region _ ops draw => orBad (match cR P (an.calm fn) fn n all ops draw with
    | some i => some i
    | none => match cR P an fn n all ops draw with
    | some i => some i
    | none => match cR P (slotAnn an ops) fn n all ops draw with
    | some i => some (.seq (.ops false [⟨none, .slots (allocsOf ops.toList).length, none⟩] []) i)
    | none => bif draw then (cM P (slotAnn (an.calm fn) ops) fn n all ops).map fun i => .seq (.ops false [⟨none, .slots (allocsOf ops.toList).length, none⟩] []) i else none)
  | .seq a b => match cC an fn n all nest a, cC an fn n all nest b with
    | some a, some b => some (.seq a b)
    | _, _ => none
  | .cond c a b => orBad (match cO c, cC an fn n all nest a, cC an fn n all nest b with
    | some c, some a, some b => some (.cond c a b)
    | _, _, _ => none)
  | .block id b => (cC an fn n all nest b).map fun i => wd (deadOf all b) (.block id i)
  | .loop b => (cC an fn n all nest b).map fun i => .loop (wd (deadOf all b) i)
  | .scope b => cC an fn n all nest b
  | .rangeFunc g ps a b => orBad (bif nest then none else match cO g, cC an fn n all true a, cC an fn n all true b with
    | some g, some a, some b => bif ps.toList.all (Nat.blt · n) then some (.rangeF g ps.toList a b) else none
    | _, _, _ => none)
  | .exit id => some (.exit id)
  | .ret => some .ret
  | _ => some .bad

def cRes (n : Nat) : ResultVar → Option IRes
  | .tmp t => bif Nat.blt t n then some (.tmp t) else none
  | .cell a t => (aggN P t).map (.cell a ·)

def usesR : List ResultVar → List Nat
  | [] => []
  | .tmp t :: r => t :: usesR r
  | .cell a _ :: r => a :: usesR r

def special (f : Func) : Bool := f.name == "runtime.NumGoroutine"
/-- Parameters are made where the function begins. -/
def parM : Nat → List Nat
  | 0 => []
  | n + 1 => (n + defMark) :: parM n

def cF (an : Ann) (i : Nat) (f : Func) : Option IFun :=
  match f.body with
  | none => none
  | some c => bif special f || Nat.blt f.ntmps (f.params.size + f.nfree) then none else
    match cC P an i f.ntmps (usesR f.results.toList ++ usesC c ++ (defsC c).map (· + defMark) ++ parM (f.params.size + f.nfree)) false c, mapO (cRes P f.ntmps) f.results.toList with
    | some b, some rs => some ⟨memN i an.shared, f.params.size + f.nfree, rs, b, none⟩
    | _, _ => none

/-- A function that is told. -/
def natOf (i : Nat) : List (Nat × NatK) → Option NatK
  | [] => none
  | (j, k) :: r => bif Nat.beq j i then some k else natOf i r

def cN (i : Nat) (f : Func) (an : Ann) : Option IFun :=
  match natOf i an.nat with
  | some nk => match f.body with
    | none => none
    | some _ => bif special f then none else some { shared := true, nargs := 0, results := [], body := .nop, nat := some nk }
  | none => cF P an i f

def funsOf (an : Ann) (i : Nat) : Option IFun := (P.funcs[i]?).bind fun f => cN P i f an
end

end Go.AS
