/-
  The reading of a program's code in N: by a function of the program.
-/
import Derived.Test.YtobpahgkkpmpfaaGreatNlA
namespace Go.NL

def oO : Operand → Option Opd
  | .tmp t => some (.t t)
  | .const v => match ofC v with
    | some x => some (.c x)
    | none => none
  | .func f => some (.c (.fn f [] []))
  | .global _ => none

def oOs : List Operand → Option (List Opd)
  | [] => some []
  | x :: l => match oO x, oOs l with
    | some y, some ys => some (y :: ys)
    | _, _ => none

def oOo : Option Operand → Option (Option Opd)
  | none => some none
  | some x => match oO x with
    | some y => some (some y)
    | none => none

def isAggT (P : Program) (t : TypeId) : Option Bool :=
  match P.underlying t with
  | some (.struct _) | some (.array _ _) => some true
  | some _ => some false
  | none => none

/-- The zero value's cells. -/
def zeroT (P : Program) (t : TypeId) : Option (List NV) :=
  match P.info? t with
  | some i => match i.zero with
    | some v => ofZ v
    | none => none
  | none => none

mutual
def flatK (P : Program) : Nat → TypeId → Option (List CK)
  | 0, _ => none
  | d + 1, t => match P.underlying t with
    | some (.int k) => some [.int k]
    | some .bool => some [.bool]
    | some .string => some [.str]
    | some (.struct fs) => if P.stoodInHeld t then none else flatF P d 0 fs.toList
    | some (.array n e) => match P.info? e, flatK P d e with
      | some i, some ks => if i.size = ks.length then some ((List.replicate n ks).flatten) else none
      | _, _ => none
    | _ => none
def flatF (P : Program) : Nat → Nat → List Field → Option (List CK)
  | _, _, [] => some []
  | 0, _, _ :: _ => none
  | d + 1, off, f :: fs => if f.name = "_" ∨ f.offset ≠ off then none else
    match P.info? f.type, flatK P d f.type, flatF P d (off + (match P.info? f.type with | some i => i.size | none => 0)) fs with
    | some i, some ks, some rest => if i.size = ks.length then some (ks ++ rest) else none
    | _, _, _ => none
end

/-- Is it compared as numbers, or texts, are? -/
def EqS.ofArith : EqS → Bool
  | .one (.int _) | .one .str => true
  | _ => false

/-- Is it a key's? -/
def EqS.key : EqS → Bool
  | .one _ | .flat _ => true
  | _ => false

def eqShape (P : Program) (t : TypeId) : Option EqS :=
  match P.underlying t with
  | some (.int k) => some (.one (.int k))
  | some .bool => some (.one .bool)
  | some .string => some (.one .str)
  | some (.pointer _) => some .nilp
  | some (.slice _) => some .nils
  | some (.map _ _) => some .nilm
  | some (.func _ _ _) => some .nilf
  | some (.struct _) | some (.array _ _) => if P.eqGuardType P.depth t then none else match flatK P 40 t with
    | some ks => some (.flat ks)
    | none => none
  | _ => none

/-- A field's place: its offset, the size of its type, whether that has parts. -/
def fieldT (P : Program) (s : TypeId) (k : Nat) : Option (Nat × Nat × Bool) :=
  match P.underlying s with
  | some (.struct fs) => match fs[k]? with
    | some f => match P.info? f.type, isAggT P f.type with
      | some i, some a => some (f.offset, i.size, a)
      | _, _ => none
    | none => none
  | _ => none

def partsT (place : Nat → Option (Nat × Nat)) : List (Nat × Operand) → Option (List (Nat × Nat × Opd))
  | [] => some []
  | (k, x) :: l => match place k, oO x, partsT place l with
    | some (o, s), some y, some r => some ((o, s, y) :: r)
    | _, _, _ => none

def partsS : List (Nat × Operand) → Option (List (Nat × Opd))
  | [] => some []
  | (k, x) :: l => match oO x, partsS l with
    | some y, some r => some ((k, y) :: r)
    | _, _ => none

/-- A slice's element: the zero's cells, their number, the bytes. -/
def elemT (P : Program) (e : TypeId) : Option (List NV × Nat × Nat) :=
  match P.info? e with
  | some i => match i.zero with
    | some v => match ofZ v with
      | some z => if z.length = i.size then some (z, i.size, i.bytes) else none
      | none => none
    | none => none
  | none => none

def prepCall (P : Program) (c : Call) : Option NOp :=
  match c.callee with
  | .builtin .len => match c.args.toList, c.argTypes[0]? with
    | [x], some t => match P.underlying t, oO x with
      | some .string, some y => some (.len 0 y)
      | some (.slice _), some y => some (.len 1 y)
      | some (.map _ _), some y => some (.len 2 y)
      | _, _ => none
    | _, _ => none
  | .builtin .append => match c.args.toList, c.argTypes.toList with
    | [x, y], [t, u] => match P.underlying t, P.underlying u, oO x, oO y with
      | some (.slice e), some (.slice _), some x, some y | some (.slice e), some .string, some x, some y => match elemT P e with
        | some (z, sz, bytes) => if bytes ≤ 256 ∧ z.all NV.plain then some (.app z sz bytes x y) else none
        | none => none
      | _, _, _, _ => none
    | _, _ => none
  | .builtin .clear => match c.args.toList, c.argTypes[0]? with
    | [x], some t => match P.underlying t, oO x with
      | some (.slice e), some y => match elemT P e with
        | some (z, sz, _) => some (.clr z sz y)
        | none => none
      | _, _ => none
    | _, _ => none
  | .builtin .min => match oOs c.args.toList with
    | some xs => some (.mm false xs)
    | none => none
  | .builtin .max => match oOs c.args.toList with
    | some xs => some (.mm true xs)
    | none => none
  | .value f => match oO f, oOs c.args.toList with
    | some f, some xs => some (.call f xs)
    | _, _ => none
  | _ => none

/-- A field's place. -/
def placeT (P : Program) (fs : Array Field) (k : Nat) : Option (Nat × Nat) :=
  match fs[k]? with
  | some f => match P.info? f.type with
    | some i => some (f.offset, i.size)
    | none => none
  | none => none

def prepOp (P : Program) : Op → Option NOp
  | .move x | .assign x => (oO x).map .mov
  | .pick c a b => match oO c, oO a, oO b with
    | some c, some a, some b => some (.pick c a b)
    | _, _, _ => none
  | .alloc e => match zeroT P e with
    | some z => if z.all NV.plain then some (.alloc z) else none
    | none => none
  | .box _ x => (oO x).map .box
  | .build t ps => match P.underlying t, zeroT P t with
    | some (.struct fs), some z => match partsT (placeT P fs) ps.toList with
      | some r => if fs.toList.all (fun f => (P.info? f.type).isSome) then some (.build z r) else none
      | none => none
    | some (.array _ e), some z => match P.info? e with
      | some i => match partsT (fun k => some (k * i.size, i.size)) ps.toList with
        | some r => some (.build z r)
        | none => none
      | none => none
    | _, _ => none
  | .buildSlice t len ps => match P.underlying t with
    | some (.slice e) => match elemT P e, partsS ps.toList with
      | some (z, sz, _), some r => if len * sz ≤ 2 ^ 24 then some (.bslice z sz len r) else none
      | _, _ => none
    | _ => none
  | .load t a => match isAggT P t, P.info? t, oO a with
    | some g, some i, some a => if g = true ∨ i.size = 1 then some (.load g i.size a) else none
    | _, _, _ => none
  | .store t a x => match P.info? t, oO a, oO x with
    | some i, some a, some x => some (.store i.size a x)
    | _, _, _ => none
  | .nilCheck x => (oO x).map .nilck
  | .binOp op t x y _ => match oO x, oO y with
    | some x, some y => match op with
      | .eql | .neq => match P.underlying t with
        | some (.int _) | some .string => some (.arith op x y)
        | _ => match eqShape P t with
          | some sh => if sh.ofArith then none else some (.eq (op == .neq) sh x y)
          | none => none
      | _ => some (.arith op x y)
    | _, _ => none
  | .unOp op _ x => (oO x).map (.un op)
  | .convert s d x => match P.underlying s, P.underlying d, oO x with
    | some (.int _), some (.int k), some x => some (.conv k x)
    | _, _, _ => none
  | .makeFunc (.func f) first cap => match oOs first.toList, oOs cap.toList with
    | some a, some b => some (.mkfn f a b)
    | _, _ => none
  | .makeMap _ none => some .mkmap
  | .makeSlice t l c => match P.underlying t, oO l, oO c with
    | some (.slice e), some l, some c => match elemT P e with
      | some (z, sz, bytes) => if z.all NV.plain then some (.mksl z sz bytes l c) else none
      | none => none
    | _, _, _ => none
  | .slice t x lo hi mx => match P.underlying t, oO x, oOo lo, oOo hi, oOo mx with
    | some .string, some x, some lo, some hi, some none => some (.slS x lo hi)
    | some (.slice e), some x, some lo, some hi, some mx => match P.info? e with
      | some i => if mx.isSome && hi.isNone then none else some (.slL i.size x lo hi mx)
      | none => none
    | _, _, _, _, _ => none
  | .fieldAddr s x k => match fieldT P s k, oO x with
    | some (off, sz, _), some x => if sz = 0 then none else some (.faddr off x)
    | _, _ => none
  | .field s x k => match fieldT P s k, oO x with
    | some (off, sz, g), some x => if g = true ∨ sz = 1 then some (.fld g off sz x) else none
    | _, _ => none
  | .indexAddr t x k => match P.underlying t, oO x, oO k with
    | some (.slice e), some x, some k => match P.info? e with
      | some i => some (.iaddr i.size x k)
      | none => none
    | some (.array n e), some x, some k => match P.info? e with
      | some i => some (.iaddrA n i.size x k)
      | none => none
    | _, _, _ => none
  | .index t x k => match P.underlying t, oO x, oO k with
    | some .string, some x, some k => some (.idxS x k)
    | some (.array n e), some x, some k => match isAggT P e, P.info? e with
      | some g, some i => if g = true ∨ i.size = 1 then some (.idxA g n i.size x k) else none
      | _, _ => none
    | _, _, _ => none
  | .lookup t x k ok => match P.underlying t, oO x, oO k with
    | some (.map kt et), some x, some k => match eqShape P kt, P.info? et with
      | some sh, some i => match i.zero with
        | some v => match ofC v with
          | some z => some (.look sh z ok x k)
          | none => none
        | none => none
      | _, _ => none
    | _, _, _ => none
  | .mapUpdate t m k v | .insert t m k v => match P.underlying t, oO m, oO k, oO v with
    | some (.map kt _), some m, some k, some v => match eqShape P kt with
      | some sh => if sh.key then some (.mapup sh m k v) else none
      | none => none
    | _, _, _, _ => none
  | .mapEntry t m k => match P.underlying t, oO m, oO k with
    | some (.map kt et), some m, some k => match eqShape P kt, P.info? et with
      | some sh, some i => match i.zero with
        | some v => match ofC v with
          | some z => if sh.key then some (.ment sh z m k) else none
          | none => none
        | none => none
      | _, _ => none
    | _, _, _ => none
  | .entryStore _ m s v => match oO m, oO s, oO v with
    | some m, some s, some v => some (.esto m s v)
    | _, _, _ => none
  | .extract x k => (oO x).map (.extr · k)
  | .call c => prepCall P c
  | _ => none

def prepOper (P : Program) (ops : Array Oper) (o : Oper) : Option NOper :=
  match prepOp P o.op with
  | none => none
  | some op => match o.guard with
    | none => some ⟨o.dst, op, none⟩
    | some (j, want) => match ops[j]? with
      | some oj => match oj.dst with
        | some d => some ⟨o.dst, op, some (d, want)⟩
        | none => none
      | none => none

def prepOps (P : Program) (ops : Array Oper) : List Oper → Option (List NOper)
  | [] => some []
  | o :: l => match prepOper P ops o, prepOps P ops l with
    | some x, some xs => some (x :: xs)
    | _, _ => none

def NOp.eff : NOp → Bool
  | .store .. | .mapup .. | .ment .. | .esto .. | .clr ..  | .app .. | .call .. => true
  | _ => false

def effAt (nops : List NOper) (i : Nat) : Bool :=
  match nops[i]? with
  | some o => o.op.eff
  | none => false

/-- May it be taken first? -/
def freeN (ops : Array Oper) (nops : List NOper) (listed : Array Bool) (i : Nat) : Bool :=
  match nops[i]? with
  | none => false
  | some x => (List.range ops.size).all fun j => j == i || listed.getD j true || (match ops[j]?, nops[j]? with
      | some oj, some y => oj.after.any (fun e => Region.binds .any e && e.on == i) || apartN x y
      | _, _ => true)

/-- The order of the walk: what writes as late as it can be. -/
def sched (ops : Array Oper) (nops : List NOper) : Nat → Array Bool → Option (List Nat)
  | 0, listed => if (Region.ready .any ops listed).isEmpty then some [] else none
  | f + 1, listed =>
    let rs := Region.ready .any ops listed
    match rs.find? (fun i => !effAt nops i && freeN ops nops listed i) with
    | some i => match sched ops nops f (listed.setIfInBounds i true) with
      | some l => some (i :: l)
      | none => none
    | none => match rs with
      | [] => some []
      | [e] => if effAt nops e then (match sched ops nops f (listed.setIfInBounds e true) with
        | some l => some (e :: l)
        | none => none) else none
      | _ => none

def direct (ops : Array Oper) (k : Nat) : List Nat :=
  match ops[k]? with
  | some o => (o.after.toList.filter (Region.binds .any ·)).map (·.on)
  | none => []

def ancAll (ops : Array Oper) : Nat → Nat → List (List Nat)
  | 0, _ => []
  | f + 1, k => (let b := (Region.before ops).getD k 0; (List.range ops.size).filter fun j => b.testBit j) :: ancAll ops f (k + 1)

def ancOk (ops : Array Oper) (k : Nat) (l : List Nat) : Bool :=
  l.all fun i => (k :: l).any fun j => i < j && (direct ops j).contains i

def ancsOk (ops : Array Oper) : Nat → List (List Nat) → Bool
  | _, [] => true
  | k, l :: ls => ancOk ops k l && ancsOk ops (k + 1) ls

def prepDraw (ops : Array Oper) (nops : List NOper) : Option Draw :=
  match sched ops nops ops.size (Array.replicate ops.size false) with
  | some l =>
    let a := ancAll ops ops.size 0
    if Region.noSelect ops && ancsOk ops 0 a then some ⟨l, a⟩ else none
  | none => none

def prepC (P : Program) : Code → Option NCode
  | .skip | .label _ => some .skip
  | .region _ ops dr => match prepOps P ops ops.toList with
    | some nops => if dr then (match prepDraw ops nops with
        | some d => some (.region nops (some d))
        | none => none) else some (.region nops none)
    | none => none
  | .seq a b => match prepC P a, prepC P b with
    | some x, some y => some (.seq x y)
    | _, _ => none
  | .cond c a b => match oO c, prepC P a, prepC P b with
    | some c, some x, some y => some (.cond c x y)
    | _, _, _ => none
  | .block id c => (prepC P c).map (.block id)
  | .loop c => (prepC P c).map .loop
  | .scope c => prepC P c
  | .exit id => some (.exit id)
  | .ret => some .ret
  | .rangeFunc f ps a b => match oO f, prepC P a, prepC P b with
    | some f, some x, some y => some (.rangeF f ps.toList x y)
    | _, _, _ => none
  | _ => none

inductive NRes where
  | t (k : Nat)
  | c (k : Nat) (agg : Bool) (sz : Nat)
  deriving Inhabited

structure NFun where
  ntmps : Nat
  res : List NRes
  body : NCode
  deriving Inhabited

def prepRes (P : Program) : List ResultVar → Option (List NRes)
  | [] => some []
  | .tmp t :: l => (prepRes P l).map (.t t :: ·)
  | .cell a t :: l => match isAggT P t, P.info? t, prepRes P l with
    | some g, some i, some r => if g = true ∨ i.size = 1 then some (.c a g i.size :: r) else none
    | _, _, _ => none

def prepF (P : Program) (f : FuncId) : Option NFun :=
  match P.funcs[f]? with
  | some fn => match fn.body with
    | some c => match prepC P c, prepRes P fn.results.toList with
      | some nc, some r => if fn.name = "runtime.NumGoroutine" then none else some ⟨fn.ntmps, r, nc⟩
      | _, _ => none
    | none => none
  | none => none

end Go.NL
