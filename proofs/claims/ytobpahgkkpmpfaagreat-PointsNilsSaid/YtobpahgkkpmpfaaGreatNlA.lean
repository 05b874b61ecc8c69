/-
  A small language of values, memories and operations ('N'), and the reading of a program's functions in it: definitions alone.
-/
import Derived.OrdersIn
import Derived.RangeFuncLeaves
import Derived.LoopNIn
namespace Go.NL

inductive NV where
  | b (x : Bool)
  | i (k : IntKind) (n : Int)
  | s (x : List UInt8)
  | nilp
  | nils
  | nilm
  | nilf
  | nili
  | ptr (id off : Nat)
  | sl (id off len : Nat) (ex : Bool) (cap sz : Nat)
  | mp (id : Nat)
  | fn (f : FuncId) (first cap : List NV)
  | yl (id : Nat)
  | agg (cs : List NV)
  | tup (vs : List NV)
  | rs (sz : Nat) (rows : List (List NV)) (off len : Nat)
  | rp (rows : List (List NV)) (e off : Nat)
  deriving Inhabited

def NV.und : NV := .tup []

inductive Opd where
  | t (i : Nat)
  | c (v : NV)
  deriving Inhabited

inductive CK where
  | int (k : IntKind)
  | bool
  | str
  deriving DecidableEq, Inhabited

/-- How a type's values are compared. -/
inductive EqS where
  | one (k : CK)
  | nilp
  | nils
  | nilm
  | nilf
  | flat (ks : List CK)
  deriving DecidableEq, Inhabited

inductive NOp where
  | mov (x : Opd)
  | pick (c a b : Opd)
  | alloc (z : List NV)
  | box (x : Opd)
  | build (z : List NV) (ps : List (Nat × Nat × Opd))
  | bslice (z : List NV) (sz len : Nat) (ps : List (Nat × Opd))
  | load (agg : Bool) (sz : Nat) (a : Opd)
  | store (sz : Nat) (a x : Opd)
  | nilck (x : Opd)
  | arith (op : BinOp) (x y : Opd)
  | eq (neg : Bool) (sh : EqS) (x y : Opd)
  | un (op : UnOp) (x : Opd)
  | conv (k : IntKind) (x : Opd)
  | mkfn (f : FuncId) (first cap : List Opd)
  | mkmap
  | mksl (z : List NV) (sz bytes : Nat) (l c : Opd)
  | slS (x : Opd) (lo hi : Option Opd)
  | slL (sz : Nat) (x : Opd) (lo hi mx : Option Opd)
  | faddr (off : Nat) (x : Opd)
  | fld (agg : Bool) (off sz : Nat) (x : Opd)
  | iaddr (sz : Nat) (x i : Opd)
  | iaddrA (len sz : Nat) (x i : Opd)
  | idxS (x i : Opd)
  | idxA (agg : Bool) (len sz : Nat) (x i : Opd)
  | look (sh : EqS) (z : NV) (ok : Bool) (x k : Opd)
  | mapup (sh : EqS) (m k v : Opd)
  | ment (sh : EqS) (z : NV) (m k : Opd)
  | esto (m st v : Opd)
  | clr (z : List NV) (sz : Nat) (x : Opd)
  | extr (x : Opd) (i : Nat)
  | len (k : Nat) (x : Opd)
  | mm (mx : Bool) (xs : List Opd)
  | app (z : List NV) (sz bytes : Nat) (s x : Opd)
  | call (f : Opd) (args : List Opd)
  deriving Inhabited

structure NOper where
  dst : Option Nat
  op : NOp
  guard : Option (Nat × Bool)
  deriving Inhabited

/-- A region that draws: the order in which it is walked; for each operation those that are surely ahead of it. -/
structure Draw where
  order : List Nat
  anc : List (List Nat)
  deriving Inhabited

inductive NCode where
  | skip
  | region (ops : List NOper) (dr : Option Draw)
  | seq (a b : NCode)
  | cond (c : Opd) (a b : NCode)
  | block (id : Nat) (c : NCode)
  | loop (c : NCode)
  | exit (id : Nat)
  | ret
  | rangeF (f : Opd) (params : List Nat) (assign body : NCode)
  deriving Inhabited

inductive Pend where
  | ret
  | exit (id : Nat)
  deriving Inhabited

inductive Obj where
  | cells (c : List NV)
  | map (es : List (Nat × NV × NV)) (clk : Nat)
  | loop (st : LoopState) (pend : Option Pend) (tmps : List NV) (params : List Nat) (assign body : NCode)
  | defr
  deriving Inhabited

/-- What an operation asks. -/
inductive NR where
  | val (v : NV)
  | rd (id : Nat) (g : Obj → Option NV)
  | al (o : Obj) (mk : Nat → NV)
  | wr (id : Nat) (g : Obj → Option (Obj × NV))
  | app (z : List NV) (sz bytes : Nat) (s x : NV)
  | call (f : FuncId) (args : List NV)
  | yld (id : Nat) (args : List NV)
  | bad

/-! ### Values -/

def pureOf {α : Type} : Sem α → Option α
  | .pure a => some a
  | _ => none

def ofV : Value → Option NV
  | .bool x => some (.b x)
  | .int k n => some (.i k n)
  | .string x => some (.s x.data.toList)
  | .pointer none => some .nilp
  | .slice none 0 0 => some .nils
  | .map none => some .nilm
  | .nilFunc => some .nilf
  | .nilIface => some .nili
  | _ => none

def ofVs : List Value → Option (List NV)
  | [] => some []
  | v :: l => match ofV v, ofVs l with
    | some x, some xs => some (x :: xs)
    | _, _ => none

/-- A constant: plain, or cells that are. -/
def ofC : Value → Option NV
  | .agg cs => (ofVs cs.toList).map .agg
  | v => ofV v

def ofZ (v : Value) : Option (List NV) := ofVs v.cells.toList

def NV.cells : NV → List NV
  | .agg cs => cs
  | v => [v]

/-- What one cell may hold. -/
def NV.plain : NV → Bool
  | .agg _ | .tup _ | .rp .. => false
  | _ => true

def getO (t : List NV) : Opd → NV
  | .t i => t.getD i .und
  | .c v => v

def fillN : List NV → List (Nat × Nat × NV) → Option (List NV)
  | z, [] => some z
  | z, (off, sz, v) :: ps =>
    if v.cells.length = sz ∧ off + sz ≤ z.length then fillN (z.take off ++ v.cells ++ z.drop (off + sz)) ps else none

def eqCK : CK → NV → NV → Option Bool
  | .int k, .i k1 a, .i k2 b => if k1 = k ∧ k2 = k then some (a == b) else none
  | .bool, .b x, .b y => some (x == y)
  | .str, .s x, .s y => some (x == y)
  | _, _, _ => none

def eqFlat : List CK → List NV → List NV → Option Bool
  | [], [], [] => some true
  | k :: ks, x :: xs, y :: ys => match eqCK k x y, eqFlat ks xs ys with
    | some p, some q => some (p && q)
    | _, _ => none
  | _, _, _ => none

def eqN : EqS → NV → NV → Option Bool
  | .one k, x, y => eqCK k x y
  | .flat ks, .agg xs, .agg ys => eqFlat ks xs ys
  | .nilp, .nilp, .nilp => some true
  | .nilp, .nilp, .ptr .. | .nilp, .ptr .., .nilp | .nilp, .nilp, .rp .. | .nilp, .rp .., .nilp => some false
  | .nils, .nils, .nils => some true
  | .nils, .nils, .sl .. | .nils, .sl .., .nils => some false
  | .nilm, .nilm, .nilm => some true
  | .nilm, .nilm, .mp _ | .nilm, .mp _, .nilm => some false
  | .nilf, .nilf, .nilf => some true
  | .nilf, .nilf, .fn .. | .nilf, .fn .., .nilf => some false
  | _, _, _ => none

def bytesLess : List UInt8 → List UInt8 → Bool := Op.bytesLess

def arithN (op : BinOp) : NV → NV → Option NV
  | .i k a, .i k' b => (pureOf (binOp op 0 (.int k a) (.int k' b))).bind ofV
  | .s x, .s y => match op with
    | .add => if ((x.length + y.length : Nat) : Int) > IntKind.i64.max then none else some (.s (x ++ y))
    | .eql => some (.b (x == y))
    | .neq => some (.b !(x == y))
    | .lss => some (.b (bytesLess x y))
    | .leq => some (.b (bytesLess x y || x == y))
    | .gtr => some (.b !(bytesLess x y || x == y))
    | .geq => some (.b !bytesLess x y)
    | _ => none
  | _, _ => none

def unN (op : UnOp) : NV → Option NV
  | .i k n => (pureOf (Op.unary op (.int k n))).bind ofV
  | .b x => (pureOf (Op.unary op (.bool x))).bind ofV
  | _ => none

/-- One cell, or the cells of a part. -/
def partN (agg : Bool) (off sz : Nat) (c : List NV) : Option NV :=
  if agg then (if off + sz ≤ c.length then some (.agg ((c.drop off).take sz)) else none) else c[off]?

def loadN (agg : Bool) (off sz : Nat) : Obj → Option NV
  | .cells c => partN agg off sz c
  | _ => none

def storeN (off sz : Nat) (v : NV) : Obj → Option (Obj × NV)
  | .cells c => if v.cells.length = sz ∧ off + sz ≤ c.length ∧ v.cells.all NV.plain then some (.cells (c.take off ++ v.cells ++ c.drop (off + sz)), .und) else none
  | _ => none

def clearN (off : Nat) (z : List NV) (n : Nat) : Obj → Option (Obj × NV)
  | .cells c => if off + n ≤ c.length ∧ z.all NV.plain then some (.cells (c.take off ++ ((List.range n).map fun j => z.getD (j % z.length) .nilp) ++ c.drop (off + n)), .und) else none
  | _ => none

def findN (sh : EqS) (k : NV) : List (Nat × NV × NV) → Option (Option (Nat × NV))
  | [] => if (eqN sh k k).isSome then some none else none
  | (st, k', v) :: es => match eqN sh k k' with
    | some true => some (some (st, v))
    | some false => findN sh k es
    | none => none

def lookN (sh : EqS) (z : NV) (ok : Bool) (k : NV) : Obj → Option NV
  | .map es _ => match findN sh k es with
    | some (some (_, v)) => some (if ok then .tup [v, .b true] else v)
    | some none => some (if ok then .tup [z, .b false] else z)
    | none => none
  | _ => none

/-- The entry's key, and its value (or none: the value stays). -/
def putMap (sh : EqS) (k : NV) (v : Option NV) : List (Nat × NV × NV) → Option (List (Nat × NV × NV))
  | [] => some []
  | (st, k', v') :: es => match eqN sh k k' with
    | some true => some ((st, k, v.getD v') :: es)
    | some false => (putMap sh k v es).map ((st, k', v') :: ·)
    | none => none

def mapupN (sh : EqS) (k v : NV) : Obj → Option (Obj × NV)
  | .map es clk => match findN sh k es with
    | some (some _) => (putMap sh k (some v) es).map fun l => (.map l clk, .und)
    | some none => some (.map (es ++ [(clk, k, v)]) (clk + 1), .und)
    | none => none
  | _ => none

def mentN (sh : EqS) (z k : NV) : Obj → Option (Obj × NV)
  | .map es clk => match findN sh k es with
    | some (some (st, v)) => (putMap sh k none es).map fun l => (.map l clk, .tup [v, .i .i64 st])
    | some none => some (.map (es ++ [(clk, k, z)]) (clk + 1), .tup [z, .i .i64 clk])
    | none => none
  | _ => none

def stoE (st : Int) (v : NV) : List (Nat × NV × NV) → Option (List (Nat × NV × NV))
  | [] => none
  | (s, k, v') :: es => if (s : Int) = st then some ((s, k, v) :: es) else (stoE st v es).map ((s, k, v') :: ·)

def estoN (st : NV) (v : NV) : Obj → Option (Obj × NV)
  | .map es clk => match st with
    | .i _ n => (stoE n v es).map fun l => (.map l clk, .und)
    | _ => none
  | _ => none

def boundN (y : Nat) : NV → Option Nat
  | .i _ n => if 0 ≤ n ∧ n ≤ (y : Int) then some n.toNat else none
  | _ => none

def boundO (d y : Nat) : Option NV → Option Nat
  | none => some d
  | some v => boundN y v

def mm2 (mx : Bool) : NV → NV → Option NV
  | .i k x, .i _ y => some (.i k (if mx then (if y > x then y else x) else (if y < x then y else x)))
  | _, _ => none

def mmF (mx : Bool) (a : NV) : List NV → Option NV
  | [] => some a
  | y :: l => match mm2 mx a y with
    | some b => mmF mx b l
    | none => none

def mmN (mx : Bool) : List NV → Option NV
  | [] => none
  | a :: l => mmF mx a l

def rsCell (agg : Bool) (off sz : Nat) (rows : List (List NV)) (e : Nat) : Option NV := (rows[e]?).bind (partN agg off sz)

def ofOpt : Option NV → NR
  | some v => .val v
  | none => .bad

def sliceN (sz : Nat) (x : NV) (lo hi mx : Option NV) : Option NV :=
  match x with
  | .sl id off len ex cap sz' =>
    if sz' ≠ sz then none else
    match boundO cap cap mx with
    | none => none
    | some m => match boundO len m hi with
      | none => none
      | some h => match boundO 0 h lo with
        | none => none
        | some l => some (.sl id (off + l * sz) (h - l) (ex || mx.isSome) (m - l) sz)
  | .rs sz' rows off len =>
    if sz' ≠ sz ∨ mx.isSome then none else
    match boundO len len hi with
    | none => none
    | some h => match boundO 0 h lo with
      | none => none
      | some l => some (.rs sz rows (off + l) (h - l))
  | .nils => match boundO 0 0 mx with
    | none => none
    | some m => match boundO 0 m hi with
      | none => none
      | some h => match boundO 0 h lo with
        | none => none
        | some _ => some .nils
  | _ => none

def asI : NV → Option Int
  | .i _ n => some n
  | _ => none

/-- The operation, over the slots' values. -/
def nop (t : List NV) : NOp → NR
  | .mov x => .val (getO t x)
  | .pick c a b => match getO t c with
    | .b x => .val (if x then getO t a else getO t b)
    | _ => .bad
  | .alloc z => .al (.cells z) (.ptr · 0)
  | .box x => if (getO t x).cells.all NV.plain then .al (.cells (getO t x).cells) (.ptr · 0) else .bad
  | .build z ps => ofOpt ((fillN z (ps.map fun (o, s, x) => (o, s, getO t x))).map .agg)
  | .bslice z sz len ps =>
    match fillN ((List.range (len * sz)).map fun j => z.getD (j % sz) .nilp) (ps.map fun (k, x) => (k * sz, sz, getO t x)) with
    | some c => if c.all NV.plain then .al (.cells c) (.sl · 0 len true len sz) else .bad
    | none => .bad
  | .load agg sz a => match getO t a with
    | .ptr id off => .rd id (loadN agg off sz)
    | .rp rows e off => ofOpt (rsCell agg off sz rows e)
    | _ => .bad
  | .store sz a x => match getO t a with
    | .ptr id off => .wr id (storeN off sz (getO t x))
    | _ => .bad
  | .nilck x => match getO t x with
    | .ptr id off => .val (.ptr id off)
    | .rp rows e off => .val (.rp rows e off)
    | .fn f a c => .val (.fn f a c)
    | _ => .bad
  | .arith op x y => ofOpt (arithN op (getO t x) (getO t y))
  | .eq neg sh x y => match eqN sh (getO t x) (getO t y) with
    | some r => .val (.b (if neg then !r else r))
    | none => .bad
  | .un op x => ofOpt (unN op (getO t x))
  | .conv k x => match getO t x with
    | .i _ n => ofOpt ((pureOf (Conv.intToInt k n)).bind ofV)
    | _ => .bad
  | .mkfn f first cap => .val (.fn f (first.map (getO t)) (cap.map (getO t)))
  | .mkmap => .al (.map [] 0) .mp
  | .mksl z sz bytes l c => match getO t l, getO t c with
    | .i _ l, .i _ c => if 0 ≤ l ∧ l ≤ c ∧ c ≤ 2 ^ 40 ∧ bytes ≤ 256 then
        .al (.cells ((List.range (c.toNat * sz)).map fun j => z.getD (j % sz) .nilp)) (.sl · 0 l.toNat true c.toNat sz) else .bad
    | _, _ => .bad
  | .slS x lo hi => match getO t x with
    | .s x => match boundO x.length x.length (hi.map (getO t)) with
      | none => .bad
      | some h => match boundO 0 h (lo.map (getO t)) with
        | none => .bad
        | some l => .val (.s ((x.take h).drop l))
    | _ => .bad
  | .slL sz x lo hi mx => ofOpt (sliceN sz (getO t x) (lo.map (getO t)) (hi.map (getO t)) (mx.map (getO t)))
  | .faddr off x => match getO t x with
    | .ptr id o => .val (.ptr id (o + off))
    | .rp rows e o => .val (.rp rows e (o + off))
    | _ => .bad
  | .fld agg off sz x => match getO t x with
    | .agg cs => ofOpt (partN agg off sz cs)
    | _ => .bad
  | .iaddr sz x i => match getO t x, asI (getO t i) with
    | .sl id off len _ _ sz', some n => if 0 ≤ n ∧ n < (len : Int) ∧ sz' = sz then .val (.ptr id (off + n.toNat * sz)) else .bad
    | .rs sz' rows off len, some n => if 0 ≤ n ∧ n < (len : Int) ∧ sz' = sz then .val (.rp rows (off + n.toNat) 0) else .bad
    | _, _ => .bad
  | .iaddrA len sz x i => match getO t x, asI (getO t i) with
    | .ptr id off, some n => if 0 ≤ n ∧ n < (len : Int) then .val (.ptr id (off + n.toNat * sz)) else .bad
    | .rp rows e off, some n => if 0 ≤ n ∧ n < (len : Int) then .val (.rp rows e (off + n.toNat * sz)) else .bad
    | _, _ => .bad
  | .idxS x i => match getO t x, asI (getO t i) with
    | .s x, some n => if 0 ≤ n then (match x[n.toNat]? with | some c => .val (.i .u8 c.toNat) | none => .bad) else .bad
    | _, _ => .bad
  | .idxA agg len sz x i => match getO t x, asI (getO t i) with
    | .agg cs, some n => if 0 ≤ n ∧ n < (len : Int) then ofOpt (partN agg (n.toNat * sz) sz cs) else .bad
    | _, _ => .bad
  | .look sh z ok x k => match getO t x with
    | .mp id => .rd id (lookN sh z ok (getO t k))
    | .nilm => ofOpt (lookN sh z ok (getO t k) (.map [] 0))
    | _ => .bad
  | .mapup sh m k v => match getO t m with
    | .mp id => .wr id (mapupN sh (getO t k) (getO t v))
    | _ => .bad
  | .ment sh z m k => match getO t m with
    | .mp id => .wr id (mentN sh z (getO t k))
    | _ => .bad
  | .esto m st v => match getO t m with
    | .mp id => .wr id (estoN (getO t st) (getO t v))
    | _ => .bad
  | .clr z sz x => match getO t x with
    | .nils => .val .und
    | .sl id off len _ _ sz' => if len = 0 then .val .und else if sz' = sz ∧ z.length = sz then .wr id (clearN off z (len * sz)) else .bad
    | _ => .bad
  | .extr x i => match getO t x with
    | .tup vs => ofOpt (vs[i]?)
    | _ => .bad
  | .len 0 x => match getO t x with
    | .s x => .val (.i .i64 x.length)
    | _ => .bad
  | .len 1 x => match getO t x with
    | .sl _ _ len _ _ _ => .val (.i .i64 len)
    | .rs _ _ _ len => .val (.i .i64 len)
    | .nils => .val (.i .i64 0)
    | _ => .bad
  | .len _ x => match getO t x with
    | .nilm => .val (.i .i64 0)
    | .mp id => .rd id (fun | .map es _ => some (.i .i64 es.length) | _ => none)
    | _ => .bad
  | .mm mx xs => ofOpt (mmN mx (xs.map (getO t)))
  | .app z sz bytes s x => .app z sz bytes (getO t s) (getO t x)
  | .call f args => match getO t f with
    | .fn f first cap => .call f (first ++ args.map (getO t) ++ cap)
    | .yl id => .yld id (args.map (getO t))
    | _ => .bad

/-- What an operation looks at. -/
def NOp.opds : NOp → List Opd
  | .mov x | .box x | .nilck x | .un _ x | .conv _ x | .faddr _ x | .fld _ _ _ x | .extr x _ | .len _ x | .clr _ _ x | .load _ _ x => [x]
  | .pick c a b => [c, a, b]
  | .alloc _ | .mkmap => []
  | .build _ ps => ps.map (·.2.2)
  | .bslice _ _ _ ps => ps.map (·.2)
  | .store _ a x => [a, x]
  | .arith _ x y | .eq _ _ x y => [x, y]
  | .mkfn _ a b => a ++ b
  | .mksl _ _ _ l c => [l, c]
  | .slS x lo hi => x :: (lo.toList ++ hi.toList)
  | .slL _ x lo hi mx => x :: (lo.toList ++ hi.toList ++ mx.toList)
  | .iaddr _ x i | .iaddrA _ _ x i | .idxS x i | .idxA _ _ _ x i => [x, i]
  | .look _ _ _ x k => [x, k]
  | .mapup _ m k v | .esto m k v => [m, k, v]
  | .ment _ _ m k => [m, k]
  | .mm _ xs => xs
  | .app _ _ _ s x => [s, x]
  | .call f args => f :: args

theorem nop_congr {t t' : List NV} {no : NOp} (h : ∀ y ∈ no.opds, getO t y = getO t' y) : nop t no = nop t' no := by
  cases no <;> simp only [NOp.opds] at h
  case build z ps =>
    have : (ps.map fun (o, s, x) => (o, s, getO t x)) = ps.map fun (o, s, x) => (o, s, getO t' x) := List.map_congr_left fun p hp => by
      simp only [h p.2.2 (List.mem_map.2 ⟨p, hp, rfl⟩)]
    simp only [nop, this]
  case bslice z sz len ps =>
    have : (ps.map fun (k, x) => (k * sz, sz, getO t x)) = ps.map fun (k, x) => (k * sz, sz, getO t' x) := List.map_congr_left fun p hp => by
      simp only [h p.2 (List.mem_map.2 ⟨p, hp, rfl⟩)]
    simp only [nop, this]
  case mkfn f a b =>
    have h1 : a.map (getO t) = a.map (getO t') := List.map_congr_left fun x hx => h x (by simp [hx])
    have h2 : b.map (getO t) = b.map (getO t') := List.map_congr_left fun x hx => h x (by simp [hx])
    simp only [nop, h1, h2]
  case mm mx xs =>
    have h1 : xs.map (getO t) = xs.map (getO t') := List.map_congr_left fun x hx => h x hx
    simp only [nop, h1]
  case call f args =>
    have h1 : args.map (getO t) = args.map (getO t') := List.map_congr_left fun x hx => h x (by simp [hx])
    have h2 : getO t f = getO t' f := h f (by simp)
    simp only [nop, h1, h2]
  case slS x lo hi =>
    have h0 : getO t x = getO t' x := h x (by simp)
    have h1 : lo.map (getO t) = lo.map (getO t') := by cases lo <;> simp_all
    have h2 : hi.map (getO t) = hi.map (getO t') := by cases hi <;> simp_all
    simp only [nop, h0, h1, h2]
  case slL sz x lo hi mx =>
    have h0 : getO t x = getO t' x := h x (by simp)
    have h1 : lo.map (getO t) = lo.map (getO t') := by cases lo <;> simp_all
    have h2 : hi.map (getO t) = hi.map (getO t') := by cases hi <;> simp_all
    have h3 : mx.map (getO t) = mx.map (getO t') := by cases mx <;> simp_all
    simp only [nop, h0, h1, h2, h3]
  case len k x =>
    have h0 : getO t x = getO t' x := h x (by simp)
    rcases k with _ | _ | k <;> simp only [nop, h0]
  all_goals (simp only [List.mem_cons, List.not_mem_nil, or_false, forall_eq_or_imp, forall_eq] at h; simp only [nop, h])

def NOper.reads (o : NOper) : List Nat :=
  (o.op.opds.filterMap fun | .t i => some i | _ => none) ++ (match o.guard with | some (d, _) => [d] | none => [])

def apartN (x y : NOper) : Bool :=
  (match x.dst with | some d => !y.reads.contains d && y.dst != some d | none => true) && (match y.dst with | some d => !x.reads.contains d | none => true)

end Go.NL
