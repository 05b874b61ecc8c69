/-
  The evaluator: definitions.
-/
import Derived.Test.YtobpahgkkpmpfaaGreatNnA
namespace Go.NL

structure E where
  t : T NV
  len : Nat
  m : T Obj
  n : Nat

noncomputable def E.g (e : E) : Opd → NV
  | .c v => v
  | .t i => match e.t.get i with
    | some v => v
    | none => .und

noncomputable def E.put (e : E) (d : Option Nat) (v : NV) : E :=
  match d with
  | none => e
  | some d => match Nat.blt d e.len with
    | true => { e with t := e.t.set d (some v) }
    | false => e

def E.mem (e : E) (m : T Obj) : E := { e with m := m }

noncomputable def ofL : Nat → List NV → T NV → T NV
  | _, [], t => t
  | k, v :: l, t => ofL (k + 1) l (t.set k (some v))

noncomputable def tlF (t : T NV) : Nat → Nat → List NV
  | _, 0 => []
  | k, m + 1 => (match t.get k with | some v => v | none => .und) :: tlF t (k + 1) m

noncomputable def E.tl (e : E) : List NV := tlF e.t 0 e.len

noncomputable def wantedE (e : E) : Option (Nat × Bool) → Bool
  | none => true
  | some (d, want) => match e.t.get d with
    | some (.b x) => match x, want with
      | true, true => true
      | false, false => true
      | _, _ => false
    | _ => false

noncomputable def srcT (M : T Obj) (sz : Nat) : NV → Option (Nat × List NV)
  | .nils => some (0, [])
  | .sl id off len _ _ sz' => if sz' = sz then
      (if len = 0 then some (0, []) else match M.get id with
        | some (.cells c) => if off + len * sz ≤ c.length then some (len, (c.drop off).take (len * sz)) else none
        | _ => none) else none
  | .rs sz' rows off len => if sz' = sz then some (len, ((rows.drop off).take len).flatten) else none
  | .s x => if sz = 1 then some (x.length, x.map fun c => .i .u8 c.toNat) else none
  | _ => none

noncomputable def appT (M : T Obj) (id' : Nat) (sz : Nat) (s x : NV) : Option (NV × T Obj) :=
  match srcT M sz x with
  | none => none
  | some (n, new) =>
    if n = 0 then (match s with
      | .nils => some (s, M)
      | .sl .. => some (s, M)
      | .rs .. => some (s, M)
      | _ => none) else
    if ¬ new.all NV.plain then none else
    match s with
    | .nils => if n ≤ 2 ^ 30 then some (.sl id' 0 n false n sz, M.set id' (some (.cells new))) else none
    | .sl id off len ex cap sz' =>
      if sz' ≠ sz ∨ 2 ^ 30 < len + n then none else
      if len + n ≤ cap then match M.get id with
        | some (.cells c) => if off + len * sz + n * sz ≤ c.length then some (.sl id off (len + n) ex cap sz, M.set id (some (.cells (c.take (off + len * sz) ++ new ++ c.drop (off + len * sz + n * sz))))) else none
        | _ => none
      else match M.get id with
        | some (.cells c) => if off + len * sz ≤ c.length then
            some (.sl id' 0 (len + n) false (len + n) sz, (if ex then M else M.set id none).set id' (some (.cells ((c.drop off).take (len * sz) ++ new)))) else none
        | _ => none
    | _ => none

mutual
def nvEq : NV → NV → Bool
  | .b x, .b y => x == y
  | .i k n, .i k' n' => k == k' && n == n'
  | .s x, .s y => x == y
  | .nilp, .nilp | .nils, .nils | .nilm, .nilm | .nilf, .nilf | .nili, .nili => true
  | .ptr i o, .ptr i' o' => i == i' && o == o'
  | .sl i o l e c z, .sl i' o' l' e' c' z' => i == i' && o == o' && l == l' && e == e' && c == c' && z == z'
  | .mp i, .mp i' => i == i'
  | .fn f a c, .fn f' a' c' => f == f' && nvsEq a a' && nvsEq c c'
  | .yl i, .yl i' => i == i'
  | .agg a, .agg a' => nvsEq a a'
  | .tup a, .tup a' => nvsEq a a'
  | .rs z r o l, .rs z' r' o' l' => z == z' && nvssEq r r' && o == o' && l == l'
  | .rp r e o, .rp r' e' o' => nvssEq r r' && e == e' && o == o'
  | _, _ => false
def nvsEq : List NV → List NV → Bool
  | [], [] => true
  | x :: xs, y :: ys => nvEq x y && nvsEq xs ys
  | _, _ => false
def nvssEq : List (List NV) → List (List NV) → Bool
  | [], [] => true
  | x :: xs, y :: ys => nvsEq x y && nvssEq xs ys
  | _, _ => false
end

abbrev CallE := FuncId → List NV → T Obj → Nat → Option (NV × T Obj × Nat)
abbrev RecE := Option Nat → NCode → E → Option (NX × E)

noncomputable def resE (cf : CallE) (yf : Nat → List NV → T Obj → Nat → Option (NV × T Obj × Nat)) (dst : Option Nat) (id : Nat) (e : E) : NR → Option E
  | .val v => some (e.put dst v)
  | .rd i g => match e.m.get i with
    | some ob => match g ob with
      | some v => some (e.put dst v)
      | none => none
    | none => none
  | .al ob mk => some ((e.mem (e.m.set id (some ob))).put dst (mk id))
  | .wr i g => match e.m.get i with
    | some ob => match g ob with
      | some (ob', v) => some ((e.mem (e.m.set i (some ob'))).put dst v)
      | none => none
    | none => none
  | .app _ sz _ x y => match appT e.m id sz x y with
    | some (v, m') => some ((e.mem m').put dst v)
    | none => none
  | .call f args => match cf f args e.m e.n with
    | some (v, m', n') => some (E.put { e with m := m', n := n' } dst v)
    | none => none
  | .yld i args => match yf i args e.m e.n with
    | some (v, m', n') => some (E.put { e with m := m', n := n' } dst v)
    | none => none
  | .bad => none

noncomputable def opE (cf : CallE) (yf : Nat → List NV → T Obj → Nat → Option (NV × T Obj × Nat)) (o : NOper) (id : Nat) (e : E) : Option E :=
  match wantedE e o.guard with
  | true => resE cf yf o.dst id e (nopG e.g o.op)
  | false => some (e.put o.dst .und)

noncomputable def opsE (cf : CallE) (yf : Nat → List NV → T Obj → Nat → Option (NV × T Obj × Nat)) (ops : List NOper) : Nat → E → Option E :=
  List.rec (fun _ e => some e) (fun o _ ih id e => match opE cf yf o id e with
    | some e' => ih (Nat.succ id) e'
    | none => none) ops

noncomputable def memN (i : Nat) (l : List Nat) : Bool :=
  List.rec false (fun j _ ih => match Nat.beq i j with
    | true => true
    | false => ih) l

noncomputable def setIf (m : T Obj) (k : Nat) (o : Option Obj) : T Obj :=
  match m.get k, o with
  | none, none => m
  | _, _ => m.set k o

noncomputable def setAll (f : Nat → Option Obj) (l : List Nat) : T Obj → T Obj :=
  List.rec (fun m => m) (fun k _ ih m => ih (setIf m k (f k))) l

noncomputable def logOk (an : List Nat) (m : T Obj) : List Ent → Bool
  | [] => true
  | e :: l => (match memN e.i an with
    | true => true
    | false => match m.get e.id with
      | some ob => match e.g ob with
        | some v => nvEq v e.v
        | none => false
      | none => false) && logOk an m l

/-- Those of a list that are not in another. -/
noncomputable def minus (l an : List Nat) : List Nat := l.filter fun i => !memN i an

noncomputable def stepE (cf : CallE) (yf : Nat → List NV → T Obj → Nat → Option (NV × T Obj × Nat)) (no : NOper) (i base : Nat) (pl ql an : List Nat) (log : List Ent) (e : E) : Option (List Ent × E) :=
  match wantedE e no.guard with
  | false => some (log, e.put no.dst .und)
  | true => match nopG e.g no.op with
    | .val v => some (log, e.put no.dst v)
    | .rd j g => match memN j pl with
      | true => none
      | false => match e.m.get j with
        | some ob => match g ob with
          | some v => some (⟨i, j, g, v⟩ :: log, e.put no.dst v)
          | none => none
        | none => none
    | .al ob mk => some (log, (e.mem (e.m.set (base + i) (some ob))).put no.dst (mk (base + i)))
    | .bad => none
    | r => match resE cf yf no.dst (base + i) (e.mem (setAll (fun _ => none) pl e.m)) r with
      | some e' =>
        let m' := setAll e.m.get pl (setAll (fun _ => none) ql e'.m)
        match logOk an m' log with
        | true => some (log, e'.mem m')
        | false => none
      | none => none

noncomputable def runE (cf : CallE) (yf : Nat → List NV → T Obj → Nat → Option (NV × T Obj × Nat)) (nops : List NOper) (anc : List (List Nat)) (base : Nat) : List Nat → List Nat → List Nat → List Ent → E → Option E
  | [], _, _, _, e => some e
  | i :: is, done, left, log, e => match nops[i]? with
    | none => none
    | some no =>
      let left' := left.filter fun j => !Nat.beq i j
      match stepE cf yf no i base ((minus done (anc.getD i [])).map (base + ·)) (left'.map (base + ·)) (anc.getD i []) log e with
      | some (log', e') => runE cf yf nops anc base is (i :: done) left' log' e'
      | none => none

noncomputable def yldE (rec : RecE) (id : Nat) (args : List NV) (m : T Obj) (n : Nat) : Option (NV × T Obj × Nat) :=
  match m.get id with
  | some (.loop .ready _ ts ps na nb) =>
    if args.length = ps.length then
      match rec (some id) na ⟨ofL 0 (setps ps args ts) .e, ts.length, m, n⟩ with
      | some (.normal, e1) => match e1.m.get id with
        | some (.loop .ready pe2 ts2 ps2 na2 nb2) => match rec (some id) nb (e1.mem (e1.m.set id (some (.loop .busy pe2 ts2 ps2 na2 nb2)))) with
          | some (x, e2) => match e2.m.get id with
            | some (.loop _ _ ts3 ps3 na3 nb3) => match x with
              | .normal => some (.b true, e2.m.set id (some (.loop .ready none ts3 ps3 na3 nb3)), e2.n)
              | .ret => some (.b false, e2.m.set id (some (.loop .done (some .ret) ts3 ps3 na3 nb3)), e2.n)
              | .exit j => some (.b false, e2.m.set id (some (.loop .done (some (.exit j)) ts3 ps3 na3 nb3)), e2.n)
            | _ => none
          | none => none
        | _ => none
      | _ => none
    else none
  | _ => none

noncomputable def resV (e : E) : List NRes → Option (List NV)
  | [] => some []
  | .t k :: l => match resV e l with
    | some r => some (e.g (.t k) :: r)
    | none => none
  | .c k agg sz :: l => match e.g (.t k), resV e l with
    | .ptr id off, some r => match e.m.get id with
      | some ob => match loadN agg off sz ob with
        | some v => some (v :: r)
        | none => none
      | none => none
    | _, _ => none

abbrev Tab := FuncId → Option NFun

noncomputable def callE (P : Tab) (prim : FuncId → List NV → T Obj → Nat → Option (Option (NV × T Obj × Nat))) (rec : RecE) : CallE := fun f args m n =>
  match prim f args m n with
  | some r => r
  | none => match P f with
    | some nf => match rec none nf.body ⟨ofL 0 args .e, args.length + (nf.ntmps - args.length), m, n⟩ with
      | some (.normal, e) | some (.ret, e) => match resV e nf.res with
        | some l => some (packN l, e.m, e.n)
        | none => none
      | _ => none
    | none => none

noncomputable def rangeFuncE (cf : CallE) (ro : Option Nat) (fo : Opd) (ps : List Nat) (as bo : NCode) (e : E) : Option (NX × E) :=
  match (match ro with | none => true | some l => match e.m.get l with | some (.loop ..) => true | _ => false) with
  | false => none
  | true => match e.g fo with
    | .fn f first cap => match cf f (first ++ [.yl e.n] ++ cap) (e.m.set e.n (some (.loop .ready none e.tl ps as bo))) (e.n + 1) with
      | some (_, m', n') => match m'.get e.n with
        | some (.loop st pe _ _ _ _) => match st with
          | .busy => none
          | _ => match pe with
            | none => some (.normal, { e with m := m'.set e.n none, n := n' })
            | some .ret => some (.ret, { e with m := m'.set e.n none, n := n' })
            | some (.exit i) => some (.exit i, { e with m := m'.set e.n none, n := n' })
        | _ => none
      | none => none
    | _ => none

noncomputable def loopE (body : E → Option (NX × E)) (k : Nat) : E → Option (NX × E) :=
  Nat.rec (fun _ => none) (fun _ ih e => match body e with
    | some (.normal, e') => ih e'
    | r => r) k

noncomputable def evF (P : Tab) (prim : FuncId → List NV → T Obj → Nat → Option (Option (NV × T Obj × Nat))) (k : Nat) (rec : RecE) : RecE := fun ro c e =>
  match c with
  | .skip => some (.normal, e)
  | .region ops none => match opsE (callE P prim rec) (yldE rec) ops e.n { e with n := e.n + ops.length } with
    | some e' => some (.normal, e')
    | none => none
  | .region ops (some d) => match runE (callE P prim rec) (yldE rec) ops d.anc e.n d.order [] (List.range ops.length) [] { e with n := e.n + ops.length } with
    | some e' => some (.normal, e')
    | none => none
  | .seq a b => match rec ro a e with
    | some (.normal, e') => rec ro b e'
    | r => r
  | .cond c a b => match e.g c with
    | .b true => rec ro a e
    | .b false => rec ro b e
    | _ => none
  | .block id c => match rec ro c e with
    | some (.exit j, e') => match Nat.beq j id with
      | true => some (.normal, e')
      | false => some (.exit j, e')
    | r => r
  | .loop c => loopE (rec ro c) k e
  | .exit id => some (.exit id, e)
  | .ret => some (.ret, e)
  | .rangeF f ps as bo => rangeFuncE (callE P prim rec) ro f ps as bo e

noncomputable def ev (P : Tab) (prim : FuncId → List NV → T Obj → Nat → Option (Option (NV × T Obj × Nat))) (f : Nat) : RecE :=
  Nat.rec (fun _ _ _ => none) (fun f ih => evF P prim f ih) f

section
variable (cf : CallE) (yf : Nat → List NV → T Obj → Nat → Option (NV × T Obj × Nat))
theorem opsE_nil (id : Nat) (e : E) : opsE cf yf [] id e = some e := rfl
theorem opsE_cons (o : NOper) (os : List NOper) (id : Nat) (e : E) : opsE cf yf (o :: os) id e = match opE cf yf o id e with
    | some e' => opsE cf yf os (id + 1) e'
    | none => none := rfl
theorem memN_cons (i j : Nat) (l : List Nat) : memN i (j :: l) = match Nat.beq i j with
    | true => true
    | false => memN i l := rfl
theorem setAll_cons (f : Nat → Option Obj) (k : Nat) (l : List Nat) (m : T Obj) : setAll f (k :: l) m = setAll f l (setIf m k (f k)) := rfl
theorem loopE_zero (body : E → Option (NX × E)) (e : E) : loopE body 0 e = none := rfl
theorem loopE_succ (body : E → Option (NX × E)) (k : Nat) (e : E) : loopE body (k + 1) e = match body e with
    | some (.normal, e') => loopE body k e'
    | r => r := rfl
end

end Go.NL
