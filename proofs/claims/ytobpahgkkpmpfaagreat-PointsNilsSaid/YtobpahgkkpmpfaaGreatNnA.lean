/-
  An evaluator for N.
-/
import Derived.Test.YtobpahgkkpmpfaaGreatNmH
namespace Go.NL

def nMov (g : Opd → NV) (x : Opd) : NR := .val (g x)

def nPick (g : Opd → NV) (c : Opd) (a : Opd) (b : Opd) : NR := match g c with
    | .b x => .val (if x then g a else g b)
    | _ => .bad

def nAlloc (g : Opd → NV) (z : List NV) : NR := .al (.cells z) (.ptr · 0)

def nBox (g : Opd → NV) (x : Opd) : NR := if (g x).cells.all NV.plain then .al (.cells (g x).cells) (.ptr · 0) else .bad

def nBuild (g : Opd → NV) (z : List NV) (ps : List (Nat × Nat × Opd)) : NR := ofOpt ((fillN z (ps.map fun (o, s, x) => (o, s, g x))).map .agg)

def nBslice (g : Opd → NV) (z : List NV) (sz : Nat) (len : Nat) (ps : List (Nat × Opd)) : NR :=
    match fillN ((List.range (len * sz)).map fun j => z.getD (j % sz) .nilp) (ps.map fun (k, x) => (k * sz, sz, g x)) with
    | some c => if c.all NV.plain then .al (.cells c) (.sl · 0 len true len sz) else .bad
    | none => .bad

def nLoad (g : Opd → NV) (agg : Bool) (sz : Nat) (a : Opd) : NR := match g a with
    | .ptr id off => .rd id (loadN agg off sz)
    | .rp rows e off => ofOpt (rsCell agg off sz rows e)
    | _ => .bad

def nStore (g : Opd → NV) (sz : Nat) (a : Opd) (x : Opd) : NR := match g a with
    | .ptr id off => .wr id (storeN off sz (g x))
    | _ => .bad

def nNilck (g : Opd → NV) (x : Opd) : NR := match g x with
    | .ptr id off => .val (.ptr id off)
    | .rp rows e off => .val (.rp rows e off)
    | .fn f a c => .val (.fn f a c)
    | _ => .bad

def nArith (g : Opd → NV) (op : BinOp) (x : Opd) (y : Opd) : NR := ofOpt (arithN op (g x) (g y))

def nEq (g : Opd → NV) (neg : Bool) (sh : EqS) (x : Opd) (y : Opd) : NR := match eqN sh (g x) (g y) with
    | some r => .val (.b (if neg then !r else r))
    | none => .bad

def nUn (g : Opd → NV) (op : UnOp) (x : Opd) : NR := ofOpt (unN op (g x))

def nConv (g : Opd → NV) (k : IntKind) (x : Opd) : NR := match g x with
    | .i _ n => ofOpt ((pureOf (Conv.intToInt k n)).bind ofV)
    | _ => .bad

def nMkfn (g : Opd → NV) (f : FuncId) (first : List Opd) (cap : List Opd) : NR := .val (.fn f (first.map g) (cap.map g))

def nMkmap (g : Opd → NV)  : NR := .al (.map [] 0) .mp

def nMksl (g : Opd → NV) (z : List NV) (sz : Nat) (bytes : Nat) (l : Opd) (c : Opd) : NR := match g l, g c with
    | .i _ l, .i _ c => if 0 ≤ l ∧ l ≤ c ∧ c ≤ 2 ^ 40 ∧ bytes ≤ 256 then
        .al (.cells ((List.range (c.toNat * sz)).map fun j => z.getD (j % sz) .nilp)) (.sl · 0 l.toNat true c.toNat sz) else .bad
    | _, _ => .bad

def nSlS (g : Opd → NV) (x : Opd) (lo : Option Opd) (hi : Option Opd) : NR := match g x with
    | .s x => match boundO x.length x.length (hi.map g) with
      | none => .bad
      | some h => match boundO 0 h (lo.map g) with
        | none => .bad
        | some l => .val (.s ((x.take h).drop l))
    | _ => .bad

def nSlL (g : Opd → NV) (sz : Nat) (x : Opd) (lo : Option Opd) (hi : Option Opd) (mx : Option Opd) : NR := ofOpt (sliceN sz (g x) (lo.map g) (hi.map g) (mx.map g))

def nFaddr (g : Opd → NV) (off : Nat) (x : Opd) : NR := match g x with
    | .ptr id o => .val (.ptr id (o + off))
    | .rp rows e o => .val (.rp rows e (o + off))
    | _ => .bad

def nFld (g : Opd → NV) (agg : Bool) (off : Nat) (sz : Nat) (x : Opd) : NR := match g x with
    | .agg cs => ofOpt (partN agg off sz cs)
    | _ => .bad

def nIaddr (g : Opd → NV) (sz : Nat) (x : Opd) (i : Opd) : NR := match g x, asI (g i) with
    | .sl id off len _ _ sz', some n => if 0 ≤ n ∧ n < (len : Int) ∧ sz' = sz then .val (.ptr id (off + n.toNat * sz)) else .bad
    | .rs sz' rows off len, some n => if 0 ≤ n ∧ n < (len : Int) ∧ sz' = sz then .val (.rp rows (off + n.toNat) 0) else .bad
    | _, _ => .bad

def nIaddrA (g : Opd → NV) (len : Nat) (sz : Nat) (x : Opd) (i : Opd) : NR := match g x, asI (g i) with
    | .ptr id off, some n => if 0 ≤ n ∧ n < (len : Int) then .val (.ptr id (off + n.toNat * sz)) else .bad
    | .rp rows e off, some n => if 0 ≤ n ∧ n < (len : Int) then .val (.rp rows e (off + n.toNat * sz)) else .bad
    | _, _ => .bad

def nIdxS (g : Opd → NV) (x : Opd) (i : Opd) : NR := match g x, asI (g i) with
    | .s x, some n => if 0 ≤ n then (match x[n.toNat]? with | some c => .val (.i .u8 c.toNat) | none => .bad) else .bad
    | _, _ => .bad

def nIdxA (g : Opd → NV) (agg : Bool) (len : Nat) (sz : Nat) (x : Opd) (i : Opd) : NR := match g x, asI (g i) with
    | .agg cs, some n => if 0 ≤ n ∧ n < (len : Int) then ofOpt (partN agg (n.toNat * sz) sz cs) else .bad
    | _, _ => .bad

def nLook (g : Opd → NV) (sh : EqS) (z : NV) (ok : Bool) (x : Opd) (k : Opd) : NR := match g x with
    | .mp id => .rd id (lookN sh z ok (g k))
    | .nilm => ofOpt (lookN sh z ok (g k) (.map [] 0))
    | _ => .bad

def nMapup (g : Opd → NV) (sh : EqS) (m : Opd) (k : Opd) (v : Opd) : NR := match g m with
    | .mp id => .wr id (mapupN sh (g k) (g v))
    | _ => .bad

def nMent (g : Opd → NV) (sh : EqS) (z : NV) (m : Opd) (k : Opd) : NR := match g m with
    | .mp id => .wr id (mentN sh z (g k))
    | _ => .bad

def nEsto (g : Opd → NV) (m : Opd) (st : Opd) (v : Opd) : NR := match g m with
    | .mp id => .wr id (estoN (g st) (g v))
    | _ => .bad

def nClr (g : Opd → NV) (z : List NV) (sz : Nat) (x : Opd) : NR := match g x with
    | .nils => .val .und
    | .sl id off len _ _ sz' => if len = 0 then .val .und else if sz' = sz ∧ z.length = sz then .wr id (clearN off z (len * sz)) else .bad
    | _ => .bad

def nExtr (g : Opd → NV) (x : Opd) (i : Nat) : NR := match g x with
    | .tup vs => ofOpt (vs[i]?)
    | _ => .bad

def nMm (g : Opd → NV) (mx : Bool) (xs : List Opd) : NR := ofOpt (mmN mx (xs.map g))

def nApp (g : Opd → NV) (z : List NV) (sz : Nat) (bytes : Nat) (s : Opd) (x : Opd) : NR := .app z sz bytes (g s) (g x)

def nCall (g : Opd → NV) (f : Opd) (args : List Opd) : NR := match g f with
    | .fn f first cap => .call f (first ++ args.map g ++ cap)
    | .yl id => .yld id (args.map g)
    | _ => .bad

def nLen (g : Opd → NV) (k : Nat) (x : Opd) : NR :=
  match k with
  | 0 => match g x with
    | .s x => .val (.i .i64 x.length)
    | _ => .bad
  | 1 => match g x with
    | .sl _ _ len _ _ _ => .val (.i .i64 len)
    | .rs _ _ _ len => .val (.i .i64 len)
    | .nils => .val (.i .i64 0)
    | _ => .bad
  | _ => match g x with
    | .nilm => .val (.i .i64 0)
    | .mp id => .rd id (fun | .map es _ => some (.i .i64 es.length) | _ => none)
    | _ => .bad

/-- The operation, over the operands' values. -/
def nopG (g : Opd → NV) : NOp → NR
  | .mov x => nMov g x
  | .pick c a b => nPick g c a b
  | .alloc z => nAlloc g z
  | .box x => nBox g x
  | .build z ps => nBuild g z ps
  | .bslice z sz len ps => nBslice g z sz len ps
  | .load agg sz a => nLoad g agg sz a
  | .store sz a x => nStore g sz a x
  | .nilck x => nNilck g x
  | .arith op x y => nArith g op x y
  | .eq neg sh x y => nEq g neg sh x y
  | .un op x => nUn g op x
  | .conv k x => nConv g k x
  | .mkfn f first cap => nMkfn g f first cap
  | .mkmap => nMkmap g
  | .mksl z sz bytes l c => nMksl g z sz bytes l c
  | .slS x lo hi => nSlS g x lo hi
  | .slL sz x lo hi mx => nSlL g sz x lo hi mx
  | .faddr off x => nFaddr g off x
  | .fld agg off sz x => nFld g agg off sz x
  | .iaddr sz x i => nIaddr g sz x i
  | .iaddrA len sz x i => nIaddrA g len sz x i
  | .idxS x i => nIdxS g x i
  | .idxA agg len sz x i => nIdxA g agg len sz x i
  | .look sh z ok x k => nLook g sh z ok x k
  | .mapup sh m k v => nMapup g sh m k v
  | .ment sh z m k => nMent g sh z m k
  | .esto m st v => nEsto g m st v
  | .clr z sz x => nClr g z sz x
  | .extr x i => nExtr g x i
  | .mm mx xs => nMm g mx xs
  | .app z sz bytes s x => nApp g z sz bytes s x
  | .call f args => nCall g f args
  | .len k x => nLen g k x

theorem nopG_eq (t : List NV) (op : NOp) : nopG (getO t) op = nop t op := by
  cases op <;> first | rfl | (rename_i k x; rcases k with _ | _ | k <;> rfl)

theorem beq_t {i j : Nat} (h : i = j) : Nat.beq i j = true := by subst h; simp
theorem beq_f {i j : Nat} (h : i ≠ j) : Nat.beq i j = false := by
  cases hb : Nat.beq i j with
  | false => rfl
  | true => exact absurd (Nat.eq_of_beq_eq_true hb) h

inductive T (α : Type) where
  | e
  | n (v : Option α) (l r : T α)

noncomputable def T.get {α : Type} (t : T α) : Nat → Option α :=
  T.rec (fun _ => none) (fun v _ _ gl gr i => match Nat.beq i (nat_lit 0) with
    | true => v
    | false => match Nat.beq (Nat.mod i (nat_lit 2)) (nat_lit 1) with
      | true => gl (Nat.div i (nat_lit 2))
      | false => gr (Nat.pred (Nat.div i (nat_lit 2)))) t

noncomputable def T.mk {α : Type} (o : Option α) (f : Nat) : Nat → T α :=
  Nat.rec (fun _ => .e) (fun _ ih i => match Nat.beq i (nat_lit 0) with
    | true => .n o .e .e
    | false => match Nat.beq (Nat.mod i (nat_lit 2)) (nat_lit 1) with
      | true => .n none (ih (Nat.div i (nat_lit 2))) .e
      | false => .n none .e (ih (Nat.pred (Nat.div i (nat_lit 2))))) f

noncomputable def T.set {α : Type} (t : T α) (k : Nat) (o : Option α) : T α :=
  T.rec (motive := fun _ => Nat → T α) (fun i => T.mk o (Nat.succ i) i) (fun v l r sl sr i => match Nat.beq i (nat_lit 0) with
    | true => .n o l r
    | false => match Nat.beq (Nat.mod i (nat_lit 2)) (nat_lit 1) with
      | true => .n v (sl (Nat.div i (nat_lit 2))) r
      | false => .n v l (sr (Nat.pred (Nat.div i (nat_lit 2))))) t k

theorem T.get_n {α : Type} (v : Option α) (l r : T α) (i : Nat) : (T.n v l r).get i = if i = 0 then v else if i % 2 = 1 then l.get (i / 2) else r.get (i / 2 - 1) := by
  show (match Nat.beq i 0 with
    | true => v
    | false => match Nat.beq (i % 2) 1 with
      | true => l.get (i / 2)
      | false => r.get (i / 2 - 1)) = _
  by_cases h : i = 0
  · rw [beq_t h, if_pos h]
  · rw [beq_f h, if_neg h]
    by_cases h2 : i % 2 = 1
    · rw [beq_t h2, if_pos h2]
    · rw [beq_f h2, if_neg h2]

theorem T.get_mk {α : Type} (o : Option α) : ∀ (f i j : Nat), i < f → (T.mk o f i).get j = if j = i then o else none
  | 0, _, _, h => absurd h (Nat.not_lt_zero _)
  | f + 1, i, j, h => by
    have : T.mk o (f + 1) i = (match Nat.beq i 0 with
      | true => T.n o .e .e
      | false => match Nat.beq (i % 2) 1 with
        | true => .n none (T.mk o f (i / 2)) .e
        | false => .n none .e (T.mk o f (i / 2 - 1))) := rfl
    rw [this]
    by_cases h0 : i = 0
    · rw [beq_t h0]
      subst h0
      show (T.n o .e .e).get j = _
      rw [T.get_n]
      by_cases hj : j = 0
      · rw [if_pos hj, if_pos hj]
      · rw [if_neg hj, if_neg hj]; split <;> rfl
    · rw [beq_f h0]
      by_cases h1 : i % 2 = 1
      · rw [beq_t h1]
        show (T.n none (T.mk o f (i / 2)) .e).get j = _
        rw [T.get_n]
        by_cases hj : j = 0
        · rw [if_pos hj, if_neg (by omega)]
        · rw [if_neg hj]
          by_cases h2 : j % 2 = 1
          · rw [if_pos h2, T.get_mk o f (i / 2) (j / 2) (by omega)]
            by_cases e : j = i
            · rw [if_pos e, if_pos (by omega)]
            · rw [if_neg e, if_neg (by omega)]
          · rw [if_neg h2, if_neg (by omega)]; rfl
      · rw [beq_f h1]
        show (T.n none .e (T.mk o f (i / 2 - 1))).get j = _
        rw [T.get_n]
        by_cases hj : j = 0
        · rw [if_pos hj, if_neg (by omega)]
        · rw [if_neg hj]
          by_cases h2 : j % 2 = 1
          · rw [if_pos h2, if_neg (by omega)]; rfl
          · rw [if_neg h2, T.get_mk o f (i / 2 - 1) (j / 2 - 1) (by omega)]
            by_cases e : j = i
            · rw [if_pos e, if_pos (by omega)]
            · rw [if_neg e, if_neg (by omega)]

theorem T.get_set {α : Type} : ∀ (t : T α) (k : Nat) (o : Option α) (j : Nat), (t.set k o).get j = if j = k then o else t.get j
  | .e, k, o, j => T.get_mk o (k + 1) k j (Nat.lt_succ_self _)
  | .n v l r, k, o, j => by
    have : (T.n v l r).set k o = (match Nat.beq k 0 with
      | true => T.n o l r
      | false => match Nat.beq (k % 2) 1 with
        | true => .n v (l.set (k / 2) o) r
        | false => .n v l (r.set (k / 2 - 1) o)) := rfl
    rw [this, T.get_n]
    by_cases h0 : k = 0
    · rw [beq_t h0]
      show (T.n o l r).get j = _
      rw [T.get_n]
      subst h0
      by_cases hj : j = 0
      · rw [if_pos hj, if_pos hj]
      · rw [if_neg hj, if_neg hj, if_neg hj]
    · rw [beq_f h0]
      by_cases h1 : k % 2 = 1
      · rw [beq_t h1]
        show (T.n v (l.set (k / 2) o) r).get j = _
        rw [T.get_n]
        by_cases hj : j = 0
        · rw [if_pos hj, if_pos hj, if_neg (by omega)]
        · rw [if_neg hj, if_neg hj]
          by_cases h2 : j % 2 = 1
          · rw [if_pos h2, if_pos h2, T.get_set l]
            by_cases e : j = k
            · rw [if_pos e, if_pos (by omega)]
            · rw [if_neg e, if_neg (by omega)]
          · rw [if_neg h2, if_neg h2, if_neg (by omega)]
      · rw [beq_f h1]
        show (T.n v l (r.set (k / 2 - 1) o)).get j = _
        rw [T.get_n]
        by_cases hj : j = 0
        · rw [if_pos hj, if_pos hj, if_neg (by omega)]
        · rw [if_neg hj, if_neg hj]
          by_cases h2 : j % 2 = 1
          · rw [if_pos h2, if_pos h2, if_neg (by omega)]
          · rw [if_neg h2, if_neg h2, T.get_set r]
            by_cases e : j = k
            · rw [if_pos e, if_pos (by omega)]
            · rw [if_neg e, if_neg (by omega)]

end Go.NL
