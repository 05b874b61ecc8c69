/-
  All operations, by what they ask.
-/
import Derived.Test.YtobpahgkkpmpfaaGreatNlX
namespace Go.NL

section
variable {P : Program} {w w' : World} {G : Gh} {M : Mem} {t : List NV} {a : Act} {o : Oper} {no : NOp}

theorem oOo_inv {x : Option Operand} {y : Option Opd} (h : oOo x = some y) : (x = none ∧ y = none) ∨ ∃ p q, x = some p ∧ y = some q ∧ oO p = some q := by
  cases x with
  | none => simp [oOo] at h; exact .inl ⟨rfl, h.symm⟩
  | some p =>
    simp only [oOo] at h
    split at h
    · rename_i q hq; cases h; exact .inr ⟨p, q, rfl, rfl, hq⟩
    · cases h

theorem val_mov {x : Operand} {x' : Opd} {v : NV} (ht : VRs G t a.tmps.toList) (hx : oO x = some x') (hv : nop t (.mov x') = .val v) (ho : o.op = .move x ∨ o.op = .assign x) : ValOk P G w (execOp a.eval o) v := by
  simp only [nop] at hv; cases hv
  rcases ho with ho | ho <;> (simp only [execOp, ho]; exact ⟨_, rfl, oO_vr ht hx⟩)

theorem val_look_nil {ty kt et : TypeId} {i : TypeInfo} {zv : Value} {z : NV} {x k : Operand} {x' k' : Opd} {sh : EqS} {ok : Bool} {v : NV} (ht : VRs G t a.tmps.toList) (hu : P.underlying ty = some (.map kt et)) (hs : eqShape P kt = some sh)
    (hi : P.info? et = some i) (hz : i.zero = some zv) (hzv : VR G z zv) (hx : oO x = some x') (hk : oO k = some k') (hv : nop t (.look sh z ok x' k') = .val v) (ho : o.op = .lookup ty x k ok) : ValOk P G w (execOp a.eval o) v := by
  have h1 := oO_vr ht hx
  have h2 := oO_vr ht hk
  simp only [nop] at hv
  simp only [execOp, ho]
  generalize a.eval x = p at h1 ⊢
  split at hv
  · cases hv
  · rename_i hb
    rw [hb] at h1
    cases h1
    replace hv := ofOpt_val hv
    simp only [lookN] at hv
    have key : ∀ r, findN sh (getO t k') [] = some r → v = lookRes z ok r → ValOk P G w (do pure (Next.value (← Instr.lookup ty (.map none) (a.eval k) ok))) v := by
      intro r hf hvv
      obtain ⟨u, h3, h4⟩ := look_run (P := P) (w := w) (ok := ok) hu hs hi hz hzv h2 (.inl ⟨rfl, rfl⟩) (l := []) (E := #[]) trivial hf
      exact ⟨u, r_v h3, by rw [hvv]; exact h4⟩
    split at hv
    · rename_i hf; cases hv; exact key _ hf rfl
    · rename_i hf; cases hv; exact key _ hf rfl
    · cases hv
  · cases hv

theorem rd_look {ty kt et : TypeId} {i : TypeInfo} {zv : Value} {z : NV} {x k : Operand} {x' k' : Opd} {sh : EqS} {ok : Bool} {v : NV} {id : Nat} {g : Obj → Option NV} {ob : Obj} (ht : VRs G t a.tmps.toList) (hu : P.underlying ty = some (.map kt et)) (hs : eqShape P kt = some sh)
    (hi : P.info? et = some i) (hz : i.zero = some zv) (hzv : VR G z zv) (hx : oO x = some x') (hk : oO k = some k') (hv : nop t (.look sh z ok x' k') = .rd id g) (hob : ORel P G w id ob) (hg : g ob = some v) (ho : o.op = .lookup ty x k ok) :
    ValOk P G w (execOp a.eval o) v := by
  have h1 := oO_vr ht hx
  have h2 := oO_vr ht hk
  simp only [nop] at hv
  simp only [execOp, ho]
  generalize a.eval x = p at h1 ⊢
  split at hv
  · rename_i id' hb
    rw [hb] at h1
    cases hv
    unfold lookN at hg
    split at hg
    · rename_i es clk
      obtain ⟨b, x1, y1, E, l1, l2, l3, l4, l5⟩ := hob
      have hE : ERel G es E.toList := .of l3 l4 l5
      cases h1 with
      | mp hl =>
        rw [l1] at hl; cases hl
        have key : ∀ r, findN sh (getO t k') es = some r → v = lookRes z ok r → ValOk P G w (do pure (Next.value (← Instr.lookup ty (.map (some b)) (a.eval k) ok))) v := by
          intro r hf hvv
          obtain ⟨u, h3, h4⟩ := look_run (P := P) (w := w) (ok := ok) hu hs hi hz hzv h2 (.inr ⟨b, clk, rfl, l2⟩) hE hf
          exact ⟨u, r_v h3, by rw [hvv]; exact h4⟩
        split at hg
        · rename_i hf; cases hg; exact key _ hf rfl
        · rename_i hf; cases hg; exact key _ hf rfl
        · cases hg
    · cases hg
  · cases hx : lookN sh z ok (getO t k') (.map [] 0) <;> simp [hx, ofOpt] at hv
  · cases hv

theorem rd_len {ty kt et : TypeId} {x : Operand} {x' : Opd} {c : Call} {v : NV} {id : Nat} {g : Obj → Option NV} {ob : Obj} (ht : VRs G t a.tmps.toList) (hu : P.underlying ty = some (.map kt et)) (hx : oO x = some x')
    (ho : o.op = .call c) (hc : c.callee = .builtin .len) (hargs : c.args.toList = [x]) (hty : c.argTypes[0]? = some ty) (hv : nop t (.len 2 x') = .rd id g) (hob : ORel P G w id ob) (hg : g ob = some v) : ValOk P G w (execOp a.eval o) v := by
  have h1 := oO_vr ht hx
  simp only [nop] at hv
  split at hv
  · cases hv
  · rename_i id' hb
    rw [hb] at h1
    cases hv
    cases ob <;> simp only [reduceCtorEq] at hg
    rename_i es clk
    cases hg
    obtain ⟨b, x1, y1, E, l1, l2, l3, l4, l5⟩ := hob
    have hlen : es.length = E.size := by have := (ERel.of l3 l4 l5).length; simpa using this
    generalize hp : a.eval x = p at h1
    cases h1 with
    | mp hl =>
      rw [l1] at hl; cases hl
      refine ⟨goInt E.size, bi_run ho hc (fun cs => ?_), by rw [hlen]; exact .i _ _⟩
      rw [args1 hargs, hp]
      simp only [builtin]
      refine r_v ?_
      unfold Builtin.len_
      simp only [hty, List.getElem?_toArray, List.getElem?_cons_zero]
      rw [rb (r_under hu)]
      simp only
      rw [rb (run_getMap l2)]
      rfl
  · cases hv

/-- What each operation's asking comes to. -/
def NR.Ok (P : Program) (G : Gh) (M : Mem) (w : World) (s : Sem Next) : NR → Prop
  | .val v => ValOk P G w s v
  | .rd id g => ∀ ob v, M id = some ob → g ob = some v → ValOk P G w s v
  | .al ob mk => AlOk P G w s ob mk
  | .wr id g => ∀ ob ob' v, M id = some ob → g ob = some (ob', v) → WrOk P G w s id ob' v
  | .app _ sz _ x y => ∀ id' v M', G.loc id' = none → M id' = none → appN M id' sz x y = some (v, M') →
      ∃ u w' G', s.run P w = .ok (.value u) w' ∧ VR G' v u ∧ MRel P G' M' w' ∧ Adv G M w G' M' w' ∧ ∀ j, j ≠ id' → G'.loc j = G.loc j
  | .call f args => ∀ nf, prepF P f = some nf → ∃ args', s.run P w = .ok (.enter f ⟨args'⟩) w ∧ VRs G args args'
  | .yld id args => ∃ args', VRs G args args' ∧ ∀ b x y lp, G.loc id = some (b, x, y) → w.heap[b]? = some (.loop lp) → args.length = lp.params.size →
      s.run P w = .ok (.round b lp.fn ((lp.params.zip ⟨args'⟩).foldl (fun tmps (t, a) => tmps.setIfInBounds t a) lp.tmps) lp.assign lp.body) w
  | .bad => True

theorem prepF_inv {f : FuncId} {nf : NFun} (h : prepF P f = some nf) : ∃ fn c, P.funcs[f]? = some fn ∧ fn.body = some c ∧ prepC P c = some nf.body ∧ prepRes P fn.results.toList = some nf.res ∧ fn.name ≠ "runtime.NumGoroutine" ∧ nf.ntmps = fn.ntmps := by
  unfold prepF at h
  split at h
  · rename_i fn hfn
    split at h
    · rename_i c hc
      split at h
      · rename_i nc r h1 h2
        split at h
        · cases h
        · rename_i hn
          cases h
          exact ⟨fn, c, hfn, hc, h1, h2, hn, rfl⟩
      · cases h
    · cases h
  · cases h

theorem call_ok {f : Operand} {f' : Opd} {c : Call} {xs : List Opd} (ht : VRs G t a.tmps.toList) (hf : oO f = some f') (hx : oOs c.args.toList = some xs) (ho : o.op = .call c) (hc : c.callee = .value f) :
    NR.Ok P G M w (execOp a.eval o) (nop t (.call f' xs)) := by
  have h1 := oO_vr ht hf
  have h2 := oOs_vr ht hx
  have hargs : c.args.map a.eval = ⟨c.args.toList.map a.eval⟩ := by apply Array.ext'; simp
  simp only [nop, execOp, ho]
  generalize hp : a.eval f = p at h1
  split
  · rename_i g first cap hb
    rw [hb] at h1
    cases h1 with
    | fn hfi hca =>
      rename_i p' c'
      intro nf hnf
      obtain ⟨fn, cc, hfn, hbody, _, _, hname, _⟩ := prepF_inv hnf
      refine ⟨p' ++ c.args.toList.map a.eval ++ c', ?_, (hfi.append h2).append hca⟩
      have hres : (resolve a.eval c o.type).run P w = .ok { target := .fn (.func g) ⟨c'⟩, args := ⟨p'⟩ ++ c.args.map a.eval } w := by
        unfold resolve; simp only [hc, hp]; rfl
      rw [rb hres, hargs]
      simp only [invoke, callFunc]
      rw [rb (rfl : (program).run P w = .ok P w)]
      simp only [hfn]
      have hne : (fn.name == "runtime.NumGoroutine") = false := by simpa using hname
      rw [hne]
      simp only [Bool.false_eq_true, if_false, hbody, Option.isNone_some]
      have : ((⟨p'⟩ : Array Value) ++ ⟨c.args.toList.map a.eval⟩ ++ ⟨c'⟩) = ⟨p' ++ c.args.toList.map a.eval ++ c'⟩ := by apply Array.ext'; simp
      rw [this]; rfl
  · rename_i id hb
    rw [hb] at h1
    cases h1 with
    | yl hl =>
      rename_i b x y
      refine ⟨c.args.toList.map a.eval, h2, ?_⟩
      intro b' x' y' lp hl' hh hlen
      rw [hl] at hl'; cases hl'
      have hres : (resolve a.eval c o.type).run P w = .ok { target := .fn (.yield b) #[], args := #[] ++ c.args.map a.eval } w := by
        unfold resolve; simp only [hc, hp]; rfl
      rw [rb hres, hargs]
      simp only [invoke, Instr.yield]
      have hget : (Instr.getLoop b).run P w = .ok lp w := by
        unfold Instr.getLoop
        rw [rb (show (getObj b).run P w = .ok (.loop lp) w by unfold getObj; simp only [Sem.run, hh])]
        rfl
      rw [rb hget]
      have hs : (#[] ++ (⟨c.args.toList.map a.eval⟩ : Array Value)) = ⟨c.args.toList.map a.eval⟩ := by simp
      rw [hs]
      have hsz : ¬ ((⟨c.args.toList.map a.eval⟩ : Array Value).size ≠ lp.params.size) := by
        have := h2.length
        simp only [ne_eq, Decidable.not_not]
        rw [← hlen]
        show (c.args.toList.map a.eval).length = _
        rw [← this]
      rw [if_neg hsz]
      rfl
  · trivial

end
end Go.NL
