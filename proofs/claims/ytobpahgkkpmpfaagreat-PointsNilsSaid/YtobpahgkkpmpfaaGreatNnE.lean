/-
  The evaluator is sound.
-/
import Derived.Test.YtobpahgkkpmpfaaGreatNnD
namespace Go.NL

abbrev Prim := FuncId → List NV → T Obj → Nat → Option (Option (NV × T Obj × Nat))

def PrimOk (P : Program) (prim : Prim) : Prop := ∀ f args m n v m' n', prim f args m n = some (some (v, m', n')) → (∃ nf, prepF P f = some nf) ∧ Callable P f args m.get n v m'.get n'

def TabOk (P : Program) (tab : Tab) : Prop := ∀ f nf, tab f = some nf → prepF P f = some nf

def RecOk (P : Program) (rec : RecE) : Prop := ∀ ro c e x e', rec ro c e = some (x, e') → e.ok → RunN P ro c e.abs (fun x' s' => x' = x ∧ s' = e'.abs) ∧ e'.ok

theorem ofL_get : ∀ (l : List NV) (k : Nat) (t : T NV) (j : Nat), (ofL k l t).get j = if k ≤ j ∧ j < k + l.length then l[j - k]? else t.get j
  | [], k, t, j => by
    simp only [ofL, List.length_nil, Nat.add_zero]
    rw [if_neg (by omega)]
  | v :: l, k, t, j => by
    simp only [ofL, List.length_cons]
    rw [ofL_get l (k + 1), T.get_set]
    by_cases h1 : k + 1 ≤ j ∧ j < k + 1 + l.length
    · rw [if_pos h1, if_pos (by omega), show j - k = (j - (k + 1)) + 1 from by omega, List.getElem?_cons_succ]
    · rw [if_neg h1]
      by_cases h2 : j = k
      · subst h2; rw [if_pos rfl, if_pos (by omega), Nat.sub_self, List.getElem?_cons_zero]
      · rw [if_neg h2, if_neg (by omega)]

theorem ofL_ok {l : List NV} {len n : Nat} {m : T Obj} (h : l.length ≤ len) : (⟨ofL 0 l .e, len, m, n⟩ : E).ok ∧ (⟨ofL 0 l .e, len, m, n⟩ : E).abs = ⟨l ++ List.replicate (len - l.length) .und, m.get, n⟩ := by
  constructor
  · intro i hi
    simp only at hi ⊢
    rw [ofL_get, if_neg (by omega)]; rfl
  · simp only [E.abs, St.mk.injEq, and_true]
    apply List.ext_getElem?
    intro i
    rw [E.tl_get]
    simp only
    rw [ofL_get, List.getElem?_append]
    by_cases h1 : i < l.length
    · rw [if_pos (by omega), if_pos (by omega), if_pos h1, Nat.sub_zero, List.getElem?_eq_getElem h1]; rfl
    · rw [if_neg (show ¬ (0 ≤ i ∧ i < 0 + l.length) by omega), if_neg h1, List.getElem?_replicate]
      by_cases h2 : i < len
      · rw [if_pos h2, if_pos (by omega)]; rfl
      · rw [if_neg h2, if_neg (by omega)]

theorem setps_len : ∀ {ps : List Nat} {args ts : List NV}, (setps ps args ts).length = ts.length
  | [], _, _ => by simp [setps]
  | _ :: _, [], _ => by simp [setps]
  | p :: ps, a :: as', ts => by simp only [setps]; rw [setps_len]; simp

section
variable {P : Program} {tab : Tab} {prim : Prim} {rec : RecE}

theorem resV_ok {e : E} (ho : e.ok) : ∀ {l : List NRes} {r : List NV}, resV e l = some r → resN e.abs l = some r
  | [], _, h => h
  | .t k :: l, r, h => by
    simp only [resV] at h
    simp only [resN]
    split at h
    · rename_i r1 h1
      cases h
      rw [resV_ok ho h1]
      have : e.abs.t.getD k .und = e.g (.t k) := E.getO_tl ho (.t k)
      rw [this]
    · cases h
  | .c k agg sz :: l, r, h => by
    simp only [resV] at h
    simp only [resN]
    have hk : e.abs.t.getD k .und = e.g (.t k) := E.getO_tl ho (.t k)
    rw [hk]
    split at h
    · rename_i id off r1 h1 h2
      rw [h1, resV_ok ho h2]
      dsimp only
      split at h
      · rename_i ob hob
        have : e.abs.m id = some ob := hob
        rw [this]
        dsimp only
        split at h
        · rename_i v hv
          cases h
          rw [hv]
        · cases h
      · cases h
    · cases h

theorem callE_ok (htab : TabOk P tab) (hrec : RecOk P rec) (hprim : PrimOk P prim) {f : FuncId} {args : List NV} {m m' : T Obj} {n n' : Nat} {v : NV} (h : callE tab prim rec f args m n = some (v, m', n')) :
    (∃ nf, prepF P f = some nf) ∧ Callable P f args m.get n v m'.get n' := by
  unfold callE at h
  split at h
  · rename_i r hr
    subst h
    exact hprim _ _ _ _ _ _ _ hr
  · split at h
    · rename_i nf hnf
      have hnf := htab _ _ hnf
      have fin : ∀ x e, rec none nf.body ⟨ofL 0 args .e, args.length + (nf.ntmps - args.length), m, n⟩ = some (x, e) → (x = .normal ∨ x = .ret) → (match resV e nf.res with
        | some l => some (packN l, e.m, e.n)
        | none => none) = some (v, m', n') → (∃ nf, prepF P f = some nf) ∧ Callable P f args m.get n v m'.get n' := by
        intro x e he hx hr
        split at hr
        · rename_i l hl
          cases hr
          obtain ⟨h1, h2⟩ := ofL_ok (l := args) (len := args.length + (nf.ntmps - args.length)) (m := m) (n := n) (Nat.le_add_right _ _)
          obtain ⟨h3, h4⟩ := hrec _ _ _ _ _ he h1
          rw [h2, Nat.add_sub_cancel_left] at h3
          refine ⟨⟨nf, hnf⟩, callable_of_run hnf (h3.mono fun x' s' ⟨hx', hs'⟩ => ?_)⟩
          subst hx' hs'
          exact ⟨hx, ⟨l, resV_ok h4 hl, rfl⟩, rfl, rfl⟩
        · cases hr
      split at h
      · rename_i e he; exact fin _ e he (.inl rfl) h
      · rename_i e he; exact fin _ e he (.inr rfl) h
      · cases h
    · cases h

theorem yldE_ok (hrec : RecOk P rec) {id : Nat} {args : List NV} {m m' : T Obj} {n n' : Nat} {v : NV} (h : yldE rec id args m n = some (v, m', n')) : YCallable P id args m.get n v m'.get n' := by
  unfold yldE at h
  split at h
  · rename_i pe ts ps na nb hm
    split at h
    · rename_i hlen
      split at h
      · rename_i e1 he1
        split at h
        · rename_i pe2 ts2 ps2 na2 nb2 hm1
          split at h
          · rename_i x e2 he2
            obtain ⟨h1, h2⟩ := ofL_ok (l := setps ps args ts) (len := ts.length) (m := m) (n := n) (Nat.le_of_eq setps_len)
            obtain ⟨h3, h4⟩ := hrec _ _ _ _ _ he1 h1
            rw [h2, setps_len, Nat.sub_self, List.replicate_zero, List.append_nil] at h3
            obtain ⟨h5, h6⟩ := hrec _ _ _ _ _ he2 h4
            split at h
            · rename_i st3 pe3 ts3 ps3 na3 nb3 hm2
              have fin : ∀ v' m'', (v', m'') = (NV.b (x == .normal), e2.m.set id (some (.loop (endP x).1 (endP x).2 ts3 ps3 na3 nb3))) → v' = v → m'' = m' → e2.n = n' → YCallable P id args m.get n v m'.get n' := by
                intro v' m'' he hv hm' hn
                cases he
                subst hv hm' hn
                refine ycallable_of_run hm hlen (h3.mono fun x1 s1 ⟨hx1, hs1⟩ => ⟨hx1, pe2, ts2, ps2, na2, nb2, by rw [hs1]; exact hm1, ?_⟩)
                subst hs1
                have : e1.abs.mem (upd e1.abs.m id (some (.loop .busy pe2 ts2 ps2 na2 nb2))) = (e1.mem (e1.m.set id (some (.loop .busy pe2 ts2 ps2 na2 nb2)))).abs := by
                  simp only [E.abs, E.mem, St.mem, set_upd]; rfl
                rw [this]
                refine h5.mono fun x2 s2 ⟨hx2, hs2⟩ => ?_
                subst hx2 hs2
                exact ⟨st3, pe3, ts3, ps3, na3, nb3, hm2, rfl, by rw [set_upd]; rfl, rfl⟩
              split at h <;> (simp only [Option.some.injEq, Prod.mk.injEq] at h; exact fin _ _ rfl h.1 h.2.1 h.2.2)
            · cases h
          · cases h
        · cases h
      · cases h
    · cases h
  · cases h

theorem CE_ok (htab : TabOk P tab) (hrec : RecOk P rec) (hprim : PrimOk P prim) : CSound P (CE (callE tab prim rec) (yldE rec)) := by
  intro c args M n v M' n' h
  cases c with
  | f f =>
    obtain ⟨m, m', rfl, rfl, h⟩ := h
    exact callE_ok htab hrec hprim h
  | y i =>
    obtain ⟨m, m', rfl, rfl, h⟩ := h
    exact yldE_ok hrec h

theorem rangeFuncE_ok (htab : TabOk P tab) (hrec : RecOk P rec) (hprim : PrimOk P prim) {ro : Option Nat} {fo : Opd} {ps : List Nat} {as' bo : NCode} {e e' : E} {x : NX} (ho : e.ok) (h : rangeFuncE (callE tab prim rec) ro fo ps as' bo e = some (x, e')) :
    RunN P ro (.rangeF fo ps as' bo) e.abs (fun x' s' => x' = x ∧ s' = e'.abs) ∧ e'.ok := by
  unfold rangeFuncE at h
  split at h
  · cases h
  · rename_i hro
    have hro' : ∀ id, ro = some id → ∃ st pe ts ps na nb, e.abs.m id = some (.loop st pe ts ps na nb) := fun id hid => by
      subst hid
      dsimp only at hro
      split at hro
      · rename_i st pe ts ps na nb hm; exact ⟨st, pe, ts, ps, na, nb, hm⟩
      · cases hro
    split at h
    · rename_i f first cap hf
      split at h
      · rename_i v m' n' hc
        split at h
        · rename_i st pe ts2 ps2 na nb hm
          have hf' : getO e.abs.t fo = .fn f first cap := by rw [← hf]; exact E.getO_tl ho fo
          have hcall : CE (callE tab prim rec) (yldE rec) (.f f) (first ++ [.yl e.abs.n] ++ cap) (upd e.abs.m e.abs.n (some (.loop .ready none e.abs.t ps as' bo))) (e.abs.n + 1) v m'.get n' :=
            ⟨e.m.set e.n (some (.loop .ready none e.tl ps as' bo)), m', (set_upd _ _ _).symm, rfl, hc⟩
          have fin : st ≠ .busy → x = pendX pe → e' = { e with m := m'.set e.n none, n := n' } → RunN P ro (.rangeF fo ps as' bo) e.abs (fun x' s' => x' = x ∧ s' = e'.abs) ∧ e'.ok := by
            intro hst hx he
            subst hx he
            refine ⟨run_rangeF (CE_ok htab hrec hprim) hro' hf' hcall hm hst ⟨rfl, ?_⟩, ho⟩
            simp only [E.abs, set_upd]; rfl
          split at h
          · cases h
          · rename_i hst
            have hst' : st ≠ .busy := fun e => hst e
            split at h <;> (cases h; exact fin hst' rfl rfl)
        · cases h
      · cases h
    · cases h

theorem loopE_ok (hrec : RecOk P rec) {ro : Option Nat} {c : NCode} {k : Nat} {e e' : E} {x : NX} (ho : e.ok) (h : loopE (rec ro c) k e = some (x, e')) :
    RunN P ro (.loop c) e.abs (fun x' s' => x' = x ∧ s' = e'.abs) ∧ e'.ok := by
  have hok : ∀ (k : Nat) (e : E), e.ok → loopE (rec ro c) k e = some (x, e') → e'.ok := by
    intro k
    induction k with
    | zero => intro e _ h; cases h
    | succ k ih =>
      intro e ho h
      rw [loopE_succ] at h
      split at h
      · rename_i e1 h1; exact ih e1 (hrec _ _ _ _ _ h1 ho).2 h
      · exact (hrec _ _ _ _ _ h ho).2
  refine ⟨run_loop (fun k s => ∃ e, s = e.abs ∧ e.ok ∧ loopE (rec ro c) k e = some (x, e')) k ⟨e, rfl, ho, h⟩ ?_, hok k e ho h⟩
  rintro k s ⟨e, rfl, ho, h⟩
  cases k with
  | zero => cases h
  | succ k =>
    rw [loopE_succ] at h
    split at h
    · rename_i e1 h1
      obtain ⟨g1, g2⟩ := hrec _ _ _ _ _ h1 ho
      refine g1.mono fun x' s' ⟨hx, hs⟩ => ?_
      subst hx
      exact ⟨k, Nat.lt_succ_self k, e1, hs, g2, h⟩
    · rename_i hn
      obtain ⟨g1, g2⟩ := hrec _ _ _ _ _ h ho
      refine g1.mono fun x' s' ⟨hx, hs⟩ => ?_
      subst hx
      cases x' with
      | normal => exact absurd h (hn _)
      | exit i => exact ⟨rfl, hs⟩
      | ret => exact ⟨rfl, hs⟩

theorem evF_ok (htab : TabOk P tab) (hm : P.follows .mixedOrders = true) (hrec : RecOk P rec) (hprim : PrimOk P prim) {k : Nat} : RecOk P (evF tab prim k rec) := by
  intro ro c e x e' h ho
  have hC := CE_ok htab hrec hprim
  unfold evF at h
  split at h
  · cases h; exact ⟨run_skip ⟨rfl, rfl⟩, ho⟩
  · rename_i ops
    split at h
    · rename_i e1 h1
      cases h
      obtain ⟨g1, g2, g3⟩ := opsE_ok (e := { e with n := e.n + ops.length }) ho h1
      refine ⟨run_region hC ?_, g2⟩
      have : ∀ {ops : List NOper} {id : Nat} {s : St} {K K' : St → Prop}, (∀ s', K s' → K' s') → runOps (CE (callE tab prim rec) (yldE rec)) ops id s K → runOps (CE (callE tab prim rec) (yldE rec)) ops id s K' := by
        intro ops
        induction ops with
        | nil => intro id s K K' hk h; exact hk _ h
        | cons o os ih => intro id s K K' hk h; exact opK_mono h fun s' h' => ih hk h'
      exact this (fun s' hs => ⟨rfl, hs⟩) g1
    · cases h
  · rename_i ops d
    split at h
    · rename_i e1 h1
      cases h
      obtain ⟨g1, g2, g3⟩ := runE_ok (e := { e with n := e.n + ops.length }) (listed := Array.replicate ops.length false) ho (fun j => by
          rw [Array.getD_eq_getD_getElem?, Array.getElem?_replicate]
          split <;> simp) (fun j => by
          rw [Bool.eq_iff_iff, List.contains_iff_mem, List.mem_range]
          rw [Array.getD_eq_getD_getElem?, Array.getElem?_replicate]
          split <;> simp [*]) (by simp) h1
      refine ⟨run_draw hm hC fun _ => ?_, g2⟩
      have : ∀ {order : List Nat} {listed : Array Bool} {log : List Ent} {s : St} {K K' : St → Prop}, (∀ s', K s' → K' s') → runD (CE (callE tab prim rec) (yldE rec)) ops d.anc e.n order listed log s K → runD (CE (callE tab prim rec) (yldE rec)) ops d.anc e.n order listed log s K' := by
        intro order
        induction order with
        | nil => intro listed log s K K' hk h; exact hk _ h
        | cons o os ih => intro listed log s K K' hk h; exact stepAt_mono h fun l s' h' => ih hk h'
      exact this (fun s' hs => ⟨rfl, hs⟩) g1
    · cases h
  · rename_i a b
    split at h
    · rename_i e1 h1
      obtain ⟨g1, g2⟩ := hrec _ _ _ _ _ h1 ho
      obtain ⟨g3, g4⟩ := hrec _ _ _ _ _ h g2
      refine ⟨run_seq (g1.mono fun x' s' ⟨hx, hs⟩ => ?_), g4⟩
      subst hx hs
      exact g3
    · rename_i hn
      obtain ⟨g1, g2⟩ := hrec _ _ _ _ _ h ho
      refine ⟨run_seq (g1.mono fun x' s' ⟨hx, hs⟩ => ?_), g2⟩
      subst hx hs
      cases x' with
      | normal => exact absurd h (hn _)
      | exit i => exact ⟨rfl, rfl⟩
      | ret => exact ⟨rfl, rfl⟩
  · rename_i c a b
    split at h
    · rename_i hc
      obtain ⟨g1, g2⟩ := hrec _ _ _ _ _ h ho
      exact ⟨run_cond (b := true) (by rw [← hc]; exact E.getO_tl ho c) g1, g2⟩
    · rename_i hc
      obtain ⟨g1, g2⟩ := hrec _ _ _ _ _ h ho
      exact ⟨run_cond (b := false) (by rw [← hc]; exact E.getO_tl ho c) g1, g2⟩
    · cases h
  · rename_i id c
    split at h
    · rename_i j e1 h1
      obtain ⟨g1, g2⟩ := hrec _ _ _ _ _ h1 ho
      split at h
      · rename_i hj
        cases h
        have := Nat.eq_of_beq_eq_true hj
        subst this
        refine ⟨run_block (g1.mono fun x' s' ⟨hx, hs⟩ => ?_), g2⟩
        subst hx hs
        simp
      · rename_i hj
        cases h
        have hne : j ≠ id := fun e => by rw [beq_t e] at hj; cases hj
        refine ⟨run_block (g1.mono fun x' s' ⟨hx, hs⟩ => ?_), g2⟩
        subst hx hs
        simp [hne]
    · rename_i hn
      obtain ⟨g1, g2⟩ := hrec _ _ _ _ _ h ho
      refine ⟨run_block (g1.mono fun x' s' ⟨hx, hs⟩ => ?_), g2⟩
      subst hx hs
      cases x' with
      | exit i => exact absurd h (hn _ _)
      | normal => exact ⟨by simp, rfl⟩
      | ret => exact ⟨by simp, rfl⟩
  · exact loopE_ok hrec ho h
  · cases h; exact ⟨run_exit ⟨rfl, rfl⟩, ho⟩
  · cases h; exact ⟨run_ret ⟨rfl, rfl⟩, ho⟩
  · exact rangeFuncE_ok htab hrec hprim ho h

theorem ev_ok (htab : TabOk P tab) (hm : P.follows .mixedOrders = true) (hprim : PrimOk P prim) : ∀ f, RecOk P (ev tab prim f)
  | 0 => fun _ _ _ _ _ h => by cases h
  | f + 1 => evF_ok htab hm (ev_ok htab hm hprim f) hprim

/-- **What the evaluator shows of a call.** -/
theorem callable_of_ev (htab : TabOk P tab) (hm : P.follows .mixedOrders = true) (hprim : PrimOk P prim) {k : Nat} {f : FuncId} {args : List NV} {m m' : T Obj} {n n' : Nat} {v : NV} (h : callE tab prim (ev tab prim k) f args m n = some (v, m', n')) : Callable P f args m.get n v m'.get n' :=
  (callE_ok htab (ev_ok htab hm hprim k) hprim h).2

end
end Go.NL
