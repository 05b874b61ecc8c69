/-
  Ranges over functions, rounds, functions.
-/
import Derived.Test.YtobpahgkkpmpfaaGreatNmE
import Derived.RangeFuncRecord
namespace Go.NL

def pendX : Option Pend → NX
  | none => .normal
  | some .ret => .ret
  | some (.exit i) => .exit i

section
variable {P : Program} {lo : Nat} {ro : Option Nat} {C : CR} {G G' : Gh} {M M' : Mem} {w w' : World} {s : St} {K : NX → St → Prop}

theorem pushW_new (w : World) (ob : Go.Obj) : (pushW w ob).heap[w.heap.size]? = some ob := by
  show (w.heap.push ob)[w.heap.size]? = some ob
  simp

theorem pushW_heap_lt {ob : Go.Obj} {b : Nat} (h : b < w.heap.size) : (pushW w ob).heap[b]? = w.heap[b]? := pushW_ne h

theorem push_ok (h : MRel P G M w) (ob : Go.Obj) (hob : ∀ c e f, ob ≠ .cells c e f) : MRel P G M (pushW w ob) ∧ Adv G M w G M (pushW w ob) := by
  refine ⟨⟨fun id o hm => ?_, h.inj, fun b o v hv => ?_, h.imd⟩, ⟨G.le_refl, by simp [pushW], fun b hb _ => pushW_ne hb, (Adv.refl h).own, fun _ _ _ h => .inl h, rfl, rfl, rfl⟩⟩
  · obtain ⟨b, h1, h2⟩ := (h.obj id o hm).blk
    exact (h.obj id o hm).keep G.le_refl fun b' hb' => by rw [h1] at hb'; cases hb'; exact pushW_ne h2
  · have h1 := h.im b o v hv
    have hb : b < w.heap.size := by
      rcases Nat.lt_or_ge b w.heap.size with hb | hb
      · exact hb
      · simp [World.cell?, Array.getElem?_eq_none hb] at h1
    unfold World.cell? at h1 ⊢
    rw [pushW_ne hb]; exact h1

theorem resolve_fn {a : Act} {g : Operand} {l : Nat} {f : FuncId} {p c : List Value} {fn : Func} {cc : Code} (hp : a.eval g = .func (.func f) ⟨p⟩ ⟨c⟩) (hfn : P.funcs[f]? = some fn) (hb : fn.body = some cc) (hname : fn.name ≠ "runtime.NumGoroutine") :
    ∃ d, (resolve a.eval (rangeCall g l) 0).run P w = .ok d w ∧ (invoke d.target d.args).run P w = .ok (.enter f ⟨p ++ [.func (.yield l) #[] #[]] ++ c⟩) w := by
  refine ⟨{ target := .fn (.func f) ⟨c⟩, args := ⟨p⟩ ++ #[.func (.yield l) #[] #[]] }, ?_, ?_⟩
  · unfold resolve; simp only [hp]; simp only [List.map_toArray, List.map_cons, List.map_nil]; rfl
  · simp only [invoke, callFunc]
    rw [rb (rfl : (program).run P w = .ok P w)]
    simp only [hfn]
    have hne : (fn.name == "runtime.NumGoroutine") = false := by simpa using hname
    rw [hne]
    simp only [Bool.false_eq_true, if_false, hb, Option.isNone_some]
    have : ((⟨p⟩ : Array Value) ++ #[.func (.yield l) #[] #[]] ++ ⟨c⟩) = ⟨p ++ [.func (.yield l) #[] #[]] ++ c⟩ := by apply Array.ext'; simp
    rw [this]; rfl

theorem run_rangeF {fo : Opd} {ps : List Nat} {as' bo' : NCode} {f : FuncId} {first cap : List NV} {v : NV} {M' : Mem} {n' : Nat} {st : LoopState} {pe : Option Pend} {ts : List NV} {ps2 : List Nat} {na nb : NCode}
    (hC : CSound P C) (hro : ∀ id, ro = some id → ∃ st pe ts ps na nb, s.m id = some (.loop st pe ts ps na nb)) (hf : getO s.t fo = .fn f first cap)
    (hcall : C (.f f) (first ++ [.yl s.n] ++ cap) (upd s.m s.n (some (.loop .ready none s.t ps as' bo'))) (s.n + 1) v M' n')
    (hl : M' s.n = some (.loop st pe ts ps2 na nb)) (hst : st ≠ .busy) (hk : K (pendX pe) ⟨s.t, upd M' s.n none, n'⟩) : RunN P ro (.rangeF fo ps as' bo') s K := run_of fun code hns hc G a w lr lo hlr hS => by
  cases code <;> simp only [prepC] at hc
  case rangeFunc g psA assign body =>
    split at hc
    · rename_i g' x y hg hx hy
      cases hc
      refine wpIn_rangeFunc fun fnid _ => ?_
      have hv := oO_vr hS.t hg
      rw [hf] at hv
      generalize hp : a.eval g = pv at hv
      cases hv with
      | fn hfi hca =>
      rename_i p' c'
      obtain ⟨⟨nf, hnf⟩, hcall⟩ := hC _ _ _ _ _ _ _ hcall
      obtain ⟨fn, cc, hfn, hbody, _, _, hname, _⟩ := prepF_inv hnf
      -- the record
      have hfresh : G.loc s.n = none := hS.fresh s.n (Nat.le_refl _)
      have recd : ∀ (l : Nat) (mark : List Deferred) (w0 : World) (df : Nat), l = w0.heap.size → MRel P G s.m w0 → Adv G s.m w G s.m w0 → DR lo G s.m w0 (mark ++ a.defers) →
          (∀ (lp : Loop), lp = { state := .ready, pending := none, fn := fnid, tmps := a.tmps, params := psA, assign := assign, body := body, defers := df } → 
            (Instr.enterLoop fnid a.tmps psA assign body (Fw lr).round).run P w = .ok (l, mark) (pushW w0 (.loop lp))) →
          ∃ (l : Nat) (mark : List Deferred) (w₁ : World) (d : Deferred) (w₁' : World) (f : FuncId) (args : Array Value) (w₂ : World),
            (Instr.enterLoop fnid a.tmps psA assign body (Fw lr).round).run P w = .ok (l, mark) w₁ ∧
            (resolve a.eval (rangeCall g l) 0).run P w₁ = .ok d w₁' ∧
            (∀ f', Target.leads P w₁' d.target d.args = some f' → (Fw lr).fn f') ∧
            (invoke d.target d.args).run P w₁' = .ok (.enter f args) w₂ ∧
            ((Fw lr).depth.isSome = true → 1 ≤ 0) ∧
            CallsIn (Fw lr) (0 - 1) P f args w₂ (rangePost (Fw lr) 0 P l (PostN P lo G s w K) { a with defers := mark ++ a.defers }) := by
        intro l mark w0 df hlw hM0 hA0 hD0 hent
        have hO : ORel P (G.set s.n (w0.heap.size, 0, 0)) (pushW w0 (.loop { state := .ready, pending := none, fn := fnid, tmps := a.tmps, params := psA, assign := assign, body := body, defers := df })) s.n (.loop .ready none s.t psA.toList as' bo') :=
          ⟨w0.heap.size, 0, 0, none, fnid, a.tmps, assign, body, df, Gh.set_loc, pushW_new _ _, trivial, hS.t.mono (Gh.set_le hfresh), hx, hy⟩
        obtain ⟨hM1, hA1⟩ := hM0.new (x := (w0.heap.size, 0, 0)) rfl hfresh (hS.none (Nat.le_refl _)) hO
        obtain ⟨d, hres, hinv⟩ := resolve_fn (w := pushW w0 (.loop { state := .ready, pending := none, fn := fnid, tmps := a.tmps, params := psA, assign := assign, body := body, defers := df })) (l := l) hp hfn hbody hname
        refine ⟨l, mark, _, d, _, f, _, _, hent _ rfl, hres, fun _ _ => trivial, hinv, fun h => by simp [Fw] at h, ?_⟩
        have hle := Gh.set_le (G := G) (x := (w0.heap.size, 0, 0)) hfresh
        have hargs : VRs (G.set s.n (w0.heap.size, 0, 0)) (first ++ [.yl s.n] ++ cap) (p' ++ [.func (.yield l) #[] #[]] ++ c') := by
          refine ((hfi.mono hle).append (.cons ?_ .nil)).append (hca.mono hle)
          rw [hlw]; exact .yl Gh.set_loc
        refine calls_in ((hcall _ _ _ (fun id hid => ?_) hargs hM1).mono fun e w3 hpost => ?_)
        · rw [Gh.set_ne (by omega)]; exact hS.fresh id (by show s.n ≤ id; omega)
        · obtain ⟨G3, u, rfl, h5, h6, h7, hM3, hA3, h10⟩ := hpost
          obtain ⟨b, x1, y1, pe', fn1, ts1, as1, bo1, df1, hloc, hheap, hpe, _⟩ := hM3.obj _ _ hl
          have hbl : b = l := by
            have := hA3.le.loc _ _ (Gh.set_loc (G := G) (id := s.n) (x := (w0.heap.size, 0, 0)))
            rw [hloc] at this; cases this; exact hlw.symm
          subst hbl
          have hend := run_endLoop (P := P) hheap hst
          refine ⟨_, _, hend, ?_⟩
          have hbS : b < w3.heap.size := (Array.getElem?_eq_some_iff.1 hheap).1
          have hO4 : ORel P G3 (putW w3 b (.loop { state := .exhausted, pending := pe', fn := fn1, tmps := ts1, params := ps2.toArray, assign := as1, body := bo1, defers := df1 })) s.n (.loop .exhausted pe ts ps2 na nb) := by
            obtain ⟨b', x2, y2, pe2, fn2, ts2, as2, bo2, df2, g1, g2, g3, g4, g5, g6⟩ := hM3.obj _ _ hl
            rw [hloc] at g1; cases g1
            rw [hheap] at g2
            simp only [Option.some.injEq, Go.Obj.loop.injEq, Loop.mk.injEq, true_and] at g2
            obtain ⟨rfl, rfl, rfl, rfl, rfl, rfl⟩ := g2
            exact ⟨b, x1, y1, _, _, _, _, _, _, hloc, putW_heap_same hbS, g3, g4, g5, g6⟩
          obtain ⟨hM4, hA4⟩ := hM3.write hl (show G3.blk s.n = some b by simp [Gh.blk, hloc]) hO4
          obtain ⟨hM5, hA5⟩ := hM4.del s.n
          have hupd : upd (upd M' s.n (some (.loop .exhausted pe ts ps2 na nb))) s.n none = upd M' s.n none := by
            funext j; simp only [upd]; split <;> rfl
          rw [hupd] at hM5 hA5
          have hAll := ((hA0.trans hA1).trans hA3).trans (hA4.trans hA5)
          have hD5 : DR lo G3 (upd M' s.n none) (putW w3 b (.loop { state := .exhausted, pending := pe', fn := fn1, tmps := ts1, params := ps2.toArray, assign := as1, body := bo1, defers := df1 })) (mark ++ a.defers) := ((hD0.keep hA1).keep hA3).keep (hA4.trans hA5)
          have hSR : SR P lo (fun j => n' ≤ j) G3 ⟨s.t, upd M' s.n none, n'⟩ { a with defers := mark ++ a.defers } (putW w3 b (.loop { state := .exhausted, pending := pe', fn := fn1, tmps := ts1, params := ps2.toArray, assign := as1, body := bo1, defers := df1 })) :=
            ⟨h6, hS.t.mono hAll.le, hM5, hD5, Nat.le_trans hS.sz hAll.size⟩
          have hpost : ∀ e, xR (pendX pe) e → PostN P lo G s w K e { a with defers := mark ++ a.defers } (putW w3 b (.loop { state := .exhausted, pending := pe', fn := fn1, tmps := ts1, params := ps2.toArray, assign := as1, body := bo1, defers := df1 })) := fun e he =>
            ⟨pendX pe, _, G3, he, hk, hSR, hAll, by show s.n ≤ n'; omega, fun j hj => by rw [h10 j (by omega), Gh.set_ne (by omega)]⟩
          cases pe with
          | none => cases pe' with
            | none => exact hpost .normal trivial
            | some c => exact hpe.elim
          | some pd => cases pd with
            | ret => cases pe' with
              | none => exact hpe.elim
              | some c => cases c <;> first | exact hpe.elim | exact wpIn_ret (hpost .ret trivial)
            | exit i => cases pe' with
              | none => exact hpe.elim
              | some c => cases c <;> first | exact hpe.elim | (cases hpe; exact wpIn_exit (hpost (.exit _) rfl))
      cases ro with
      | none =>
        cases hlr
        obtain ⟨hM0, hA0⟩ := push_ok hS.m (.deferred (some [])) (by simp)
        refine recd (w.heap.size + 1) [markD w.heap.size] (pushW w (.deferred (some []))) w.heap.size (by simp [pushW]) hM0 hA0 ⟨⟨_, rfl, hS.sz, pushW_new _ _, fun id o hm hb => ?_, fun d hd e => ?_⟩, hS.d.keep hA0⟩ ?_
        · obtain ⟨b, h1, h2⟩ := (hS.m.obj id o hm).blk
          rw [hb] at h1; cases h1; omega
        · have : ∀ {ds : List Deferred}, DR lo G s.m w ds → ∀ d ∈ ds, d ≠ markD w.heap.size := by
            intro ds
            induction ds with
            | nil => intro _ d hd; cases hd
            | cons x xs ih =>
              intro hD d hd
              obtain ⟨⟨r, h1, _, h2, _, _⟩, h5⟩ := hD
              simp only [List.mem_cons] at hd
              rcases hd with rfl | hd
              · rw [h1]
                intro e
                simp only [markD, Deferred.mk.injEq, Target.collected.injEq, and_true] at e
                have := (Array.getElem?_eq_some_iff.1 h2).1
                omega
              · exact ih h5 d hd
          exact this hS.d d hd e
        · intro lp hlp
          subst hlp
          exact run_enterLoop_outer ..
      | some id0 =>
        obtain ⟨b, rfl, hblk⟩ := hlr
        obtain ⟨st0, pe0, ts0, ps0, na0, nb0, hm0⟩ := hro id0 rfl
        obtain ⟨b', x0, y0, pe0', fn0, ts0', as0, bo0, df0, hl0, hh0, _⟩ := hS.m.obj _ _ hm0
        have : b' = b := by
          have : G.blk id0 = some b' := by simp [Gh.blk, hl0]
          rw [hblk] at this; cases this; rfl
        subst this
        refine recd w.heap.size [] w df0 rfl hS.m (Adv.refl hS.m) hS.d ?_
        intro lp hlp
        subst hlp
        show (Instr.enterLoop fnid a.tmps psA assign body (some b')).run P w = _
        unfold Instr.enterLoop
        simp only [Sem.run_bind, run_getLoop hh0, run_newObj_alloc, Result.andThen, Sem.run_pure]
        rfl
    · cases hc
  all_goals (first | (exact absurd rfl (hns _)) | (cases hc; done) | (simp at hc; done) | (repeat' (split at hc)) <;> (cases hc; done))

end
end Go.NL
