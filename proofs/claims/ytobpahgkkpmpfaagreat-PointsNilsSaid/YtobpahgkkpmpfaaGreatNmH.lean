/-
  A function's contract from its body; a round's.
-/
import Derived.Test.YtobpahgkkpmpfaaGreatNmG
namespace Go.NL

def setps : List Nat → List NV → List NV → List NV
  | p :: ps, a :: as', ts => setps ps as' (ts.set p a)
  | _, _, ts => ts

section
variable {P : Program} {C : CR} {G G' G0 : Gh} {M M' M0 : Mem} {w w' w0 : World} {s : St}

theorem results_run {a : Act} {fn : Func} {nr : List NRes} {vs : List NV} (hM : MRel P G s.m w) (ht : VRs G s.t a.tmps.toList) (hp : prepRes P fn.results.toList = some nr) (hr : resN s nr = some vs) :
    ∃ u, (results fn a.tmps).run P w = .ok u w ∧ VR G (packN vs) u := by
  obtain ⟨us, h1, h2⟩ := results_ok hM ht hp hr
  unfold results
  rw [Array.mapM_eq_mapM_toList]
  have h3 : ∀ {f : ResultVar → Sem Value} {g : Array Value → Sem Value} {x : Value}, (fn.results.toList.mapM f).run P w = .ok us w → (g us.toArray).run P w = .ok x w → ((List.toArray <$> fn.results.toList.mapM f) >>= g).run P w = .ok x w := fun hh hg => by
    rw [rb (v := us.toArray) (w' := w) (by rw [Sem.run_map, hh]; rfl)]; exact hg
  cases h2 with
  | nil => exact ⟨_, h3 h1 rfl, .tup .nil⟩
  | cons h t => cases t with
    | nil => exact ⟨_, h3 h1 rfl, h⟩
    | cons h' t' => exact ⟨_, h3 h1 rfl, .tup (.cons h (.cons h' t'))⟩

theorem put_ne {r b : Nat} {x : Go.Obj} (h : b ≠ r) : (w.putObj r x).heap[b]? = w.heap[b]? := World.putObj_heap_other h

theorem put_unowned {r : Nat} {ds : Option (List Deferred)} (h : MRel P G M w) (hr : w.heap[r]? = some (.deferred ds)) (hn : ∀ id o, M id = some o → G.blk id ≠ some r) (x : Go.Obj) : MRel P G M (w.putObj r x) := by
  refine ⟨fun id o hm => (h.obj id o hm).keep G.le_refl fun b hb => put_ne fun e => hn id o hm (by rw [hb, e]), h.inj, fun b o v hv => ?_, h.imd⟩
  have h1 := h.im b o v hv
  have hb : b ≠ r := fun e => by subst e; simp [World.cell?, hr] at h1
  unfold World.cell? at h1 ⊢
  rw [put_ne hb]; exact h1

theorem put_adv {r : Nat} {ds x : Option (List Deferred)} (h : Adv G0 M0 w0 G M w) (hr : w0.heap.size ≤ r) (hd : w.heap[r]? = some (.deferred ds)) : Adv G0 M0 w0 G M (w.putObj r (.deferred x)) :=
  ⟨h.le, by rw [World.putObj_size]; exact h.size, fun b hb hn => by rw [put_ne (by omega)]; exact h.heap b hb hn, h.own, h.im, h.tape, h.os, h.output⟩

theorem DR.put {lo r : Nat} {x : Go.Obj} : ∀ {ds : List Deferred}, DR lo G M w ds → (∀ d ∈ ds, d ≠ markD r) → DR lo G M (w.putObj r x) ds
  | [], _, _ => trivial
  | d :: ds, ⟨⟨r', h1, hl, h2, h3, h4⟩, h5⟩, hne => by
    refine ⟨⟨r', h1, hl, ?_, h3, h4⟩, h5.put fun d' hd => hne d' (by simp [hd])⟩
    rw [put_ne fun e => hne d (by simp) (by rw [h1, e])]; exact h2

/-- The marks are taken off. -/
theorem leaves_marks {fn : Func} {tmps : Array Value} {Q : Ending → World → Prop} {nr : List NRes} {vs : List NV} (hp : prepRes P fn.results.toList = some nr) (hr : resN s nr = some vs) (ht : VRs G s.t tmps.toList)
    (hQ : ∀ u w', VR G (packN vs) u → MRel P G s.m w' → Adv G0 M0 w0 G s.m w' → Q (.returned u) w') :
    ∀ (ds : List Deferred) (w : World), MRel P G s.m w → Adv G0 M0 w0 G s.m w → DR w0.heap.size G s.m w ds → LeavesInM (Fw none) 0 P fn tmps Q ds .returning w
  | [], w, hM, hA, hD => by
    obtain ⟨u, h1, h2⟩ := results_run (a := ⟨tmps, []⟩) hM ht hp hr
    exact ⟨u, h1, hQ u w h2 hM hA⟩
  | d :: ds, w, hM, hA, ⟨⟨r, h1, hl, h2, h3, h4⟩, h5⟩ =>
    ⟨by simp, .inl ⟨r, _, by rw [h1]; rfl, run_takeDeferred h2, leaves_marks hp hr ht hQ ds _ (put_unowned hM h2 h3 _) (put_adv hA hl h2) (h5.put h4)⟩⟩

theorem VRs.replicate {x : NV} {y : Value} (k : Nat) (h : VR G x y) : VRs G (List.replicate k x) (List.replicate k y) := by
  induction k with
  | zero => exact .nil
  | succ k ih => exact .cons h ih

/-- **A function, by its body.** -/
theorem callable_of_run {f : FuncId} {nf : NFun} {args : List NV} {n n' : Nat} {v : NV} (hnf : prepF P f = some nf)
    (h : RunN P none nf.body ⟨args ++ List.replicate (nf.ntmps - args.length) .und, M, n⟩ fun x s' => (x = .normal ∨ x = .ret) ∧ (∃ vs, resN s' nf.res = some vs ∧ packN vs = v) ∧ s'.m = M' ∧ s'.n = n') : Callable P f args M n v M' n' := by
  intro G w args' hfr hargs hM
  obtain ⟨fn, cc, hfn, hbody, hcc, hres, _, hnt⟩ := prepF_inv hnf
  refine (callsIn_wide (n := 0)).1 (callsIn_of_wp_marks hfn hbody trivial ?_)
  have hlen : args.length = args'.length := hargs.length
  have ht : VRs G (args ++ List.replicate (nf.ntmps - args.length) .und) ((⟨args'⟩ : Array Value) ++ Array.replicate (fn.ntmps - (⟨args'⟩ : Array Value).size) undef).toList := by
    rw [Array.toList_append]
    refine hargs.append ?_
    rw [Array.toList_replicate, hnt, hlen]
    exact VRs.replicate _ .und
  refine wpIn_mono (h cc hcc G _ w none w.heap.size rfl ⟨hfr, ht, hM, trivial, Nat.le_refl _⟩) fun e a' w' hp => ?_
  obtain ⟨x, s', G', hx, ⟨hk, ⟨vs, hvs, hv⟩, hm, hn⟩, hS', hA, hle, ho⟩ := hp
  have fin : LeavesInM (Fw none) 0 P fn a'.tmps (CPost P G M w n v M' n') a'.defers .returning w' := by
    refine leaves_marks (G0 := G) (M0 := M) (w0 := w) hres hvs hS'.t (fun u w2 hu hM2 hA2 => ?_) a'.defers w' hS'.m hA hS'.d
    subst hv hm hn
    exact ⟨G', u, rfl, hle, hS'.fresh, hu, hM2, hA2, ho⟩
  rcases hk with rfl | rfl <;> cases e <;> simp only [xR] at hx <;> exact fin

theorem setps_ok : ∀ {ps : List Nat} {args ts : List NV} {args' : List Value} {ts' : Array Value}, VRs G args args' → VRs G ts ts'.toList →
    VRs G (setps ps args ts) ((ps.zip args').foldl (fun tmps (t, a) => tmps.setIfInBounds t a) ts').toList
  | [], _, _, _, _, _, ht => by simpa [setps] using ht
  | p :: ps, _, _, _, _, .nil, ht => by simpa [setps] using ht
  | p :: ps, _, _, _, _, .cons h t, ht => by
    simp only [setps, List.zip_cons_cons, List.foldl_cons]
    refine setps_ok t ?_
    rw [Array.toList_setIfInBounds]
    exact ht.set p h

def endP (x : NX) : LoopState × Option Pend :=
  match x with
  | .normal => (.ready, none)
  | .ret => (.done, some .ret)
  | .exit i => (.done, some (.exit i))

/-- A loop's record is turned. -/
theorem loop_put {lo : Nat} {fr : Nat → Prop} {a : Act} {id b x y : Nat} {st st' : LoopState} {pe pe' : Option Pend} {ts : List NV} {ps : List Nat} {na nb : NCode} (hS : SR P lo fr G s a w) (hl : G.loc id = some (b, x, y)) (hm : s.m id = some (.loop st pe ts ps na nb)) :
    ∃ lp : Loop, w.heap[b]? = some (.loop lp) ∧ lp.state = st ∧ lp.params = ps.toArray ∧ pendR pe lp.pending ∧ VRs G ts lp.tmps.toList ∧ prepC P lp.assign = some na ∧ prepC P lp.body = some nb ∧
      ∀ pc, pendR pe' pc → MRel P G (upd s.m id (some (.loop st' pe' ts ps na nb))) (w.putObj b (.loop { lp with state := st', pending := pc })) ∧
        Adv G s.m w G (upd s.m id (some (.loop st' pe' ts ps na nb))) (w.putObj b (.loop { lp with state := st', pending := pc })) := by
  obtain ⟨b', x', y', pe1, fn, ts', as1, bo1, df, h1, h2, h3, h4, h5, h6⟩ := hS.m.obj _ _ hm
  rw [hl] at h1; cases h1
  refine ⟨_, h2, rfl, rfl, h3, h4, h5, h6, fun pc hpc => ?_⟩
  have hb : b < w.heap.size := (Array.getElem?_eq_some_iff.1 h2).1
  exact hS.m.write hm (show G.blk id = some b by simp [Gh.blk, hl]) ⟨b, x, y, _, _, _, _, _, _, hl, putW_heap_same hb, hpc, h4, h5, h6⟩

/-- **A round, by its body.** -/
theorem ycallable_of_run {id n n' : Nat} {args : List NV} {v : NV} {pe : Option Pend} {ts : List NV} {ps : List Nat} {na nb : NCode} (hm : M id = some (.loop .ready pe ts ps na nb)) (hlen : args.length = ps.length)
    (h : RunN P (some id) na ⟨setps ps args ts, M, n⟩ fun x s1 => x = .normal ∧ ∃ pe2 ts2 ps2 na2 nb2, s1.m id = some (.loop .ready pe2 ts2 ps2 na2 nb2) ∧
      RunN P (some id) nb (s1.mem (upd s1.m id (some (.loop .busy pe2 ts2 ps2 na2 nb2)))) fun x s2 => ∃ st3 pe3 ts3 ps3 na3 nb3, s2.m id = some (.loop st3 pe3 ts3 ps3 na3 nb3) ∧
        v = .b (x == .normal) ∧ M' = upd s2.m id (some (.loop (endP x).1 (endP x).2 ts3 ps3 na3 nb3)) ∧ n' = s2.n) : YCallable P id args M n v M' n' := by
  intro G w args' hfr hargs hM
  obtain ⟨b, x, y, pe1, fn, ts', as1, bo1, df, h1, h2, h3, h4, h5, h6⟩ := hM.obj _ _ hm
  refine ⟨b, x, y, _, h1, h2, by simpa using hlen, ?_⟩
  have hblk : G.blk id = some b := by simp [Gh.blk, h1]
  refine roundIn_of_wpIn (F := Fw none) trivial ?_
  have ht : VRs G (setps ps args ts) (setParams { state := .ready, pending := pe1, fn := fn, tmps := ts', params := ps.toArray, assign := as1, body := bo1, defers := df } args').toList := by
    have := setps_ok (ps := ps) hargs h4
    have he : setParams { state := .ready, pending := pe1, fn := fn, tmps := ts', params := ps.toArray, assign := as1, body := bo1, defers := df } args' = (ps.zip args').foldl (fun tmps (t, a) => tmps.setIfInBounds t a) ts' := by
      unfold setParams
      rw [← Array.foldl_toList, Array.toList_zip]
    rw [he]; exact this
  refine wpIn_mono (h as1 h5 G { tmps := _, defers := [] } w (some b) 0 ⟨b, rfl, hblk⟩ ⟨hfr, ht, hM, trivial, Nat.zero_le _⟩) fun e a1 w1 hp => ?_
  obtain ⟨x1, s1, G1, hx, ⟨rfl, pe2, ts2, ps2, na2, nb2, hm1, hrun⟩, hS1, hA1, hn1, ho1⟩ := hp
  cases e <;> simp only [xR] at hx
  have hl1 := hA1.le.loc _ _ h1
  obtain ⟨lp1, q1, q2, _, q4, q5, q6, q7, q8⟩ := loop_put (st' := .busy) (pe' := pe2) hS1 hl1 hm1
  refine ⟨_, run_beginRound q1 q2, ?_⟩
  obtain ⟨hMb, hAb⟩ := q8 lp1.pending q4
  have hbody : prepC P bo1 = some nb := h6
  refine wpIn_mono (hrun bo1 hbody G1 a1 _ (some b) 0 ⟨b, rfl, Gh.blk_mono hA1.le hblk⟩ ⟨hS1.fresh, hS1.t, hMb, hS1.d.keep hAb, Nat.zero_le _⟩) fun e a2 w2 hp => ?_
  obtain ⟨x2, s2, G2, hx2, ⟨st3, pe3, ts3, ps3, na3, nb3, hm2, hv, hM', hn'⟩, hS2, hA2, hn2, ho2⟩ := hp
  have hl2 := hA2.le.loc _ _ hl1
  have hAll := (hA1.trans hAb).trans hA2
  have fin : ∀ (jc : Option Code), pendR (endP x2).2 jc → jc.isNone = (x2 == .normal) → (if jc.isNone then LoopState.ready else .done) = (endP x2).1 → ∃ v' w', (Instr.endRound b jc).run P w2 = .ok v' w' ∧ CPost P G M w n v M' n' (.returned v') w' := by
    intro jc hj1 hj2 hj3
    obtain ⟨lp2, g1, g2, _, g4, g5, g6, g7, g8⟩ := loop_put (st' := (endP x2).1) (pe' := (endP x2).2) hS2 hl2 hm2
    obtain ⟨hMe, hAe⟩ := g8 jc hj1
    refine ⟨_, _, run_endRound jc g1, ?_⟩
    rw [hj3, hj2]
    subst hv hM' hn'
    refine ⟨G2, _, rfl, Nat.le_trans hn1 hn2, hS2.fresh, .b _, hMe, hAll.trans hAe, fun j hj => ?_⟩
    rw [ho2 j (by show j < s1.n; exact Nat.lt_of_lt_of_le hj hn1)]; exact ho1 j hj
  cases e <;> cases x2 <;> simp only [xR] at hx2
  · exact fin none trivial rfl rfl
  · subst hx2; exact fin (some (.exit _)) rfl rfl rfl
  · exact fin (some .ret) trivial rfl rfl

end
end Go.NL
