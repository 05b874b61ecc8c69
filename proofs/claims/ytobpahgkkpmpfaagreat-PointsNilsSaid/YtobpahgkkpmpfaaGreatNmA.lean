/-
  States of N; what an operation does to a state; regions that go in the order of the text.
-/
import Derived.Test.YtobpahgkkpmpfaaGreatNlZ
namespace Go.NL

structure St where
  t : List NV
  m : Mem
  n : Nat

def St.put (s : St) (d : Option Nat) (v : NV) : St :=
  match d with
  | none => s
  | some d => { s with t := s.t.set d v }

def St.mem (s : St) (m : Mem) : St := { s with m := m }

inductive Cal where
  | f (f : FuncId)
  | y (id : Nat)

/-- What is known of calls. -/
abbrev CR := Cal → List NV → Mem → Nat → NV → Mem → Nat → Prop

def wantedN (t : List NV) : Option (Nat × Bool) → Bool
  | none => true
  | some (d, want) => match t[d]? with
    | some (.b x) => x == want
    | _ => false

/-- What is asked of an operation. -/
def resK (C : CR) (dst : Option Nat) (id : Nat) (s : St) (K : St → Prop) : NR → Prop
  | .val v => K (s.put dst v)
  | .rd i g => ∃ ob v, s.m i = some ob ∧ g ob = some v ∧ K (s.put dst v)
  | .al ob mk => K ((s.mem (upd s.m id (some ob))).put dst (mk id))
  | .wr i g => ∃ ob ob' v, s.m i = some ob ∧ g ob = some (ob', v) ∧ K ((s.mem (upd s.m i (some ob'))).put dst v)
  | .app _ sz _ x y => ∃ v m', appN s.m id sz x y = some (v, m') ∧ K ((s.mem m').put dst v)
  | .call f args => ∃ v m' n', C (.f f) args s.m s.n v m' n' ∧ K (St.put { s with m := m', n := n' } dst v)
  | .yld i args => ∃ v m' n', C (.y i) args s.m s.n v m' n' ∧ K (St.put { s with m := m', n := n' } dst v)
  | .bad => False

def opK (C : CR) (o : NOper) (id : Nat) (s : St) (K : St → Prop) : Prop :=
  if wantedN s.t o.guard then resK C o.dst id s K (nop s.t o.op) else K (s.put o.dst .und)

def runOps (C : CR) : List NOper → Nat → St → (St → Prop) → Prop
  | [], _, s, K => K s
  | o :: os, id, s, K => opK C o id s fun s' => runOps C os (id + 1) s' K

def markD (r : Nat) : Deferred := { target := .collected r, args := #[] }

/-- The marks of a frame's loops over functions. -/
def DR (lo : Nat) (G : Gh) (M : Mem) (w : World) : List Deferred → Prop
  | [] => True
  | d :: ds => (∃ r, d = markD r ∧ lo ≤ r ∧ w.heap[r]? = some (.deferred (some [])) ∧ (∀ id o, M id = some o → G.blk id ≠ some r) ∧ ∀ d' ∈ ds, d' ≠ markD r) ∧ DR lo G M w ds

structure SR (P : Program) (lo : Nat) (fr : Nat → Prop) (G : Gh) (s : St) (a : Act) (w : World) : Prop where
  fresh : ∀ id, fr id → G.loc id = none
  t : VRs G s.t a.tmps.toList
  m : MRel P G s.m w
  d : DR lo G s.m w a.defers
  sz : lo ≤ w.heap.size

/-- A call's end. -/
def CPost (P : Program) (G : Gh) (M : Mem) (w : World) (n : Nat) (v : NV) (M' : Mem) (n' : Nat) (e : Ending) (w' : World) : Prop :=
  ∃ G' u, e = .returned u ∧ n ≤ n' ∧ (∀ id, n' ≤ id → G'.loc id = none) ∧ VR G' v u ∧ MRel P G' M' w' ∧ Adv G M w G' M' w' ∧ ∀ id, id < n → G'.loc id = G.loc id

def Callable (P : Program) (f : FuncId) (args : List NV) (M : Mem) (n : Nat) (v : NV) (M' : Mem) (n' : Nat) : Prop :=
  ∀ G w args', (∀ id, n ≤ id → G.loc id = none) → VRs G args args' → MRel P G M w → Calls P f ⟨args'⟩ w (CPost P G M w n v M' n')

/-- All activations' fences: none. -/
def Fw (ro : Option Nat) : Fence := { fn := fun _ => True, depth := none, alive := false, round := ro }

def setParams (lp : Loop) (args : List Value) : Array Value := (lp.params.zip ⟨args⟩).foldl (fun tmps (t, a) => tmps.setIfInBounds t a) lp.tmps

def YCallable (P : Program) (id : Nat) (args : List NV) (M : Mem) (n : Nat) (v : NV) (M' : Mem) (n' : Nat) : Prop :=
  ∀ G w args', (∀ id, n ≤ id → G.loc id = none) → VRs G args args' → MRel P G M w → ∃ b x y lp, G.loc id = some (b, x, y) ∧ w.heap[b]? = some (.loop lp) ∧ args.length = lp.params.size ∧
    RoundIn (Fw none) 0 P b lp.fn (setParams lp args') lp.assign lp.body w (CPost P G M w n v M' n')

/-- What is known of calls is so. -/
def CSound (P : Program) (C : CR) : Prop := ∀ c args M n v M' n', C c args M n v M' n' → match c with
  | .f f => (∃ nf, prepF P f = some nf) ∧ Callable P f args M n v M' n'
  | .y id => YCallable P id args M n v M' n'

section
variable {P : Program} {lo : Nat} {w w' : World} {G G' : Gh} {s s' : St} {a : Act} {fr : Nat → Prop}

theorem room_Fw (ro : Option Nat) (k : Nat) : (Fw ro).room k := fun _ h => by simp [Fw] at h

theorem SR.weak {fr' : Nat → Prop} (h : SR P lo fr G s a w) (hf : ∀ j, fr' j → fr j) : SR P lo fr' G s a w := ⟨fun id hi => h.fresh id (hf id hi), h.t, h.m, h.d, h.sz⟩

theorem SR.none (h : SR P lo fr G s a w) {id : Nat} (hi : fr id) : s.m id = none := by
  cases hm : s.m id with
  | none => rfl
  | some o =>
    obtain ⟨b, h1, _⟩ := (h.m.obj id o hm).blk
    simp [Gh.blk, h.fresh id hi] at h1

theorem DR.keep {M M' : Mem} : ∀ {ds : List Deferred}, DR lo G M w ds → Adv G M w G' M' w' → DR lo G' M' w' ds
  | [], _, _ => trivial
  | d :: ds, ⟨⟨r, h1, h1l, h2, h3, h4⟩, h5⟩, ha => by
    have hr : r < w.heap.size := (Array.getElem?_eq_some_iff.1 h2).1
    refine ⟨⟨r, h1, h1l, by rw [ha.heap r hr h3]; exact h2, fun id o hm hb => ?_, h4⟩, DR.keep h5 ha⟩
    obtain ⟨b, h6, h7⟩ := ha.own id o hm
    rw [hb] at h6; cases h6
    rcases h7 with h7 | ⟨j, oj, hj, hjb⟩
    · omega
    · exact h3 j oj hj hjb

theorem put_t {s : St} {d : Option Nat} {v : NV} {u : Value} (h : VRs G s.t a.tmps.toList) (hv : VR G v u) : VRs G (s.put d v).t (a.put d u).tmps.toList := by
  cases d with
  | none => exact h
  | some d => simp only [St.put, Act.put, Array.toList_setIfInBounds]; exact h.set d hv

theorem put_m {s : St} {d : Option Nat} {v : NV} : (s.put d v).m = s.m := by cases d <;> rfl
theorem put_n {s : St} {d : Option Nat} {v : NV} : (s.put d v).n = s.n := by cases d <;> rfl
theorem put_defers {a : Act} {d : Option Nat} {u : Value} : (a.put d u).defers = a.defers := by cases d <;> rfl

theorem wanted_eq {ops : Array Oper} {o : Oper} {no : NOper} (hp : prepOper P ops o = some no) (ht : VRs G s.t a.tmps.toList) : Region.wanted o (yielded ops a.tmps) = wantedN s.t no.guard := by
  unfold prepOper at hp
  split at hp
  · cases hp
  split at hp
  · rename_i hg
    cases hp
    simp [Region.wanted, hg, wantedN]
  · rename_i j want hg
    split at hp
    · rename_i oj hj
      split at hp
      · rename_i d hd
        cases hp
        simp only [Region.wanted, hg, wantedN, yielded, hj, Option.bind_some, hd]
        have hget : a.tmps[d]? = a.tmps.toList[d]? := by simp
        rw [hget]
        cases hx : s.t[d]? with
        | none =>
          have : a.tmps.toList[d]? = none := by
            rw [List.getElem?_eq_none_iff] at hx ⊢; rw [← ht.length]; exact hx
          rw [this]; rfl
        | some x =>
          obtain ⟨u, h1, h2⟩ := ht.get d x hx
          rw [h1]
          cases h2 <;> first | rfl | (cases want <;> rfl) | skip
          all_goals (rename_i bb; cases bb <;> cases want <;> rfl)
      · cases hp
    · cases hp

theorem prepOper_inv {ops : Array Oper} {o : Oper} {no : NOper} (hp : prepOper P ops o = some no) : prepOp P o.op = some no.op ∧ no.dst = o.dst := by
  unfold prepOper at hp
  split at hp
  · cases hp
  · rename_i op hop
    split at hp
    · cases hp; exact ⟨hop, rfl⟩
    · split at hp
      · split at hp
        · cases hp; exact ⟨hop, rfl⟩
        · cases hp
      · cases hp

theorem not_defer {o : Oper} {no : NOp} (hp : prepOp P o.op = some no) (ro : Option Nat) : o.semAt ro a.eval = execOp a.eval o := by
  unfold Oper.semAt
  split
  · rename_i h1 h2
    rw [h2] at hp
    simp [prepOp] at hp
  · rfl

theorem calls_in {ro : Option Nat} {n : Nat} {f : FuncId} {args : Array Value} {R : Ending → World → Prop} (h : Calls P f args w R) : CallsIn (Fw ro) n P f args w R :=
  (callsIn_wide (n := n)).2 h

end
end Go.NL
namespace Go.NL
section
variable {P : Program} {lo : Nat} {w w' : World} {G G' : Gh} {s s' : St} {a : Act} {fr : Nat → Prop}

/-- Behind one operation. -/
structure After (P : Program) (lo : Nat) (fr : Nat → Prop) (id : Nat) (G : Gh) (s : St) (a : Act) (w : World) (G' : Gh) (s' : St) (a' : Act) (w' : World) : Prop where
  sr : SR P lo (fun j => fr j ∧ j ≠ id ∧ (s.n ≤ j → s'.n ≤ j)) G' s' a' w'
  adv : Adv G s.m w G' s'.m w'
  n : s.n ≤ s'.n
  old : ∀ j, j ≠ id → j < s.n → G'.loc j = G.loc j
  df : ∃ d u, a' = a.put d u

theorem op_step {C : CR} {ops : Array Oper} {o : Oper} {no : NOper} {id : Nat} {K : St → Prop} {ro : Option Nat} {next : Act → World → Prop} {Q : Exit → Act → World → Prop} (hC : CSound P C) (hp : prepOper P ops o = some no) (hK : opK C no id s K)
    (hS : SR P lo fr G s a w) (hid : fr id) (hlt : id < s.n) (hfr : ∀ j, s.n ≤ j → fr j) (hN : ∀ s' G' a' w', K s' → After P lo fr id G s a w G' s' a' w' → next a' w') :
    if Region.wanted o (yielded ops a.tmps) then o.wpIn (Fw ro) 0 P a w next Q else (∀ f, o.about P w a.eval = some f → (Fw ro).fn f) ∧ next (a.put o.dst undef) w := by
  have habout : ∀ f, o.about P w a.eval = some f → (Fw ro).fn f := fun _ _ => trivial
  obtain ⟨hop, hdst⟩ := prepOper_inv hp
  have hun : ∀ {v : NV} {u : Value}, VR G v u → K (s.put no.dst v) → next (a.put o.dst u) w := fun {v u} hv hk => by
    refine hN _ G _ w hk ⟨⟨fun j hj => hS.fresh j hj.1, ?_, by rw [put_m]; exact hS.m, by rw [put_m, put_defers]; exact hS.d, hS.sz⟩, by rw [put_m]; exact Adv.refl hS.m, by rw [put_n]; exact Nat.le_refl _, fun _ _ _ => rfl, _, _, rfl⟩
    rw [hdst]; exact put_t hS.t hv
  have fin : ∀ {v : NV} {u : Value} {G' : Gh} {M' : Mem} {w' : World} {n' : Nat}, VR G' v u → MRel P G' M' w' → Adv G s.m w G' M' w' → s.n ≤ n' → (∀ j, n' ≤ j → G'.loc j = none) → (∀ j, j ≠ id → j < s.n → G'.loc j = G.loc j) →
      K (St.put { s with m := M', n := n' } no.dst v) → next (a.put o.dst u) w' := fun {v u G' M' w' n'} hv hM hA hn hf hold hk => by
    refine hN _ G' _ w' hk ⟨⟨fun j hj => ?_, ?_, by rw [put_m]; exact hM, by rw [put_m, put_defers]; exact hS.d.keep hA, Nat.le_trans hS.sz hA.size⟩, by rw [put_m]; exact hA, by rw [put_n]; exact hn, hold, _, _, rfl⟩
    · rw [put_n] at hj
      obtain ⟨h1, h2, h3⟩ := hj
      by_cases hj : s.n ≤ j
      · exact hf j (h3 hj)
      · rw [hold j h2 (by omega)]; exact hS.fresh j h1
    · rw [hdst]
      exact put_t (s := { s with m := M', n := n' }) (hS.t.mono hA.le) hv
  rw [wanted_eq hp hS.t]
  unfold opK at hK
  split at hK
  · rename_i hw
    rw [if_pos hw]
    refine ⟨habout, ?_⟩
    rw [not_defer hop]
    have hok := op_ok (w := w) (o := o) hS.m hS.t hop
    generalize nop s.t no.op = r at hK hok
    cases r with
    | val v =>
      obtain ⟨u, h1, h2⟩ := hok
      rw [h1]
      exact hun h2 hK
    | rd i g =>
      obtain ⟨ob, v, h1, h2, h3⟩ := hK
      obtain ⟨u, h4, h5⟩ := hok ob v h1 h2
      rw [h4]
      exact hun h5 h3
    | al ob mk =>
      obtain ⟨gob, u, h1, h2⟩ := hok
      rw [h1]
      have hl := hS.fresh id hid
      obtain ⟨h3, h4⟩ := h2 _ id (Gh.set_le hl) Gh.set_loc
      obtain ⟨h5, h6⟩ := hS.m.new (x := (w.heap.size, 0, osize ob)) rfl hl (hS.none hid) h4
      refine fin (n' := s.n) h3 h5 h6 (Nat.le_refl _) (fun j hj => ?_) (fun j hj _ => Gh.set_ne hj) hK
      by_cases e : j = id
      · subst e; omega
      · rw [Gh.set_ne e]; exact hS.fresh j (hfr j hj)
    | wr i g =>
      obtain ⟨ob, ob', v, h1, h2, h3⟩ := hK
      obtain ⟨b, gob, nx, h4, h5, h6, h7⟩ := hok ob ob' v h1 h2
      rw [h5]
      obtain ⟨h8, h9⟩ := hS.m.write h1 h4 h7
      rcases h6 with ⟨rfl, rfl⟩ | ⟨u, rfl, hv⟩
      · exact fin (n' := s.n) VR.und h8 h9 (Nat.le_refl _) (fun j hj => hS.fresh j (hfr j hj)) (fun _ _ _ => rfl) h3
      · exact fin (n' := s.n) hv h8 h9 (Nat.le_refl _) (fun j hj => hS.fresh j (hfr j hj)) (fun _ _ _ => rfl) h3
    | app z sz bytes x y =>
      obtain ⟨v, m', h1, h2⟩ := hK
      obtain ⟨u, w', G', h3, h4, h5, h6, h7⟩ := hok id v m' (hS.fresh id hid) (hS.none hid) h1
      rw [h3]
      refine fin (n' := s.n) h4 h5 h6 (Nat.le_refl _) (fun j hj => ?_) (fun j hj _ => h7 j hj) h2
      by_cases e : j = id
      · subst e; omega
      · rw [h7 j e]; exact hS.fresh j (hfr j hj)
    | call f args =>
      obtain ⟨v, m', n', h1, h2⟩ := hK
      obtain ⟨⟨nf, hnf⟩, hcall⟩ := hC _ _ _ _ _ _ _ h1
      obtain ⟨args', h3, h4⟩ := hok nf hnf
      rw [h3]
      refine ⟨fun h => by simp [Fw] at h, calls_in ((hcall G w args' (fun j hj => hS.fresh j (hfr j hj)) h4 hS.m).mono fun e w' hpost => ?_)⟩
      obtain ⟨G', u, rfl, h5, h6, h7, h8, h9, h10⟩ := hpost
      exact fin h7 h8 h9 h5 h6 (fun j _ hj => h10 j hj) h2
    | yld i args =>
      obtain ⟨v, m', n', h1, h2⟩ := hK
      have hy := hC _ _ _ _ _ _ _ h1
      obtain ⟨args', h3, h4⟩ := hok
      obtain ⟨b, x, y, lp, h5, h6, h7, h8⟩ := hy G w args' (fun j hj => hS.fresh j (hfr j hj)) h3 hS.m
      rw [h4 b x y lp h5 h6 h7]
      refine ⟨fun h => by simp [Fw] at h, RoundIn.mono (F := Fw none) h8 fun e w' hpost => ?_⟩
      obtain ⟨G', u, rfl, g5, g6, g7, g8, g9, g10⟩ := hpost
      exact fin g7 g8 g9 g5 g6 (fun j _ hj => g10 j hj) h2
    | bad => exact hK.elim
  · rename_i hw
    rw [if_neg hw]
    exact ⟨habout, hun VR.und hK⟩

end
end Go.NL
