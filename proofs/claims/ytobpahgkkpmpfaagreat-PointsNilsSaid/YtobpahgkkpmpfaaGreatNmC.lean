/-
  Regions that draw their order: one order, walked with care, serves all.
-/
import Derived.Test.YtobpahgkkpmpfaaGreatNmB
namespace Go.NL

structure Ent where
  i : Nat
  id : Nat
  g : Obj → Option NV
  v : NV

def without (p : Nat → Bool) (m : Mem) : Mem := fun j => if p j then none else m j
def mix (p q : Nat → Bool) (m' m : Mem) : Mem := fun j => if p j then m j else if q j then none else m' j

/-- What has been made already, and need not have been. -/
def asideB (base : Nat) (listed : Array Bool) (anc : List Nat) (j : Nat) : Bool := decide (base ≤ j) && listed.getD (j - base) false && !anc.contains (j - base)
/-- What is still to be made, but for one. -/
def laterB (base size : Nat) (listed : Array Bool) (i : Nat) (j : Nat) : Bool := decide (base ≤ j) && decide (j < base + size) && !listed.getD (j - base) true && j != base + i

def Ent.ok (e : Ent) (m : Mem) : Prop := ∃ ob, m e.id = some ob ∧ e.g ob = some e.v

/-- One operation, in a region that draws. -/
def stepD (C : CR) (no : NOper) (i base : Nat) (p q : Nat → Bool) (anc : List Nat) (log : List Ent) (s : St) (K : List Ent → St → Prop) : Prop :=
  if wantedN s.t no.guard then
    match nop s.t no.op with
    | .val v => K log (s.put no.dst v)
    | .rd j g => ∃ ob v, without p s.m j = some ob ∧ g ob = some v ∧ K (⟨i, j, g, v⟩ :: log) (s.put no.dst v)
    | .al ob mk => K log ((s.mem (upd s.m (base + i) (some ob))).put no.dst (mk (base + i)))
    | .bad => False
    | r => resK C no.dst (base + i) (s.mem (without p s.m)) (fun s' => (∀ e ∈ log, ¬ e.i ∈ anc → e.ok (mix p q s'.m s.m)) ∧ K log (s'.mem (mix p q s'.m s.m))) r
  else K log (s.put no.dst .und)

section
variable {ops : Array Oper} {nops : List NOper} {anc : List (List Nat)} {base : Nat} {C : CR}

def stepAt (C : CR) (nops : List NOper) (anc : List (List Nat)) (base : Nat) (listed : Array Bool) (i : Nat) (log : List Ent) (s : St) (K : List Ent → St → Prop) : Prop :=
  match nops[i]? with
  | none => False
  | some no => stepD C no i base (asideB base listed (anc.getD i [])) (laterB base nops.length listed i) (anc.getD i []) log s K

def runD (C : CR) (nops : List NOper) (anc : List (List Nat)) (base : Nat) : List Nat → Array Bool → List Ent → St → (St → Prop) → Prop
  | [], _, _, s, K => K s
  | i :: is, listed, log, s, K => stepAt C nops anc base listed i log s fun log' s' => runD C nops anc base is (listed.setIfInBounds i true) log' s' K

def anyN (C : CR) (ops : Array Oper) (nops : List NOper) (anc : List (List Nat)) (base : Nat) : Nat → Array Bool → List Ent → St → (St → Prop) → Prop
  | 0, listed, _, s, K => Region.ready .any ops listed = [] ∧ K s
  | f + 1, listed, log, s, K => (Region.ready .any ops listed = [] → K s) ∧
      ∀ i ∈ Region.ready .any ops listed, stepAt C nops anc base listed i log s fun _ s' => anyN C ops nops anc base f (listed.setIfInBounds i true) log s' K

theorem resK_mono {dst : Option Nat} {id : Nat} {s : St} {K K' : St → Prop} {r : NR} (h : resK C dst id s K r) (hk : ∀ s', K s' → K' s') : resK C dst id s K' r := by
  cases r <;> simp only [resK] at h ⊢
  case val => exact hk _ h
  case rd => obtain ⟨ob, v, h1, h2, h3⟩ := h; exact ⟨ob, v, h1, h2, hk _ h3⟩
  case al => exact hk _ h
  case wr => obtain ⟨ob, ob', v, h1, h2, h3⟩ := h; exact ⟨ob, ob', v, h1, h2, hk _ h3⟩
  case app => obtain ⟨v, m', h1, h2⟩ := h; exact ⟨v, m', h1, hk _ h2⟩
  case call => obtain ⟨v, m', n', h1, h2⟩ := h; exact ⟨v, m', n', h1, hk _ h2⟩
  case yld => obtain ⟨v, m', n', h1, h2⟩ := h; exact ⟨v, m', n', h1, hk _ h2⟩

theorem stepD_mono {no : NOper} {i : Nat} {p q : Nat → Bool} {an : List Nat} {log : List Ent} {s : St} {K K' : List Ent → St → Prop} (h : stepD C no i base p q an log s K) (hk : ∀ l s', K l s' → K' l s') : stepD C no i base p q an log s K' := by
  unfold stepD at *
  split
  · rename_i hw
    rw [if_pos hw] at h
    cases hr : nop s.t no.op <;> simp only [hr] at h ⊢
    case val => exact hk _ _ h
    case rd => obtain ⟨ob, v, h1, h2, h3⟩ := h; exact ⟨ob, v, h1, h2, hk _ _ h3⟩
    case al => exact hk _ _ h
    all_goals exact resK_mono h fun s' h' => ⟨h'.1, hk _ _ h'.2⟩
  · rename_i hw
    rw [if_neg hw] at h
    exact hk _ _ h

theorem stepAt_mono {listed : Array Bool} {i : Nat} {log : List Ent} {s : St} {K K' : List Ent → St → Prop} (h : stepAt C nops anc base listed i log s K) (hk : ∀ l s', K l s' → K' l s') : stepAt C nops anc base listed i log s K' := by
  unfold stepAt at *
  split
  · rename_i hn; simp [hn] at h
  · rename_i no hn
    simp only [hn] at h
    exact stepD_mono h hk

/-- Fewer entries ask less. -/
theorem stepD_log {no : NOper} {i : Nat} {p q : Nat → Bool} {an : List Nat} {log log' : List Ent} {s : St} {K : St → Prop} (hl : ∀ e ∈ log, e ∈ log') (h : stepD C no i base p q an log' s fun _ => K) : stepD C no i base p q an log s fun _ => K := by
  unfold stepD at *
  split
  · rename_i hw
    rw [if_pos hw] at h
    cases hr : nop s.t no.op <;> simp only [hr] at h ⊢ <;> first
      | exact h
      | exact resK_mono h fun s' h' => ⟨fun e he => h'.1 e (hl e he), h'.2⟩
  · rename_i hw
    rw [if_neg hw] at h
    exact h

theorem anyN_log {K : St → Prop} : ∀ (f : Nat) (listed : Array Bool) (log log' : List Ent) (s : St), (∀ e ∈ log, e ∈ log') → anyN C ops nops anc base f listed log' s K → anyN C ops nops anc base f listed log s K
  | 0, _, _, _, _, _, h => h
  | f + 1, listed, log, log', s, hl, h => ⟨h.1, fun i hi => by
      have h1 := h.2 i hi
      unfold stepAt at *
      split
      · rename_i hn; simp [hn] at h1
      · rename_i no hn
        simp only [hn] at h1
        exact stepD_mono (stepD_log hl h1) fun _ s' h' => anyN_log f _ log log' s' hl h'⟩

/-- What an operation that writes nothing yields: a value, or an object made. -/
inductive YK where
  | one (x : NV)
  | made (ob : Obj) (mk : Nat → NV)

def YK.app (y : YK) (no : NOper) (id : Nat) (s : St) : St :=
  match y with
  | .one v => s.put no.dst v
  | .made ob mk => (s.mem (upd s.m id (some ob))).put no.dst (mk id)

/-- In this state operation i yields this (and reads that). -/
def Yi (no : NOper) (p : Nat → Bool) (s : St) (y : YK) (e : Option (Nat × (Obj → Option NV))) : Prop :=
  (wantedN s.t no.guard = false ∧ y = .one .und ∧ e = none) ∨
  (wantedN s.t no.guard = true ∧
    ((∃ v, nop s.t no.op = .val v ∧ y = .one v ∧ e = none) ∨
     (∃ j g ob v, nop s.t no.op = .rd j g ∧ without p s.m j = some ob ∧ g ob = some v ∧ y = .one v ∧ e = some (j, g)) ∨
     (∃ ob mk, nop s.t no.op = .al ob mk ∧ y = .made ob mk ∧ e = none)))

def entOf (i : Nat) (y : YK) : Option (Nat × (Obj → Option NV)) → List Ent → List Ent
  | some (j, g), log => (match y with | .one v => ⟨i, j, g, v⟩ :: log | _ => log)
  | none, log => log

theorem Yi.step {no : NOper} {i : Nat} {p q : Nat → Bool} {an : List Nat} {log : List Ent} {s : St} {y : YK} {e : Option (Nat × (Obj → Option NV))} {K : List Ent → St → Prop} (h : Yi no p s y e) (hK : K (entOf i y e log) (y.app no (base + i) s)) :
    stepD C no i base p q an log s K := by
  unfold stepD
  rcases h with ⟨hw, rfl, rfl⟩ | ⟨hw, h⟩
  · rw [if_neg (by simp [hw])]; exact hK
  · rw [if_pos hw]
    rcases h with ⟨v, hv, rfl, rfl⟩ | ⟨j, g, ob, v, hv, h1, h2, rfl, rfl⟩ | ⟨ob, mk, hv, rfl, rfl⟩
    · rw [hv]; exact hK
    · rw [hv]; exact ⟨ob, v, h1, h2, hK⟩
    · rw [hv]; exact hK

def NR.quiet : NR → Prop
  | .wr .. | .app .. | .call .. | .yld .. => False
  | _ => True

theorem ofOpt_quiet (x : Option NV) : (ofOpt x).quiet := by cases x <;> trivial

theorem quiet_of {t : List NV} {no : NOp} (he : no.eff = false) : (nop t no).quiet := by
  cases no <;> simp only [NOp.eff, reduceCtorEq] at he <;> (try exact ofOpt_quiet _)
  case len k x => rcases k with _ | _ | k <;> simp only [nop] <;> split <;> trivial
  all_goals (simp only [nop]; (repeat' split) <;> first | trivial | exact ofOpt_quiet _)

/-- What the walk shows of an operation that writes nothing. -/
theorem Yi.of {no : NOper} {i : Nat} {p q : Nat → Bool} {an : List Nat} {log : List Ent} {s : St} {K : List Ent → St → Prop} (he : no.op.eff = false) (h : stepD C no i base p q an log s K) :
    ∃ y e, Yi no p s y e ∧ K (entOf i y e log) (y.app no (base + i) s) := by
  unfold stepD at h
  split at h
  · rename_i hw
    cases hr : nop s.t no.op <;> simp only [hr] at h
    case val v => exact ⟨.one v, none, .inr ⟨hw, .inl ⟨v, hr, rfl, rfl⟩⟩, h⟩
    case rd j g => obtain ⟨ob, v, h1, h2, h3⟩ := h; exact ⟨.one v, some (j, g), .inr ⟨hw, .inr (.inl ⟨j, g, ob, v, hr, h1, h2, rfl, rfl⟩)⟩, h3⟩
    case al ob mk => exact ⟨.made ob mk, none, .inr ⟨hw, .inr (.inr ⟨ob, mk, hr, rfl, rfl⟩)⟩, h⟩
    all_goals (have hq := quiet_of (t := s.t) he; rw [hr] at hq; exact hq.elim)
  · rename_i hw
    exact ⟨.one .und, none, .inl ⟨by simpa using hw, rfl, rfl⟩, h⟩

theorem st_put_comm {s : St} {d e : Option Nat} {v u : NV} (h : ∀ x, d = some x → e ≠ some x) : (s.put d v).put e u = (s.put e u).put d v := by
  cases d <;> cases e <;> simp only [St.put]
  rename_i x y
  have : x ≠ y := fun e => h x rfl (by rw [e])
  rw [List.set_comm _ _ this]

theorem getO_set {t : List NV} {d : Nat} {v : NV} {y : Opd} (h : y ≠ .t d) : getO (t.set d v) y = getO t y := by
  cases y with
  | c x => rfl
  | t j =>
    have : d ≠ j := fun e => h (by rw [e])
    simp only [getO]
    rw [List.getD_eq_getElem?_getD, List.getD_eq_getElem?_getD, List.getElem?_set_ne this]

theorem reads_set {s : St} {no : NOper} {d : Option Nat} {v : NV} (h : ∀ x, d = some x → x ∉ no.reads) : nop (s.put d v).t no.op = nop s.t no.op ∧ wantedN (s.put d v).t no.guard = wantedN s.t no.guard := by
  cases d with
  | none => exact ⟨rfl, rfl⟩
  | some x =>
    have hx := h x rfl
    simp only [NOper.reads, List.mem_append, not_or] at hx
    refine ⟨nop_congr fun y hy => getO_set fun e => hx.1 ?_, ?_⟩
    · rw [List.mem_filterMap]; exact ⟨y, hy, by rw [e]⟩
    · cases hg : no.guard with
      | none => rfl
      | some g =>
        obtain ⟨d, w⟩ := g
        have hd : x ≠ d := fun e => hx.2 (by rw [hg, e]; simp)
        simp only [wantedN, St.put]
        rw [List.getElem?_set_ne hd]

theorem apartN_spec {x y : NOper} (h : apartN x y = true) : (∀ d, x.dst = some d → d ∉ y.reads) ∧ (∀ d, x.dst = some d → y.dst ≠ some d) ∧ (∀ d, y.dst = some d → d ∉ x.reads) := by
  refine ⟨fun d hd => ?_, fun d hd => ?_, fun d hd => ?_⟩ <;> simp [apartN, hd] at h
  · exact h.1.1
  · exact h.1.2
  · exact h.2

theorem resK_put {dst d : Option Nat} {id : Nat} {s : St} {v : NV} {K : St → Prop} {r : NR} (hd : ∀ x, d = some x → dst ≠ some x) (h : resK C dst id (s.put d v) K r) : resK C dst id s (fun s' => K (s'.put d v)) r := by
  have mem_put : ∀ (s : St) (m : Mem), (s.put d v).mem m = (s.mem m).put d v := fun s m => by cases d <;> rfl
  have nm_put : ∀ (s : St) (m : Mem) (n : Nat), ({ (s.put d v) with m := m, n := n } : St) = ({ s with m := m, n := n } : St).put d v := fun s m n => by cases d <;> rfl
  cases r <;> simp only [resK, put_m, put_n, mem_put] at h ⊢
  case val => rw [st_put_comm hd] at h; exact h
  case rd => obtain ⟨ob, u, h1, h2, h3⟩ := h; rw [st_put_comm hd] at h3; exact ⟨ob, u, h1, h2, h3⟩
  case al => rw [st_put_comm hd] at h; exact h
  case wr => obtain ⟨ob, ob', u, h1, h2, h3⟩ := h; rw [st_put_comm hd] at h3; exact ⟨ob, ob', u, h1, h2, h3⟩
  case app => obtain ⟨u, m', h1, h2⟩ := h; rw [st_put_comm hd] at h2; exact ⟨u, m', h1, h2⟩
  case call => obtain ⟨u, m', n', h1, h2⟩ := h; rw [nm_put, st_put_comm hd] at h2; exact ⟨u, m', n', h1, h2⟩
  case yld => obtain ⟨u, m', n', h1, h2⟩ := h; rw [nm_put, st_put_comm hd] at h2; exact ⟨u, m', n', h1, h2⟩

theorem resK_t {dst : Option Nat} {id : Nat} {s : St} {K : St → Prop} {r : NR} (h : resK C dst id s K r) : resK C dst id s (fun s' => (∃ u, s'.t = (s.put dst u).t) ∧ K s') r := by
  have tt : ∀ (m : Mem) (n : Nat) (u : NV), (St.put { s with m := m, n := n } dst u).t = (s.put dst u).t := fun m n u => by cases dst <;> rfl
  cases r <;> simp only [resK] at h ⊢
  case val v => exact ⟨⟨v, rfl⟩, h⟩
  case rd => obtain ⟨ob, v, h1, h2, h3⟩ := h; exact ⟨ob, v, h1, h2, ⟨v, rfl⟩, h3⟩
  case al ob mk => exact ⟨⟨mk id, tt _ s.n _⟩, h⟩
  case wr => obtain ⟨ob, ob', v, h1, h2, h3⟩ := h; exact ⟨ob, ob', v, h1, h2, ⟨v, tt _ s.n _⟩, h3⟩
  case app => obtain ⟨v, m', h1, h2⟩ := h; exact ⟨v, m', h1, ⟨v, tt _ s.n _⟩, h2⟩
  case call => obtain ⟨v, m', n', h1, h2⟩ := h; exact ⟨v, m', n', h1, ⟨v, tt _ _ _⟩, h2⟩
  case yld => obtain ⟨v, m', n', h1, h2⟩ := h; exact ⟨v, m', n', h1, ⟨v, tt _ _ _⟩, h2⟩

theorem mem_entOf {i : Nat} {y : YK} {e : Option (Nat × (Obj → Option NV))} {log : List Ent} {x : Ent} (h : x ∈ log) : x ∈ entOf i y e log := by
  cases e with
  | none => exact h
  | some jg => cases y <;> simp [entOf, h]

def YK.mm (y : YK) (id : Nat) (m : Mem) : Mem :=
  match y with
  | .one _ => m
  | .made ob _ => upd m id (some ob)

def YK.vv (y : YK) (id : Nat) : NV :=
  match y with
  | .one v => v
  | .made _ mk => mk id

theorem YK.app_eq (y : YK) (no : NOper) (id : Nat) (s : St) : y.app no id s = (s.mem (y.mm id s.m)).put no.dst (y.vv id) := by cases y <;> rfl

theorem YK.mm_ne (y : YK) {id j : Nat} {m : Mem} (h : j ≠ id) : y.mm id m j = m j := by
  cases y with
  | one v => rfl
  | made ob mk => exact upd_ne h

theorem YK.mm_upd (y : YK) {id k : Nat} {m : Mem} {o : Option Obj} (h : k ≠ id) : upd (y.mm id m) k o = y.mm id (upd m k o) := by
  cases y with
  | one v => rfl
  | made ob mk =>
    funext j
    simp only [YK.mm, upd]
    by_cases h1 : j = k
    · subst h1; rw [if_pos rfl, if_neg h, if_pos rfl]
    · rw [if_neg h1]
      split <;> rfl

theorem mem_put_comm {s : St} {m : Mem} {d e : Option Nat} {v u : NV} (h : ∀ x, d = some x → e ≠ some x) : ((s.mem m).put d v).put e u = ((s.put e u).mem m).put d v := by
  rw [st_put_comm h]
  cases e <;> rfl

/-- Operation k, apart from i: whether i has come before makes no difference to it, and it makes none to i. -/
theorem stepD_put {ni nk : NOper} {i k : Nat} {p q pH qH pi pi' : Nat → Bool} {an : List Nat} {log : List Ent} {s : St} {y : YK} {e : Option (Nat × (Obj → Option NV))} {KH : St → Prop}
    (hap : apartN ni nk = true) (hik : i ≠ k) (hian : i ∉ an) (hpH : ∀ j, pH j = (p j || j == base + i)) (hqH : ∀ j, j ≠ base + i → qH j = q j) (hq : q (base + i) = true) (hp : p (base + i) = false)
    (hpi : ∀ j, pi' j = true → pi j = true ∨ j = base + k) (hfi : s.m (base + i) = none) (hfk : s.m (base + k) = none) (hlog : ∀ e ∈ log, e.id ≠ base + i) (hY : Yi ni pi s y e)
    (h : stepD C nk k base pH qH an (entOf i y e log) (y.app ni (base + i) s) fun _ => KH) :
    stepD C nk k base p q an log s fun _ s' => Yi ni pi' s' y e ∧ KH (y.app ni (base + i) s') := by
  obtain ⟨a1, a2, a3⟩ := apartN_spec hap
  have hkeep : ∀ (s' : St), nop s'.t ni.op = nop s.t ni.op → wantedN s'.t ni.guard = wantedN s.t ni.guard → (∀ j g, e = some (j, g) → ∀ ob v, s.m j = some ob → pi j = false → g ob = some v → y = .one v → ∃ ob', s'.m j = some ob' ∧ g ob' = some v) → Yi ni pi' s' y e := by
    intro s' h1 h2 h3
    rcases hY with ⟨hw, rfl, rfl⟩ | ⟨hw, hY⟩
    · exact .inl ⟨by rw [h2]; exact hw, rfl, rfl⟩
    · refine .inr ⟨by rw [h2]; exact hw, ?_⟩
      rw [h1]
      rcases hY with hY | ⟨j, g, ob, v, hv, g1, g2, rfl, rfl⟩ | hY
      · exact .inl hY
      · have hpj : pi j = false ∧ s.m j = some ob := by
          unfold without at g1
          split at g1
          · cases g1
          · rename_i hh; exact ⟨by simpa using hh, g1⟩
        obtain ⟨ob', g3, g4⟩ := h3 j g rfl ob v hpj.2 hpj.1 g2 rfl
        refine .inr (.inl ⟨j, g, ob', v, hv, ?_, g4, rfl, rfl⟩)
        unfold without
        have : pi' j = false := by
          cases hh : pi' j with
          | false => rfl
          | true =>
            rcases hpi j hh with h5 | h5
            · rw [hpj.1] at h5; cases h5
            · rw [h5, hfk] at hpj; cases hpj.2
        rw [this]; exact g3
      · exact .inr (.inr hY)
  have hti : ∀ (s0 : St) (u : NV), s0.t = s.t → nop (s0.put nk.dst u).t ni.op = nop s.t ni.op ∧ wantedN (s0.put nk.dst u).t ni.guard = wantedN s.t ni.guard := fun s0 u h0 => by
    have := reads_set (s := s0) (no := ni) (d := nk.dst) (v := u) a3
    rw [h0] at this; exact this
  have same : ∀ (u : NV), KH ((y.app ni (base + i) s).put nk.dst u) → Yi ni pi' (s.put nk.dst u) y e ∧ KH (y.app ni (base + i) (s.put nk.dst u)) := fun u hk => by
    refine ⟨hkeep _ (hti s u rfl).1 (hti s u rfl).2 (fun j g he ob v h1 _ h3 _ => ⟨ob, by rw [put_m]; exact h1, h3⟩), ?_⟩
    rw [YK.app_eq, mem_put_comm a2] at hk
    rw [YK.app_eq, put_m]; exact hk
  obtain ⟨hn, hw⟩ := reads_set (s := s.mem (y.mm (base + i) s.m)) (no := nk) (d := ni.dst) (v := y.vv (base + i)) a1
  have hSm : (y.app ni (base + i) s).m = y.mm (base + i) s.m := by rw [YK.app_eq, put_m]; rfl
  have hSn : nop (y.app ni (base + i) s).t nk.op = nop s.t nk.op := by rw [YK.app_eq]; exact hn
  have hSw : wantedN (y.app ni (base + i) s).t nk.guard = wantedN s.t nk.guard := by rw [YK.app_eq]; exact hw
  have hbk : base + k ≠ base + i := by omega
  unfold stepD at h ⊢
  rw [hSn, hSw] at h
  split
  · rename_i hw
    rw [if_pos hw] at h
    -- what writes
    have effs : ∀ r, resK C nk.dst (base + k) ((y.app ni (base + i) s).mem (without pH (y.app ni (base + i) s).m)) (fun s' => (∀ e' ∈ entOf i y e log, ¬ e'.i ∈ an → e'.ok (mix pH qH s'.m (y.app ni (base + i) s).m)) ∧ KH (s'.mem (mix pH qH s'.m (y.app ni (base + i) s).m))) r →
        resK C nk.dst (base + k) (s.mem (without p s.m)) (fun s' => (∀ e' ∈ log, ¬ e'.i ∈ an → e'.ok (mix p q s'.m s.m)) ∧ Yi ni pi' (s'.mem (mix p q s'.m s.m)) y e ∧ KH (y.app ni (base + i) (s'.mem (mix p q s'.m s.m)))) r := by
      intro r hr
      rw [hSm] at hr
      have hwo : without pH (y.mm (base + i) s.m) = without p s.m := by
        funext j
        simp only [without, hpH]
        by_cases hj : j = base + i
        · subst hj; simp [hp, hfi]
        · simp only [beq_eq_false_iff_ne.2 hj, Bool.or_false, YK.mm_ne y hj]
      have hmix : ∀ m1 : Mem, mix pH qH m1 (y.mm (base + i) s.m) = y.mm (base + i) (mix p q m1 s.m) := by
        intro m1
        funext j
        by_cases hj : j = base + i
        · subst hj
          simp only [mix, hpH, beq_self_eq_true, Bool.or_true, if_true]
          cases y with
          | one v => simp only [YK.mm, mix, hp, hq, Bool.false_eq_true, if_false, if_true, hfi]
          | made ob mk => simp only [YK.mm, upd, if_true]
        · rw [YK.mm_ne y hj]
          simp only [mix, hpH, hqH j hj, beq_eq_false_iff_ne.2 hj, Bool.or_false, YK.mm_ne y hj]
      rw [hwo, YK.app_eq] at hr
      have e1 : (((s.mem (y.mm (base + i) s.m)).put ni.dst (y.vv (base + i))).mem (without p s.m)) = ((s.mem (without p s.m)).put ni.dst (y.vv (base + i))) := by cases ni.dst <;> rfl
      rw [e1] at hr
      refine resK_mono (resK_t (resK_put a2 hr)) fun s' ⟨⟨u, hu⟩, h1, h2⟩ => ?_
      rw [put_m, hmix] at h1
      have hst : s'.t = (s.put nk.dst u).t := by rw [hu]; cases nk.dst <;> rfl
      refine ⟨fun e' he' han => ?_, hkeep _ ?_ ?_ (fun j g he ob v g1 g2 g3 g4 => ?_), ?_⟩
      · obtain ⟨ob, g1, g2⟩ := h1 e' (mem_entOf he') han
        exact ⟨ob, by rw [YK.mm_ne y (hlog e' he')] at g1; exact g1, g2⟩
      · have := (hti s u rfl).1
        rw [← hst] at this; exact this
      · have := (hti s u rfl).2
        rw [← hst] at this; exact this
      · subst g4; subst he
        obtain ⟨ob', g5, g6⟩ := h1 ⟨i, j, g, v⟩ (by simp [entOf]) hian
        exact ⟨ob', g5, g6⟩
      · rw [put_m, hmix] at h2
        rw [YK.app_eq]
        have e2 : ((s'.put ni.dst (y.vv (base + i))).mem (y.mm (base + i) (mix p q s'.m s.m))) = (((s'.mem (mix p q s'.m s.m)).mem (y.mm (base + i) (s'.mem (mix p q s'.m s.m)).m)).put ni.dst (y.vv (base + i))) := by cases ni.dst <;> rfl
        rw [e2] at h2; exact h2
    generalize hrr : nop s.t nk.op = r at h
    cases r
    case val v => exact same v h
    case rd j g =>
      obtain ⟨ob, v, h1, h2, h3⟩ := h
      refine ⟨ob, v, ?_, h2, same v h3⟩
      rw [hSm] at h1
      unfold without at h1 ⊢
      split at h1
      · cases h1
      · rename_i hh
        rw [hpH] at hh
        simp only [Bool.or_eq_true, beq_iff_eq, not_or] at hh
        rw [if_neg (by simpa using hh.1)]
        rw [YK.mm_ne y hh.2] at h1; exact h1
    case al ob mk =>
      refine ⟨hkeep _ (hti (s.mem (upd s.m (base + k) (some ob))) (mk (base + k)) rfl).1 (hti (s.mem (upd s.m (base + k) (some ob))) (mk (base + k)) rfl).2 (fun j g he ob' v h1 _ h3 _ => ⟨ob', ?_, h3⟩), ?_⟩
      · rw [put_m]
        have : j ≠ base + k := fun e => by rw [e, hfk] at h1; cases h1
        show upd s.m (base + k) (some ob) j = some ob'
        rw [upd_ne this]; exact h1
      · rw [YK.app_eq, put_m]
        have h' : KH (((y.app ni (base + i) s).mem (upd (y.app ni (base + i) s).m (base + k) (some ob))).put nk.dst (mk (base + k))) := h
        rw [hSm, YK.mm_upd y hbk, YK.app_eq] at h'
        have e1 : (((s.mem (y.mm (base + i) s.m)).put ni.dst (y.vv (base + i))).mem (y.mm (base + i) (upd s.m (base + k) (some ob)))) = ((s.mem (y.mm (base + i) (upd s.m (base + k) (some ob)))).put ni.dst (y.vv (base + i))) := by cases ni.dst <;> rfl
        rw [e1, mem_put_comm a2] at h'
        have e2 : (((s.mem (upd s.m (base + k) (some ob))).put nk.dst (mk (base + k))).mem (y.mm (base + i) (s.mem (upd s.m (base + k) (some ob))).m)) = ((s.put nk.dst (mk (base + k))).mem (y.mm (base + i) (upd s.m (base + k) (some ob)))) := by cases nk.dst <;> rfl
        rw [e2]; exact h'
    case bad => exact h.elim
    all_goals exact effs _ h
  · rename_i hw
    rw [if_neg hw] at h
    exact same _ h

end
end Go.NL
