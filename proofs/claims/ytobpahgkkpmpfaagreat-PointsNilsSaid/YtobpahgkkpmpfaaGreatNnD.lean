/-
  The evaluator is sound: regions.
-/
import Derived.Test.YtobpahgkkpmpfaaGreatNnC
namespace Go.NL

abbrev YldE := Nat → List NV → T Obj → Nat → Option (NV × T Obj × Nat)

/-- What the evaluator knows of calls. -/
def CE (cf : CallE) (yf : YldE) : CR := fun c args M n v M' n' => ∃ m m' : T Obj, M = m.get ∧ M' = m'.get ∧ match c with
  | .f f => cf f args m n = some (v, m', n')
  | .y i => yf i args m n = some (v, m', n')

section
variable {cf : CallE} {yf : YldE}

theorem resE_ok {dst : Option Nat} {id : Nat} {e e' : E} {r : NR} (ho : e.ok) (h : resE cf yf dst id e r = some e') :
    resK (CE cf yf) dst id e.abs (fun s' => s' = e'.abs) r ∧ e'.ok ∧ e'.len = e.len := by
  cases r <;> simp only [resE] at h
  case val v =>
    cases h
    obtain ⟨h1, h2, h3⟩ := e.put_ok ho dst v
    exact ⟨h1.symm, h2, h3⟩
  case rd i g =>
    split at h
    · rename_i ob hm
      split at h
      · rename_i v hv
        cases h
        obtain ⟨h1, h2, h3⟩ := e.put_ok ho dst v
        exact ⟨⟨ob, v, hm, hv, h1.symm⟩, h2, h3⟩
      · cases h
    · cases h
  case al ob mk =>
    cases h
    obtain ⟨h1, h2, h3⟩ := (e.mem (e.m.set id (some ob))).put_ok ho dst (mk id)
    refine ⟨?_, h2, h3⟩
    simp only [resK]
    rw [h1]
    simp only [E.abs, E.mem, St.mem, set_upd]; rfl
  case wr i g =>
    split at h
    · rename_i ob hm
      split at h
      · rename_i ob' v hv
        cases h
        obtain ⟨h1, h2, h3⟩ := (e.mem (e.m.set i (some ob'))).put_ok ho dst v
        refine ⟨⟨ob, ob', v, hm, hv, ?_⟩, h2, h3⟩
        rw [h1]
        simp only [E.abs, E.mem, St.mem, set_upd]; rfl
      · cases h
    · cases h
  case app z sz b x y =>
    split at h
    · rename_i v m' hv
      cases h
      obtain ⟨h1, h2, h3⟩ := (e.mem m').put_ok ho dst v
      exact ⟨⟨v, m'.get, appT_ok hv, h1.symm⟩, h2, h3⟩
    · cases h
  case call f args =>
    split at h
    · rename_i v m' n' hv
      cases h
      obtain ⟨h1, h2, h3⟩ := E.put_ok (e := { e with m := m', n := n' }) ho dst v
      exact ⟨⟨v, m'.get, n', ⟨e.m, m', rfl, rfl, hv⟩, h1.symm⟩, h2, h3⟩
    · cases h
  case yld i args =>
    split at h
    · rename_i v m' n' hv
      cases h
      obtain ⟨h1, h2, h3⟩ := E.put_ok (e := { e with m := m', n := n' }) ho dst v
      exact ⟨⟨v, m'.get, n', ⟨e.m, m', rfl, rfl, hv⟩, h1.symm⟩, h2, h3⟩
    · cases h
  case bad => cases h

theorem nopE {e : E} (ho : e.ok) (op : NOp) : nopG e.g op = nop e.abs.t op := by
  rw [← nopG_eq]
  congr 1
  funext x
  exact (E.getO_tl ho x).symm

theorem opE_ok {o : NOper} {id : Nat} {e e' : E} (ho : e.ok) (h : opE cf yf o id e = some e') :
    opK (CE cf yf) o id e.abs (fun s' => s' = e'.abs) ∧ e'.ok ∧ e'.len = e.len := by
  unfold opE at h
  unfold opK
  rw [show wantedN e.abs.t o.guard = wantedE e o.guard from (wantedE_eq ho _).symm]
  split at h
  · rename_i hw
    rw [hw, if_pos rfl, ← nopE ho]
    exact resE_ok ho h
  · rename_i hw
    rw [hw]
    cases h
    obtain ⟨h1, h2, h3⟩ := e.put_ok ho o.dst .und
    exact ⟨h1.symm, h2, h3⟩

theorem opK_mono {C : CR} {o : NOper} {id : Nat} {s : St} {K K' : St → Prop} (h : opK C o id s K) (hk : ∀ s', K s' → K' s') : opK C o id s K' := by
  unfold opK at *
  split
  · rename_i hw; rw [if_pos hw] at h; exact resK_mono h hk
  · rename_i hw; rw [if_neg hw] at h; exact hk _ h

theorem opsE_ok : ∀ {ops : List NOper} {id : Nat} {e e' : E}, e.ok → opsE cf yf ops id e = some e' → runOps (CE cf yf) ops id e.abs (fun s' => s' = e'.abs) ∧ e'.ok ∧ e'.len = e.len
  | [], _, _, _, ho, h => by rw [opsE_nil] at h; cases h; exact ⟨rfl, ho, rfl⟩
  | o :: os, id, e, e', ho, h => by
    rw [opsE_cons] at h
    split at h
    · rename_i e1 h1
      obtain ⟨g1, g2, g3⟩ := opE_ok ho h1
      obtain ⟨g4, g5, g6⟩ := opsE_ok g2 h
      exact ⟨opK_mono g1 fun s' hs => by subst hs; exact g4, g5, g6.trans g3⟩
    · cases h

theorem memN_eq (i : Nat) (l : List Nat) : memN i l = l.contains i := by
  induction l with
  | nil => rfl
  | cons j l ih =>
    rw [memN_cons, List.contains_cons]
    split
    · rename_i h; have := Nat.eq_of_beq_eq_true h; subst this; simp
    · rename_i h
      rw [ih]
      have : (i == j) = false := by
        apply beq_eq_false_iff_ne.2
        intro e; subst e; rw [beq_t rfl] at h; cases h
      rw [this, Bool.false_or]

theorem setIf_get (m : T Obj) (k : Nat) (o : Option Obj) (j : Nat) : (setIf m k o).get j = if j = k then o else m.get j := by
  unfold setIf
  split
  · split
    · rename_i e; rw [e]; assumption
    · rfl
  · exact T.get_set m k _ j

theorem setAll_get {f : Nat → Option Obj} : ∀ {l : List Nat} {m : T Obj} (j : Nat), (setAll f l m).get j = if l.contains j then f j else m.get j
  | [], m, j => by simp only [List.contains_nil, Bool.false_eq_true, if_false]; rfl
  | k :: l, m, j => by
    rw [setAll_cons, setAll_get j, setIf_get]
    by_cases hl : l.contains j = true
    · rw [if_pos hl, if_pos (by simp only [List.contains_cons, hl, Bool.or_true])]
    · rw [if_neg hl]
      by_cases e : j = k
      · subst e; rw [if_pos rfl, if_pos (by simp)]
      · rw [if_neg e, if_neg]
        simp only [List.contains_cons, Bool.or_eq_true, beq_iff_eq, not_or]
        exact ⟨e, hl⟩

theorem logOk_ok {an : List Nat} {m : T Obj} : ∀ {l : List Ent}, logOk an m l = true → ∀ e ∈ l, ¬ e.i ∈ an → e.ok m.get
  | [], _, e, he, _ => by cases he
  | x :: l, h, e, he, hn => by
    simp only [logOk, Bool.and_eq_true] at h
    simp only [List.mem_cons] at he
    rcases he with rfl | he
    · have h1 := h.1
      rw [memN_eq] at h1
      split at h1
      · rename_i hc; exact absurd (List.contains_iff_mem.1 hc) hn
      · split at h1
        · rename_i ob hob
          split at h1
          · rename_i v hv
            have := nvEq_ok h1
            subst this
            exact ⟨ob, hob, hv⟩
          · cases h1
        · cases h1
    · exact logOk_ok h.2 e he hn

theorem contains_map_add {base k : Nat} {l : List Nat} : (l.map (base + ·)).contains k = (decide (base ≤ k) && l.contains (k - base)) := by
  rw [Bool.eq_iff_iff]
  simp only [List.contains_iff_mem, List.mem_map, Bool.and_eq_true, decide_eq_true_eq]
  constructor
  · rintro ⟨x, hx, rfl⟩
    rw [Nat.add_sub_cancel_left]
    exact ⟨by omega, hx⟩
  · rintro ⟨h1, h2⟩
    exact ⟨k - base, h2, by omega⟩

theorem stepE_ok {no : NOper} {i base : Nat} {p q : Nat → Bool} {pl ql an : List Nat} {log log' : List Ent} {e e' : E} (ho : e.ok) (hp : ∀ k, pl.contains k = p k) (hq : ∀ k, ql.contains k = q k)
    (h : stepE cf yf no i base pl ql an log e = some (log', e')) :
    stepD (CE cf yf) no i base p q an log e.abs (fun l s' => l = log' ∧ s' = e'.abs) ∧ e'.ok ∧ e'.len = e.len := by
  unfold stepE at h
  unfold stepD
  rw [show wantedN e.abs.t no.guard = wantedE e no.guard from (wantedE_eq ho _).symm, ← nopE ho]
  split at h
  · rename_i hw
    rw [hw]
    cases h
    obtain ⟨h1, h2, h3⟩ := e.put_ok ho no.dst .und
    exact ⟨⟨rfl, h1.symm⟩, h2, h3⟩
  · rename_i hw
    rw [hw, if_pos rfl]
    have eff : ∀ r, (match resE cf yf no.dst (base + i) (e.mem (setAll (fun _ => none) pl e.m)) r with
      | some e' =>
        let m' := setAll e.m.get pl (setAll (fun _ => none) ql e'.m)
        match logOk an m' log with
        | true => some (log, e'.mem m')
        | false => none
      | none => none) = some (log', e') → resK (CE cf yf) no.dst (base + i) (e.abs.mem (without p e.abs.m)) (fun s' => (∀ en ∈ log, ¬ en.i ∈ an → en.ok (mix p q s'.m e.abs.m)) ∧ log = log' ∧ s'.mem (mix p q s'.m e.abs.m) = e'.abs) r ∧ e'.ok ∧ e'.len = e.len := by
      intro r hr
      split at hr
      · rename_i e1 h1
        dsimp only at hr
        split at hr
        · rename_i hlog
          cases hr
          obtain ⟨g1, g2, g3⟩ := resE_ok (e := e.mem (setAll (fun _ => none) pl e.m)) ho h1
          have hmem : (e.mem (setAll (fun _ => none) pl e.m)).abs = e.abs.mem (without p e.abs.m) := by
            simp only [E.abs, E.mem, St.mem, St.mk.injEq, and_true]
            refine ⟨rfl, ?_⟩
            funext j
            rw [setAll_get, hp]; rfl
          rw [hmem] at g1
          refine ⟨resK_mono g1 fun s' hs => ?_, g2, g3⟩
          subst hs
          have hmix : (setAll e.m.get pl (setAll (fun _ => none) ql e1.m)).get = mix p q e1.abs.m e.abs.m := by
            funext j
            rw [setAll_get, setAll_get, hp, hq]; rfl
          refine ⟨fun en hen hn => ?_, rfl, ?_⟩
          · rw [← hmix]; exact logOk_ok hlog en hen hn
          · rw [← hmix]; rfl
        · cases hr
      · cases hr
    generalize hrr : nopG e.g no.op = r at h
    cases r <;> dsimp only at h ⊢
    case val v =>
      cases h
      obtain ⟨h1, h2, h3⟩ := e.put_ok ho no.dst v
      exact ⟨⟨rfl, h1.symm⟩, h2, h3⟩
    case rd j g =>
      split at h
      · cases h
      · rename_i hj
        rw [memN_eq, hp] at hj
        split at h
        · rename_i ob hob
          split at h
          · rename_i v hv
            cases h
            obtain ⟨h1, h2, h3⟩ := e.put_ok ho no.dst v
            exact ⟨⟨ob, v, by unfold without; rw [hj]; exact hob, hv, rfl, h1.symm⟩, h2, h3⟩
          · cases h
        · cases h
    case al ob mk =>
      cases h
      obtain ⟨h1, h2, h3⟩ := (e.mem (e.m.set (base + i) (some ob))).put_ok ho no.dst (mk (base + i))
      refine ⟨⟨rfl, ?_⟩, h2, h3⟩
      rw [h1]
      simp only [E.abs, E.mem, St.mem, set_upd]; rfl
    case bad => cases h
    all_goals exact eff _ h

theorem runE_ok {nops : List NOper} {anc : List (List Nat)} {base : Nat} : ∀ {order done left : List Nat} {listed : Array Bool} {log : List Ent} {e e' : E}, e.ok → (∀ j, listed.getD j false = done.contains j) → (∀ j, left.contains j = (decide (j < nops.length) && !listed.getD j true)) →
    listed.size = nops.length → runE cf yf nops anc base order done left log e = some e' → runD (CE cf yf) nops anc base order listed log e.abs (fun s' => s' = e'.abs) ∧ e'.ok ∧ e'.len = e.len
  | [], _, _, _, _, _, _, ho, _, _, _, h => by simp only [runE] at h; cases h; exact ⟨rfl, ho, rfl⟩
  | i :: is, done, left, listed, log, e, e', ho, hd, hl, hsz, h => by
    simp only [runE] at h
    split at h
    · cases h
    · rename_i no hno
      split at h
      · rename_i log1 e1 hst
        have hi : i < nops.length := (List.getElem?_eq_some_iff.1 hno).1
        have hleft : ∀ j, (left.filter fun j => !Nat.beq i j).contains j = (decide (j < nops.length) && !listed.getD j true && j != i) := fun j => by
          rw [Bool.eq_iff_iff, List.contains_iff_mem, List.mem_filter, ← List.contains_iff_mem, hl]
          simp only [Bool.and_eq_true, bne_iff_ne, ne_eq]
          constructor
          · rintro ⟨h1, h2⟩
            refine ⟨h1, fun e => ?_⟩
            subst e; rw [beq_t rfl] at h2; cases h2
          · rintro ⟨h1, h2⟩
            refine ⟨h1, ?_⟩
            rw [beq_f (Ne.symm h2)]; rfl
        have hP : ∀ k, ((minus done (anc.getD i [])).map (base + ·)).contains k = asideB base listed (anc.getD i []) k := fun k => by
          rw [contains_map_add]
          unfold asideB
          rw [hd (k - base), Bool.and_assoc]
          congr 1
          rw [Bool.eq_iff_iff, List.contains_iff_mem, minus, List.mem_filter, memN_eq, Bool.and_eq_true, List.contains_iff_mem]
        have hQ : ∀ k, ((left.filter fun j => !Nat.beq i j).map (base + ·)).contains k = laterB base nops.length listed i k := fun k => by
          rw [contains_map_add, hleft]
          unfold laterB
          rw [Bool.eq_iff_iff]
          simp only [Bool.and_eq_true, decide_eq_true_eq, bne_iff_ne, ne_eq, Bool.not_eq_true']
          constructor
          · rintro ⟨h1, ⟨h2, h3⟩, h4⟩; exact ⟨⟨⟨h1, by omega⟩, h3⟩, by omega⟩
          · rintro ⟨⟨⟨h1, h2⟩, h3⟩, h4⟩; exact ⟨h1, ⟨by omega, h3⟩, by omega⟩
        obtain ⟨g1, g2, g3⟩ := stepE_ok ho hP hQ hst
        obtain ⟨g4, g5, g6⟩ := runE_ok (listed := listed.setIfInBounds i true) g2 (fun j => by
            by_cases e1 : j = i
            · subst e1
              rw [Array.getD_eq_getD_getElem?]
              simp [hsz, hi]
            · rw [getD_set_ne false (Ne.symm e1), hd j]
              simp only [List.contains_cons, beq_eq_false_iff_ne.2 e1, Bool.false_or]) (fun j => by
            rw [hleft]
            by_cases e1 : j = i
            · subst e1
              have : (listed.setIfInBounds j true).getD j true = true := by
                rw [Array.getD_eq_getD_getElem?]
                simp [hsz, hi]
              rw [this]; simp
            · rw [getD_set_ne true (Ne.symm e1)]
              simp [e1]) (by simpa using hsz) h
        refine ⟨?_, g5, g6.trans g3⟩
        simp only [runD]
        unfold stepAt
        simp only [hno]
        exact stepD_mono g1 fun l s' hs => by obtain ⟨rfl, rfl⟩ := hs; exact g4
      · cases h

end
end Go.NL
