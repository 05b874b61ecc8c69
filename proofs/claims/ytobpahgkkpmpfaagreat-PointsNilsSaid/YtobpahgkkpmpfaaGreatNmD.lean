/-
  Regions that draw their order: all orders.
-/
import Derived.Test.YtobpahgkkpmpfaaGreatNmC
namespace Go.NL

section
variable {P : Program} {ro : Option Nat} {ops : Array Oper} {nops : List NOper} {anc : List (List Nat)} {base : Nat} {C : CR}

def Fr0 (ops : Array Oper) (base : Nat) (listed : Array Bool) (m : Mem) : Prop := ∀ j, j < ops.size → listed.getD j true = false → m (base + j) = none
def LogOk (ops : Array Oper) (base : Nat) (listed : Array Bool) (log : List Ent) : Prop := ∀ e ∈ log, ∀ j, j < ops.size → listed.getD j true = false → e.id ≠ base + j
def DC (ops : Array Oper) (listed : Array Bool) : Prop := ∀ j, listed.getD j false = true → ∀ o, ops[j]? = some o → ∀ e ∈ o.after, Region.binds .any e = true → listed.getD e.on false = true

theorem getD_false_of {l : Array Bool} {j : Nat} (h : l.getD j true = false) : l.getD j false = false := by
  rcases Nat.lt_or_ge j l.size with hj | hj
  · simp [hj] at h ⊢; exact h
  · simp [Array.getElem?_eq_none hj] at h

theorem unlisted_set {l : Array Bool} {j k : Nat} (h : (l.setIfInBounds k true).getD j true = false) : j ≠ k ∧ l.getD j true = false := by
  have hne : j ≠ k := fun e => by
    subst e
    rcases Nat.lt_or_ge j l.size with hj | hj
    · simp [hj] at h
    · simp at h
  exact ⟨hne, by rw [← getD_set_ne true (Ne.symm hne)]; exact h⟩

theorem set_getD_false {l : Array Bool} {j k : Nat} (h : (l.setIfInBounds k true).getD j false = true) : j = k ∨ l.getD j false = true := by
  by_cases e : j = k
  · exact .inl e
  · exact .inr (by rw [← getD_set_ne false (Ne.symm e)]; exact h)

theorem DC.set {listed : Array Bool} {k : Nat} (h : DC ops listed) (hk : k ∈ Region.ready .any ops listed) : DC ops (listed.setIfInBounds k true) := by
  intro j hj o ho e he hb
  rcases set_getD_false hj with rfl | hj
  · obtain ⟨_, o', ho', hall⟩ := mem_ready.1 hk
    rw [ho] at ho'; cases ho'
    exact getD_set_true (hall e he hb)
  · exact getD_set_true (h j hj o ho e he hb)

/-- What is surely ahead of an operation that may come up has come. -/
theorem anc_listed {listed : Array Bool} {k : Nat} {l : List Nat} (ha : ancOk ops k l = true) (hd : DC ops listed) (hk : k ∈ Region.ready .any ops listed) : ∀ x ∈ l, listed.getD x false = true := by
  have hdir : ∀ j x, (direct ops j).contains x = true → ∃ o, ops[j]? = some o ∧ ∃ e ∈ o.after, Region.binds .any e = true ∧ e.on = x := by
    intro j x h
    unfold direct at h
    split at h
    · rename_i o ho
      simp only [List.contains_iff_mem, List.mem_map, List.mem_filter] at h
      obtain ⟨e, ⟨h1, h2⟩, h3⟩ := h
      exact ⟨o, ho, e, Array.mem_toList_iff.1 h1, h2, h3⟩
    · simp at h
  obtain ⟨B, hB⟩ : ∃ B, ∀ j ∈ k :: l, j ≤ B := by
    generalize k :: l = L
    induction L with
    | nil => exact ⟨0, by simp⟩
    | cons a L ih =>
      obtain ⟨B, hB⟩ := ih
      exact ⟨max a B, fun j hj => by
        simp only [List.mem_cons] at hj
        rcases hj with rfl | hj
        · omega
        · have := hB j hj; omega⟩
  have key : ∀ n x, x ∈ l → B - x ≤ n → listed.getD x false = true := by
    intro n
    induction n with
    | zero =>
      intro x hx hn
      simp only [ancOk, List.all_eq_true, List.any_eq_true, Bool.and_eq_true, decide_eq_true_eq] at ha
      obtain ⟨j, hj, hlt, _⟩ := ha x hx
      have := hB j hj
      omega
    | succ n ih =>
      intro x hx hn
      have ha' := ha
      simp only [ancOk, List.all_eq_true, List.any_eq_true, Bool.and_eq_true, decide_eq_true_eq] at ha'
      obtain ⟨j, hj, hlt, hdj⟩ := ha' x hx
      obtain ⟨o, ho, e, he, hb, rfl⟩ := hdir j x hdj
      simp only [List.mem_cons] at hj
      rcases hj with rfl | hj
      · obtain ⟨_, o', ho', hall⟩ := mem_ready.1 hk
        rw [ho] at ho'; cases ho'
        exact hall e he hb
      · exact hd j (ih j hj (by omega)) o ho e he hb
  exact fun x hx => key _ x hx (Nat.le_refl _)

/-- What each step keeps. -/
theorem stepAt_keeps {listed : Array Bool} {k : Nat} {log : List Ent} {s : St} {K : List Ent → St → Prop} (hlen : nops.length = ops.size) (hF : Fr0 ops base listed s.m) (hL : LogOk ops base listed log) (h : stepAt C nops anc base listed k log s K) :
    stepAt C nops anc base listed k log s fun l s' => (∀ e ∈ log, e ∈ l) ∧ LogOk ops base (listed.setIfInBounds k true) l ∧ Fr0 ops base (listed.setIfInBounds k true) s'.m ∧ K l s' := by
  unfold stepAt at *
  split
  · rename_i hn; simp [hn] at h
  · rename_i no hn
    simp only [hn] at h
    have hL' : LogOk ops base (listed.setIfInBounds k true) log := fun e he j hj hu => hL e he j hj (unlisted_set hu).2
    have hF' : ∀ m : Mem, (∀ j, j ≠ base + k → m j = s.m j) → Fr0 ops base (listed.setIfInBounds k true) m := fun m hm j hj hu => by
      obtain ⟨h1, h2⟩ := unlisted_set hu
      rw [hm _ (by omega)]; exact hF j hj h2
    have hFm : ∀ m1 : Mem, Fr0 ops base (listed.setIfInBounds k true) (mix (asideB base listed (anc.getD k [])) (laterB base nops.length listed k) m1 s.m) := fun m1 j hj hu => by
      obtain ⟨h1, h2⟩ := unlisted_set hu
      have hp : asideB base listed (anc.getD k []) (base + j) = false := by
        unfold asideB; rw [Nat.add_sub_cancel_left, getD_false_of h2]; simp
      have hq : laterB base nops.length listed k (base + j) = true := by
        unfold laterB; rw [Nat.add_sub_cancel_left, h2, hlen]
        simp only [Nat.le_add_right, decide_true, Bool.not_false, Bool.true_and, Bool.and_eq_true, decide_eq_true_eq, bne_iff_ne, ne_eq, Bool.and_true]
        omega
      simp only [mix, hp, hq, Bool.false_eq_true, if_false, if_true]
    unfold stepD at *
    split
    · rename_i hw
      rw [if_pos hw] at h
      generalize hr : nop s.t no.op = r at h
      cases r
      case val v => exact ⟨fun _ h => h, hL', by rw [put_m]; exact hF' _ (fun _ _ => rfl), h⟩
      case rd j g =>
        obtain ⟨ob, v, h1, h2, h3⟩ := h
        refine ⟨ob, v, h1, h2, fun _ h => by simp [h], fun e he x hx hu => ?_, by rw [put_m]; exact hF' _ (fun _ _ => rfl), h3⟩
        simp only [List.mem_cons] at he
        rcases he with rfl | he
        · intro e
          have := hF x hx (unlisted_set hu).2
          simp only at e
          unfold without at h1
          rw [e, this] at h1
          split at h1 <;> cases h1
        · exact hL' e he x hx hu
      case al ob mk => exact ⟨fun _ h => h, hL', by rw [put_m]; exact hF' _ (fun j hj => upd_ne hj), h⟩
      case bad => exact h.elim
      all_goals exact resK_mono h fun s' h' => ⟨h'.1, fun _ h => h, hL', hFm _, h'.2⟩
    · rename_i hw
      rw [if_neg hw] at h
      exact ⟨fun _ h => h, hL', by rw [put_m]; exact hF' _ (fun _ _ => rfl), h⟩

theorem anyN_first {i : Nat} {ni : NOper} (hi : nops[i]? = some ni) (hsz : i < ops.size) (hlen : nops.length = ops.size) (hanc : ∀ k, k < ops.size → ancOk ops k (anc.getD k []) = true) {K : St → Prop} {y : YK} {e : Option (Nat × (Obj → Option NV))} :
    ∀ (f : Nat) (listed : Array Bool) (log : List Ent) (s : St),
      (∀ j oj nj, ops[j]? = some oj → nops[j]? = some nj → j ≠ i → listed.getD j true = false → (∀ e ∈ oj.after, Region.binds .any e = true → e.on ≠ i) → apartN ni nj = true) →
      i ∈ Region.ready .any ops listed → DC ops listed → Fr0 ops base listed s.m → LogOk ops base listed log → Yi ni (asideB base listed (anc.getD i [])) s y e →
      anyN C ops nops anc base f (listed.setIfInBounds i true) (entOf i y e log) (y.app ni (base + i) s) K → anyN C ops nops anc base (f + 1) listed log s K := by
  intro f
  induction f with
  | zero =>
    intro listed log s _ hr _ _ _ hY H
    refine ⟨fun h => (by rw [h] at hr; cases hr), fun j hj => ?_⟩
    by_cases hji : j = i
    · subst hji
      unfold stepAt; simp only [hi]
      exact hY.step ⟨H.1, H.2⟩
    · have := ready_mono hj hji
      rw [H.1] at this; cases this
  | succ f ih =>
    intro listed log s hfree hr hDC hF hL hY H
    have hiu := (mem_ready.1 hr).1
    refine ⟨fun h => (by rw [h] at hr; cases hr), fun k hk => ?_⟩
    by_cases hki : k = i
    · subst hki
      unfold stepAt; simp only [hi]
      exact hY.step (anyN_log _ _ _ _ _ (fun x hx => mem_entOf hx) H)
    · have h1 := H.2 k (ready_mono hk hki)
      obtain ⟨hku, ok, hok, hall⟩ := mem_ready.1 hk
      have hksz : k < ops.size := (Array.getElem?_eq_some_iff.1 hok).1
      have hnot : ∀ e ∈ ok.after, Region.binds .any e = true → e.on ≠ i := fun e he hb heq => by
        have h1 := hall e he hb
        rw [heq, getD_false_of hiu] at h1; cases h1
      have hgk : ∃ nk, nops[k]? = some nk := ⟨_, List.getElem?_eq_getElem (by rw [hlen]; exact hksz)⟩
      obtain ⟨nk, hnk⟩ := hgk
      have hap := hfree k ok nk hok hnk hki hku hnot
      have hian : i ∉ anc.getD k [] := fun h => by
        have := anc_listed (hanc k hksz) hDC hk i h
        rw [getD_false_of hiu] at this; cases this
      have hilt : i < listed.size := by
        rcases Nat.lt_or_ge i listed.size with h | h
        · exact h
        · simp [Array.getElem?_eq_none h] at hiu
      unfold stepAt at h1
      simp only [hnk] at h1
      have hpH : ∀ j, asideB base (listed.setIfInBounds i true) (anc.getD k []) j = (asideB base listed (anc.getD k []) j || j == base + i) := fun j => by
        unfold asideB
        by_cases hj : base ≤ j
        · by_cases hji : j - base = i
          · have : j = base + i := by omega
            subst this
            have hc : (anc.getD k []).contains i = false := by simpa using hian
            simp only [Nat.add_sub_cancel_left, hc, beq_self_eq_true, Bool.or_true, Bool.not_false, Bool.and_true, Nat.le_add_right, decide_true, Bool.true_and]
            simp [hilt]
          · have hne : (j == base + i) = false := by simp; omega
            rw [getD_set_ne false (Ne.symm hji), hne, Bool.or_false]
        · have hne : (j == base + i) = false := by simp; omega
          simp [hj, hne]
      have hqH : ∀ j, j ≠ base + i → laterB base nops.length (listed.setIfInBounds i true) k j = laterB base nops.length listed k j := fun j hj => by
        unfold laterB
        by_cases hb : base ≤ j
        · rw [getD_set_ne true (by omega)]
        · simp [hb]
      have hq : laterB base nops.length listed k (base + i) = true := by
        unfold laterB
        rw [Nat.add_sub_cancel_left, hiu, hlen]
        simp only [Nat.le_add_right, decide_true, Bool.not_false, Bool.true_and, Bool.and_eq_true, decide_eq_true_eq, bne_iff_ne, ne_eq, Bool.and_true]
        omega
      have hp : asideB base listed (anc.getD k []) (base + i) = false := by
        unfold asideB; rw [Nat.add_sub_cancel_left, getD_false_of hiu]; simp
      have h2 := stepD_put (pi' := asideB base (listed.setIfInBounds k true) (anc.getD i [])) hap (Ne.symm hki) hian hpH hqH hq hp (fun j hj => by
        unfold asideB at hj ⊢
        simp only [Bool.and_eq_true, decide_eq_true_eq] at hj
        rcases set_getD_false hj.1.2 with h | h
        · exact .inr (by omega)
        · exact .inl (by simp only [Bool.and_eq_true, decide_eq_true_eq]; exact ⟨⟨hj.1.1, h⟩, hj.2⟩)) (hF i hsz hiu) (hF k hksz hku) (fun e he => hL e he i hsz hiu) hY h1
      have h3 : stepAt C nops anc base listed k log s fun _ s' => Yi ni (asideB base (listed.setIfInBounds k true) (anc.getD i [])) s' y e ∧ anyN C ops nops anc base f ((listed.setIfInBounds i true).setIfInBounds k true) (entOf i y e log) (y.app ni (base + i) s') K := by
        unfold stepAt; simp only [hnk]; exact h2
      refine stepAt_mono (stepAt_keeps hlen hF hL h3) fun l s' ⟨_, _, hF', hY', H'⟩ => ?_
      refine ih (listed.setIfInBounds k true) log s' (fun j oj nj hj hnj hji hun hno => hfree j oj nj hj hnj hji (unlisted_set hun).2 hno) (ready_mono hr (Ne.symm hki)) (hDC.set hk) hF' (fun e he j hj hu => hL e he j hj (unlisted_set hu).2) hY' ?_
      rw [Array.setIfInBounds_comm _ _ hki]
      exact H'

theorem freeN_spec {i : Nat} {ni : NOper} {listed : Array Bool} (hi : nops[i]? = some ni) (h : freeN ops nops listed i = true) (j : Nat) (oj : Oper) (nj : NOper) (hj : ops[j]? = some oj) (hnj : nops[j]? = some nj) (hne : j ≠ i) (hun : listed.getD j true = false)
    (hno : ∀ e ∈ oj.after, Region.binds .any e = true → e.on ≠ i) : apartN ni nj = true := by
  simp only [freeN, hi, List.all_eq_true, List.mem_range] at h
  have h1 := h j (Array.getElem?_eq_some_iff.1 hj).1
  simp only [hj, hnj, Bool.or_eq_true, beq_iff_eq, hne, false_or, hun, Bool.false_eq_true] at h1
  rcases h1 with h1 | h1
  · obtain ⟨e, he, hb⟩ := Array.any_eq_true'.1 h1
    simp only [Bool.and_eq_true, beq_iff_eq] at hb
    exact absurd hb.2 (hno e he hb.1)
  · exact h1

/-- **One order serves all.** -/
theorem runD_any (hlen : nops.length = ops.size) (hanc : ∀ k, k < ops.size → ancOk ops k (anc.getD k []) = true) {K : St → Prop} : ∀ (f : Nat) (listed : Array Bool) (l : List Nat), sched ops nops f listed = some l → ∀ (log : List Ent) (s : St),
    DC ops listed → Fr0 ops base listed s.m → LogOk ops base listed log → runD C nops anc base l listed log s K → anyN C ops nops anc base f listed log s K
  | 0, listed, l, hs, log, s, _, _, _, h => by
    simp only [sched] at hs
    split at hs
    · rename_i he
      cases hs
      exact ⟨by simpa using he, h⟩
    · cases hs
  | f + 1, listed, l, hs, log, s, hDC, hF, hL, h => by
    simp only [sched] at hs
    split at hs
    · rename_i i hfi
      have hp := List.find?_some hfi
      have hmem := List.mem_of_find?_eq_some hfi
      simp only [Bool.and_eq_true, Bool.not_eq_true'] at hp
      split at hs
      · rename_i l' hl'
        cases hs
        obtain ⟨_, o, ho, _⟩ := mem_ready.1 hmem
        have hsz : i < ops.size := (Array.getElem?_eq_some_iff.1 ho).1
        obtain ⟨ni, hni⟩ : ∃ ni, nops[i]? = some ni := ⟨_, List.getElem?_eq_getElem (by rw [hlen]; exact hsz)⟩
        have heff : ni.op.eff = false := by have := hp.1; unfold effAt at this; rw [hni] at this; exact this
        simp only [runD] at h
        have h' := stepAt_keeps hlen hF hL h
        unfold stepAt at h'
        simp only [hni] at h'
        obtain ⟨y, e, hY, _, hL', hF', hrun⟩ := Yi.of heff h'
        exact anyN_first hni hsz hlen hanc f listed log s (freeN_spec hni hp.2) hmem hDC hF hL hY (runD_any hlen hanc f _ l' hl' _ _ (hDC.set hmem) hF' hL' hrun)
      · cases hs
    · split at hs
      · rename_i hrs
        cases hs
        exact ⟨fun _ => h, fun i hi => by rw [hrs] at hi; cases hi⟩
      · rename_i e hrs
        split at hs
        · split at hs
          · rename_i l' hl'
            cases hs
            have hmem : e ∈ Region.ready .any ops listed := by rw [hrs]; simp
            obtain ⟨_, o, ho, _⟩ := mem_ready.1 hmem
            have hsz : e < ops.size := (Array.getElem?_eq_some_iff.1 ho).1
            refine ⟨fun h0 => (by rw [hrs] at h0; cases h0), fun i hi => ?_⟩
            rw [hrs] at hi
            simp only [List.mem_singleton] at hi
            subst hi
            simp only [runD] at h
            exact stepAt_mono (stepAt_keeps hlen hF hL h) fun lg s' ⟨hsub, hL', hF', hrun⟩ => anyN_log f _ _ _ _ hsub (runD_any hlen hanc f _ l' hl' _ _ (hDC.set hmem) hF' hL' hrun)
          · cases hs
        · cases hs
      · cases hs

end
end Go.NL
