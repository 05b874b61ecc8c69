/-
  Code: what holds of it by its reading.
-/
import Derived.Test.YtobpahgkkpmpfaaGreatNmA
import Derived.Sort.LoopGhostIn
import Derived.Scope
namespace Go.NL

inductive NX where
  | normal
  | exit (id : Nat)
  | ret
  deriving DecidableEq

def xR : NX → Exit → Prop
  | .normal, .normal => True
  | .exit i, .exit j => i = j
  | .ret, .ret => True
  | _, _ => False

def PostN (P : Program) (lo : Nat) (G : Gh) (s : St) (w : World) (K : NX → St → Prop) : Exit → Act → World → Prop := fun e a' w' =>
  ∃ x s' G', xR x e ∧ K x s' ∧ SR P lo (s'.n ≤ ·) G' s' a' w' ∧ Adv G s.m w G' s'.m w' ∧ s.n ≤ s'.n ∧ ∀ j, j < s.n → G'.loc j = G.loc j

/-- The loop over a function in whose round the code runs. -/
def RoR (G : Gh) : Option Nat → Option Nat → Prop
  | none, l => l = none
  | some id, l => ∃ b, l = some b ∧ G.blk id = some b

theorem Gh.blk_mono {G G' : Gh} (hG : G.le G') {id b : Nat} (h : G.blk id = some b) : G'.blk id = some b := by
  unfold Gh.blk at h ⊢
  cases hl : G.loc id with
  | none => simp [hl] at h
  | some x => rw [hG.loc _ _ hl]; rw [hl] at h; exact h

theorem RoR.mono {G G' : Gh} (hG : G.le G') {ro l : Option Nat} (h : RoR G ro l) : RoR G' ro l := by
  cases ro with
  | none => exact h
  | some id => obtain ⟨b, h1, h2⟩ := h; exact ⟨b, h1, Gh.blk_mono hG h2⟩

/-- **Code, by its reading.** -/
def RunN (P : Program) (ro : Option Nat) (nc : NCode) (s : St) (K : NX → St → Prop) : Prop :=
  ∀ code, prepC P code = some nc → ∀ G a w lr lo, RoR G ro lr → SR P lo (s.n ≤ ·) G s a w → code.wpIn (Fw lr) 0 P (PostN P lo G s w K) a w

section
variable {P : Program} {lo : Nat} {ro : Option Nat} {s : St} {K : NX → St → Prop}

theorem PostN.from {G G' : Gh} {s s' : St} {w w' : World} {e : Exit} {a : Act} {w'' : World} (hA : Adv G s.m w G' s'.m w') (hn : s.n ≤ s'.n) (ho : ∀ j, j < s.n → G'.loc j = G.loc j) (h : PostN P lo G' s' w' K e a w'') : PostN P lo G s w K e a w'' := by
  obtain ⟨x, s2, G2, h1, h2, h3, h4, h5, h6⟩ := h
  exact ⟨x, s2, G2, h1, h2, h3, hA.trans h4, Nat.le_trans hn h5, fun j hj => (h6 j (by omega)).trans (ho j hj)⟩

theorem PostN.now {G : Gh} {s : St} {a : Act} {w : World} {x : NX} {e : Exit} (hx : xR x e) (hk : K x s) (hS : SR P lo (s.n ≤ ·) G s a w) : PostN P lo G s w K e a w :=
  ⟨x, s, G, hx, hk, hS, Adv.refl hS.m, Nat.le_refl _, fun _ _ => rfl⟩

theorem RunN.mono {nc : NCode} {K' : NX → St → Prop} (h : RunN P ro nc s K) (hk : ∀ x s', K x s' → K' x s') : RunN P ro nc s K' := fun code hc G a w lr lo hlr hS =>
  wpIn_mono (h code hc G a w lr lo hlr hS) fun _ _ _ ⟨x, s', G', h1, h2, h3⟩ => ⟨x, s', G', h1, hk x s' h2, h3⟩

theorem wpIn_scope {F : Fence} {n : Nat} {Q : Exit → Act → World → Prop} {a : Act} {w : World} {c : Code} (h : c.wpIn F n P (Exit.noGoto Q) a w) : (Code.scope c).wpIn F n P Q a w := by
  intro b k cs hro hb hr
  have s0 : step P (lone (b.atR a (.code (.scope c) :: k)) cs w) = .next (lone (b.atR a (.code c :: .inScope c :: k)) cs w) :=
    step_lone_go (by simp [stepG, stepG.exec, Frame.atR])
  have s1 : ∀ a w, step P (lone (b.atR a (.inScope c :: k)) cs w) = .next (lone (b.atR a k) cs w) := fun a w =>
    step_lone_go (by simp [stepG, stepG.exec, Frame.atR])
  have h0 : (lone (b.atR a (.code (.scope c) :: k)) cs w).fenced P F := fenced_calm hb hr rfl
  obtain ⟨e, a₁, w₁, hq, harr⟩ := h b (.inScope c :: k) cs hro hb hr
  cases e with
  | normal => exact ⟨.normal, a₁, w₁, hq, .head h0 s0 (StepsIn.trans harr (.one (fenced_calm hb hr rfl) (s1 _ _)))⟩
  | exit id =>
    have hx : ∀ i, exitTo i (.inScope c :: k) = exitTo i k := fun i => rfl
    exact ⟨.exit id, a₁, w₁, hq, fun k' hk => .head h0 s0 (harr.1 k' (by rw [hx]; exact hk)),
      fun hr' hk => let ⟨k₁, h1, h2⟩ := harr.2 hr' (by rw [hx]; exact hk); ⟨k₁, h1, .head h0 s0 h2⟩⟩
  | goto l => exact hq.elim
  | ret => exact ⟨_, a₁, w₁, hq, .of_steps (.one h0 s0) harr⟩
  | panic ch => exact ⟨_, a₁, w₁, hq, .of_steps (.one h0 s0) harr⟩
  | outgrown => exact ⟨_, a₁, w₁, hq, .of_steps (b := b) (k := k) (cs := cs) (e := .outgrown) (.one h0 s0) harr⟩

/-- It is enough to look at code that is no scope. -/
theorem run_of {nc : NCode} (h : ∀ code, (∀ c, code ≠ .scope c) → prepC P code = some nc → ∀ G a w lr lo, RoR G ro lr → SR P lo (s.n ≤ ·) G s a w → code.wpIn (Fw lr) 0 P (PostN P lo G s w K) a w) : RunN P ro nc s K := by
  intro code
  induction code with
  | scope c ih =>
    intro hc G a w lr lo hlr hS
    refine wpIn_scope (wpIn_mono (ih (by simpa [prepC] using hc) G a w lr lo hlr hS) fun e a' w' hp => ?_)
    cases e <;> first | exact hp | skip
    obtain ⟨x, _, _, hx, _⟩ := hp
    cases x <;> exact hx.elim
  | _ => exact h _ (by simp)

theorem run_skip (h : K .normal s) : RunN P ro .skip s K := run_of fun code hns hc G a w lr lo hlr hS => by
  cases code <;> simp only [prepC] at hc
  case skip => exact wpIn_skip (PostN.now (x := .normal) trivial h hS)
  case label => exact wpIn_label (PostN.now (x := .normal) trivial h hS)
  all_goals (first | (exact absurd rfl (hns _)) | (cases hc; done) | (simp at hc; done) | (repeat' (split at hc)) <;> (cases hc; done))

theorem run_exit {id : Nat} (h : K (.exit id) s) : RunN P ro (.exit id) s K := run_of fun code hns hc G a w lr lo hlr hS => by
  cases code <;> simp only [prepC] at hc
  case exit => cases hc; exact wpIn_exit (PostN.now (x := .exit _) rfl h hS)
  all_goals (first | (exact absurd rfl (hns _)) | (cases hc; done) | (simp at hc; done) | (repeat' (split at hc)) <;> (cases hc; done))

theorem run_ret (h : K .ret s) : RunN P ro .ret s K := run_of fun code hns hc G a w lr lo hlr hS => by
  cases code <;> simp only [prepC] at hc
  case ret => exact wpIn_ret (PostN.now (x := .ret) trivial h hS)
  all_goals (first | (exact absurd rfl (hns _)) | (cases hc; done) | (simp at hc; done) | (repeat' (split at hc)) <;> (cases hc; done))

theorem run_seq {x y : NCode} (h : RunN P ro x s fun e s' => match e with | .normal => RunN P ro y s' K | e => K e s') : RunN P ro (.seq x y) s K := run_of fun code hns hc G a w lr lo hlr hS => by
  cases code <;> simp only [prepC] at hc
  case seq p q =>
    split at hc
    · rename_i x' y' h1 h2
      cases hc
      refine wpIn_seq (wpIn_mono (h p h1 G a w lr lo hlr hS) fun e a' w' hp => ?_)
      obtain ⟨v, s', G', hx, hk, hS', hA, hn, ho⟩ := hp
      cases e <;> cases v <;> simp only [xR] at hx
      · exact wpIn_mono (hk q h2 G' a' w' lr lo (hlr.mono hA.le) hS') fun _ _ _ hq => hq.from hA hn ho
      · subst hx; exact ⟨.exit _, s', G', rfl, hk, hS', hA, hn, ho⟩
      · exact ⟨.ret, s', G', trivial, hk, hS', hA, hn, ho⟩
    · cases hc
  all_goals (first | (exact absurd rfl (hns _)) | (cases hc; done) | (simp at hc; done) | (repeat' (split at hc)) <;> (cases hc; done))

theorem run_cond {c : Opd} {x y : NCode} {b : Bool} (hb : getO s.t c = .b b) (h : RunN P ro (if b then x else y) s K) : RunN P ro (.cond c x y) s K := run_of fun code hns hc G a w lr lo hlr hS => by
  cases code <;> simp only [prepC] at hc
  case cond o p q =>
    split at hc
    · rename_i c' x' y' h0 h1 h2
      cases hc
      have hv := oO_vr hS.t h0
      rw [hb] at hv
      generalize hp : a.eval o = pv at hv
      cases hv
      refine wpIn_cond hp ?_
      cases b
      · exact h q h2 G a w lr lo hlr hS
      · exact h p h1 G a w lr lo hlr hS
    · cases hc
  all_goals (first | (exact absurd rfl (hns _)) | (cases hc; done) | (simp at hc; done) | (repeat' (split at hc)) <;> (cases hc; done))

theorem run_block {id : Nat} {c : NCode} (h : RunN P ro c s fun x s' => K (if x = .exit id then .normal else x) s') : RunN P ro (.block id c) s K := run_of fun code hns hc G a w lr lo hlr hS => by
  cases code <;> simp only [prepC] at hc
  case block i p =>
    simp only [Option.map_eq_some_iff, NCode.block.injEq] at hc
    obtain ⟨c', h1, rfl, rfl⟩ := hc
    refine wpIn_block (wpIn_mono (h p h1 G a w lr lo hlr hS) fun e a' w' hp => ?_)
    obtain ⟨v, s', G', hx, hk, hS', hA, hn, ho⟩ := hp
    cases e <;> cases v <;> simp only [xR] at hx
    · exact ⟨.normal, s', G', trivial, by simpa using hk, hS', hA, hn, ho⟩
    · subst hx
      simp only [Exit.inBlock]
      split
      · rename_i he
        exact ⟨.normal, s', G', trivial, by simpa [he] using hk, hS', hA, hn, ho⟩
      · rename_i he
        exact ⟨.exit _, s', G', rfl, by simpa [he] using hk, hS', hA, hn, ho⟩
    · exact ⟨.ret, s', G', trivial, by simpa using hk, hS', hA, hn, ho⟩
  all_goals (first | (exact absurd rfl (hns _)) | (cases hc; done) | (simp at hc; done) | (repeat' (split at hc)) <;> (cases hc; done))

/-- A loop: an invariant with a number that each round lowers. -/
theorem run_loop {c : NCode} (I : Nat → St → Prop) (k₀ : Nat) (h₀ : I k₀ s) (h : ∀ k s, I k s → RunN P ro c s fun x s' => match x with | .normal => ∃ k', k' < k ∧ I k' s' | x => K x s') : RunN P ro (.loop c) s K := run_of fun code hns hc G a w lr lo hlr hS => by
  cases code <;> simp only [prepC] at hc
  case loop p =>
    simp only [Option.map_eq_some_iff, NCode.loop.injEq] at hc
    obtain ⟨c', h1, rfl⟩ := hc
    refine wpIn_loop_ghost (fun k a' w' => ∃ s' G', I k s' ∧ SR P lo (s'.n ≤ ·) G' s' a' w' ∧ Adv G s.m w G' s'.m w' ∧ s.n ≤ s'.n ∧ ∀ j, j < s.n → G'.loc j = G.loc j) k₀ ⟨s, G, h₀, hS, Adv.refl hS.m, Nat.le_refl _, fun _ _ => rfl⟩ ?_
    rintro k a1 w1 ⟨s1, G1, hI, hS1, hA, hn, ho⟩
    refine wpIn_mono (h k s1 hI p h1 G1 a1 w1 lr lo (hlr.mono hA.le) hS1) fun e a' w' hp => ?_
    obtain ⟨v, s', G', hx, hk, hS', hA', hn', ho'⟩ := hp
    have hA2 := hA.trans hA'
    have ho2 : ∀ j, j < s.n → G'.loc j = G.loc j := fun j hj => (ho' j (by omega)).trans (ho j hj)
    cases e <;> cases v <;> simp only [xR] at hx
    · obtain ⟨k', hlt, hI'⟩ := hk
      exact ⟨k', hlt, s', G', hI', hS', hA2, Nat.le_trans hn hn', ho2⟩
    · subst hx; exact ⟨.exit _, s', G', rfl, hk, hS', hA2, Nat.le_trans hn hn', ho2⟩
    · exact ⟨.ret, s', G', trivial, hk, hS', hA2, Nat.le_trans hn hn', ho2⟩
  all_goals (first | (exact absurd rfl (hns _)) | (cases hc; done) | (simp at hc; done) | (repeat' (split at hc)) <;> (cases hc; done))

/-! ### Regions that go in the text's order -/

theorem prepOps_get {ops : Array Oper} : ∀ {l : List Oper} {nops : List NOper}, prepOps P ops l = some nops → nops.length = l.length ∧ ∀ (j : Nat) (o : Oper), l[j]? = some o → ∃ no, nops[j]? = some no ∧ prepOper P ops o = some no
  | [], nops, h => by simp only [prepOps] at h; cases h; exact ⟨rfl, fun j o hj => by simp at hj⟩
  | o :: l, nops, h => by
    simp only [prepOps] at h
    split at h
    · rename_i x xs h1 h2
      cases h
      obtain ⟨hl, hg⟩ := prepOps_get h2
      refine ⟨by simp [hl], fun j o' hj => ?_⟩
      cases j with
      | zero => simp at hj; subst hj; exact ⟨x, by simp, h1⟩
      | succ j => simp at hj; obtain ⟨no, h3, h4⟩ := hg j o' hj; exact ⟨no, by simpa using h3, h4⟩
    · cases h

theorem runOps_ok {C : CR} {ops : Array Oper} {nops : List NOper} {base : Nat} {K : St → Prop} {Q : Exit → Act → World → Prop} (hC : CSound P C) (hp : prepOps P ops ops.toList = some nops) :
    ∀ (m k : Nat), k + m = ops.size → ∀ (s : St) (a : Act) (w : World) (G : Gh), runOps C (nops.drop k) (base + k) s K → SR P lo (fun j => (base + k ≤ j ∧ j < base + ops.size) ∨ s.n ≤ j) G s a w → base + ops.size ≤ s.n →
      (∀ s' G' a' w', K s' → SR P lo (s'.n ≤ ·) G' s' a' w' → Adv G s.m w G' s'.m w' → s.n ≤ s'.n → (∀ j, j < base → G'.loc j = G.loc j) → Q .normal a' w') → wpOpsIn (Fw ro) 0 P ops Q (List.range' k m) a w
  | 0, k, hk, s, a, w, G, h, hS, hb, hN => by
    obtain ⟨hl, _⟩ := prepOps_get hp
    have : nops.drop k = [] := List.drop_eq_nil_of_le (by rw [hl]; simp; omega)
    rw [this] at h
    exact hN s G a w h (hS.weak fun j hj => .inr hj) (Adv.refl hS.m) (Nat.le_refl _) (fun _ _ => rfl)
  | m + 1, k, hk, s, a, w, G, h, hS, hb, hN => by
    obtain ⟨hl, hg⟩ := prepOps_get hp
    have hlt : k < ops.size := by omega
    obtain ⟨no, h1, h2⟩ := hg k ops[k] (by simp)
    have hlk : k < nops.length := (List.getElem?_eq_some_iff.1 h1).1
    have hdrop : nops.drop k = no :: nops.drop (k + 1) := by
      rw [List.drop_eq_getElem_cons hlk]; congr 1; exact (List.getElem?_eq_some_iff.1 h1).2
    rw [hdrop] at h
    simp only [runOps] at h
    rw [List.range'_succ]
    simp only [wpOpsIn]
    have hget : ops[k]? = some ops[k] := by simp
    rw [hget]
    simp only
    refine op_step (ops := ops) hC h2 h hS (.inl ⟨Nat.le_refl _, by omega⟩) (by omega) (fun j hj => .inr hj) fun s' G' a' w' hk' hAf => ?_
    refine runOps_ok hC hp m (k + 1) (by omega) s' a' w' G' (by rw [show base + (k + 1) = base + k + 1 from by omega]; exact hk') (hAf.sr.weak fun j hj => ?_) (Nat.le_trans hb hAf.n) fun s2 G2 a2 w2 hk2 hS2 hA2 hn2 ho2 => ?_
    · have := hAf.n
      rcases hj with ⟨j1, j2⟩ | hj
      · exact ⟨.inl ⟨by omega, j2⟩, by omega, fun h => by omega⟩
      · exact ⟨.inr (by omega), by omega, fun _ => hj⟩
    · exact hN s2 G2 a2 w2 hk2 hS2 (hAf.adv.trans hA2) (Nat.le_trans hAf.n hn2) (fun j hj => (ho2 j hj).trans (hAf.old j (by omega) (by omega)))

theorem run_region {C : CR} {nops : List NOper} (hC : CSound P C) (h : runOps C nops s.n { s with n := s.n + nops.length } (K .normal)) : RunN P ro (.region nops none) s K := run_of fun code hns hc G a w lr lo hlr hS => by
  cases code <;> simp only [prepC] at hc
  case region id ops dr =>
    split at hc
    · rename_i nops' hp
      split at hc
      · split at hc <;> cases hc
      · rename_i hdr
        cases hc
        have hdr : dr = false := by simpa using hdr
        subst hdr
        obtain ⟨hl, _⟩ := prepOps_get hp
        have hl : nops.length = ops.size := by simpa using hl
        refine wpIn_region ?_
        rw [List.range_eq_range']
        refine runOps_ok (base := s.n) hC hp ops.size 0 (by omega) { s with n := s.n + nops.length } a w G (by simpa using h) ⟨fun j hj => hS.fresh j ?_, hS.t, hS.m, hS.d, hS.sz⟩ (by simp [hl]) fun s' G' a' w' hk hS' hA hn ho => ?_
        · rcases hj with hj | hj
          · exact hj.1
          · simp only at hj; omega
        · exact ⟨.normal, s', G', trivial, hk, hS', hA, by simp only at hn; omega, ho⟩
    · cases hc
  all_goals (first | (exact absurd rfl (hns _)) | (cases hc; done) | (simp at hc; done) | (repeat' (split at hc)) <;> (cases hc; done))

end
end Go.NL
