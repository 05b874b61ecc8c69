/-
  Regions that draw their order: the step from N to the machine.
-/
import Derived.Test.YtobpahgkkpmpfaaGreatNmD
namespace Go.NL

section
variable {P : Program} {lo : Nat} {ro : Option Nat} {ops : Array Oper} {nops : List NOper} {anc : List (List Nat)} {base : Nat} {C : CR} {G G' : Gh} {M M' M'' : Mem} {w w' : World}

theorem MRel.sub (h : MRel P G M w) (hs : ∀ j o, M' j = some o → M j = some o) : MRel P G M' w :=
  ⟨fun id o hm => h.obj id o (hs id o hm), fun i j o o' hi hj => h.inj i j o o' (hs i o hi) (hs j o' hj), h.im, fun b o v i ob hv hi => h.imd b o v i ob hv (hs i ob hi)⟩

theorem Adv.sub (h : Adv G M w G' M' w') (hs : ∀ j o, M'' j = some o → M' j = some o) : Adv G M w G' M'' w' :=
  { h with own := fun id o hm => h.own id o (hs id o hm) }

theorem DR.sub : ∀ {ds : List Deferred}, DR lo G M w ds → (∀ j o, M' j = some o → M j = some o) → DR lo G M' w ds
  | [], _, _ => trivial
  | _ :: _, ⟨⟨r, h1, h1l, h2, h3, h4⟩, h5⟩, hs => ⟨⟨r, h1, h1l, h2, fun id o hm => h3 id o (hs id o hm), h4⟩, DR.sub h5 hs⟩

theorem without_sub {p : Nat → Bool} : ∀ j o, without p M j = some o → M j = some o := fun j o h => by
  unfold without at h; split at h
  · cases h
  · exact h

/-- What is aside is not claimed by others. -/
theorem aside_none {p : Nat → Bool} (h : MRel P G M w) (ha : Adv G (without p M) w G' M' w') {j : Nat} {o : Obj} (hp : p j = true) (hj : M j = some o) : M' j = none := by
  cases hm : M' j with
  | none => rfl
  | some x =>
    obtain ⟨b, h1, h2⟩ := ha.own j x hm
    obtain ⟨b', h3, h4⟩ := (h.obj j o hj).blk
    have h5 : G'.blk j = some b' := by
      unfold Gh.blk at h3 ⊢
      cases hl : G.loc j with
      | none => simp [hl] at h3
      | some y => rw [ha.le.loc _ _ hl]; rw [hl] at h3; exact h3
    rw [h1] at h5; cases h5
    rcases h2 with h2 | ⟨k, ok, hk, hkb⟩
    · omega
    · have hpk : p k = false := by
        unfold without at hk; split at hk
        · cases hk
        · rename_i hh; simpa using hh
      exact (h.inj j k o ok hj (without_sub k ok hk) (fun e => by rw [e, hpk] at hp; cases hp) (h3.trans hkb.symm)).elim

theorem mix_frame {p q : Nat → Bool} (h : MRel P G M w) (ha : Adv G (without p M) w G' M' w') (h' : MRel P G' M' w') : MRel P G' (mix p q M' M) w' ∧ Adv G M w G' (mix p q M' M) w' := by
  have hj : (without p M).join (fun j => if p j then M j else none) = M := by
    funext j
    simp only [Mem.join, without]
    by_cases hp : p j = true
    · simp [hp]
    · simp only [hp, Bool.false_eq_true, if_false]; cases M j <;> rfl
  have hd : ∀ id o, (if p id then M id else none) = some o → without p M id = none := fun id o h => by
    split at h
    · rename_i hp; simp [without, hp]
    · cases h
  have hs : ∀ j o, mix p q M' M j = some o → M'.join (fun j => if p j then M j else none) j = some o := fun j o hm => by
    unfold mix at hm
    split at hm
    · rename_i hp
      simp [Mem.join, aside_none h ha hp hm, hp, hm]
    · split at hm
      · cases hm
      · simp [Mem.join, hm]
  have h0 : MRel P G ((without p M).join (fun j => if p j then M j else none)) w := by rw [hj]; exact h
  have hA := Adv.frame h0 hd ha
  rw [hj] at hA
  exact ⟨(MRel.frame h0 hd ha h').sub hs, hA.sub hs⟩

/-- All orders, down to the machine. -/
theorem anyN_wp {K : St → Prop} {Q : Exit → Act → World → Prop} (hC : CSound P C) (hp : prepOps P ops ops.toList = some nops) :
    ∀ (f : Nat) (listed : Array Bool) (log : List Ent) (s : St) (a : Act) (w : World) (G : Gh), anyN C ops nops anc base f listed log s K →
      SR P lo (fun j => (base ≤ j ∧ j < base + ops.size ∧ listed.getD (j - base) true = false) ∨ s.n ≤ j) G s a w → base + ops.size ≤ s.n →
      (∀ s' G' a' w', K s' → SR P lo (s'.n ≤ ·) G' s' a' w' → Adv G s.m w G' s'.m w' → s.n ≤ s'.n → (∀ j, j < base → G'.loc j = G.loc j) → Q .normal a' w') → wpAnyIn (Fw ro) 0 P .any ops Q f listed a w := by
  intro f
  have fin : ∀ (s : St) (a : Act) (w : World) (G : Gh) (listed : Array Bool), SR P lo (fun j => (base ≤ j ∧ j < base + ops.size ∧ listed.getD (j - base) true = false) ∨ s.n ≤ j) G s a w → K s →
      (∀ s' G' a' w', K s' → SR P lo (s'.n ≤ ·) G' s' a' w' → Adv G s.m w G' s'.m w' → s.n ≤ s'.n → (∀ j, j < base → G'.loc j = G.loc j) → Q .normal a' w') → Q .normal a w :=
    fun s a w G listed hS hK hN => hN s G a w hK (hS.weak fun j hj => .inr hj) (Adv.refl hS.m) (Nat.le_refl _) (fun _ _ => rfl)
  induction f with
  | zero => intro listed log s a w G h hS hb hN; exact ⟨h.1, fin s a w G listed hS h.2 hN⟩
  | succ f ih =>
    intro listed log s a w G h hS hb hN
    refine ⟨fun hr => fin s a w G listed hS (h.1 hr) hN, fun i hi => ?_⟩
    have h1 := h.2 i hi
    obtain ⟨hiu, o, ho, _⟩ := mem_ready.1 hi
    have hsz : i < ops.size := (Array.getElem?_eq_some_iff.1 ho).1
    obtain ⟨hl, hg⟩ := prepOps_get hp
    obtain ⟨no, hno, hpo⟩ := hg i o (by simpa using ho)
    unfold stepAt at h1
    simp only [hno] at h1
    unfold wpOpIn
    rw [ho]
    simp only
    have next : ∀ s' G' a' w', anyN C ops nops anc base f (listed.setIfInBounds i true) log s' K → SR P lo (fun j => (base ≤ j ∧ j < base + ops.size ∧ (listed.setIfInBounds i true).getD (j - base) true = false) ∨ s'.n ≤ j) G' s' a' w' →
        Adv G s.m w G' s'.m w' → s.n ≤ s'.n → (∀ j, j ≠ base + i → j < s.n → G'.loc j = G.loc j) → wpAnyIn (Fw ro) 0 P .any ops Q f (listed.setIfInBounds i true) a' w' := fun s' G' a' w' hk hS' hA hn ho =>
      ih _ _ s' a' w' G' hk hS' (Nat.le_trans hb hn) fun s2 G2 a2 w2 hk2 hS2 hA2 hn2 ho2 => hN s2 G2 a2 w2 hk2 hS2 (hA.trans hA2) (Nat.le_trans hn hn2) fun j hj => (ho2 j hj).trans (ho j (by omega) (by omega))
    have frw : ∀ (n' : Nat), s.n ≤ n' → ∀ j, ((base ≤ j ∧ j < base + ops.size ∧ (listed.setIfInBounds i true).getD (j - base) true = false) ∨ n' ≤ j) → ((base ≤ j ∧ j < base + ops.size ∧ listed.getD (j - base) true = false) ∨ s.n ≤ j) ∧ j ≠ base + i ∧ (s.n ≤ j → n' ≤ j) := fun n' hn j hj => by
      rcases hj with ⟨h1, h2, h3⟩ | h1
      · obtain ⟨h4, h5⟩ := unlisted_set h3
        exact ⟨.inl ⟨h1, h2, h5⟩, by omega, fun h => by omega⟩
      · exact ⟨.inr (by omega), by omega, fun _ => h1⟩
    have hfi : (base ≤ base + i ∧ base + i < base + ops.size ∧ listed.getD (base + i - base) true = false) ∨ s.n ≤ base + i := .inl ⟨by omega, by omega, by rw [Nat.add_sub_cancel_left]; exact hiu⟩
    have plain : opK C no (base + i) s (fun s' => anyN C ops nops anc base f (listed.setIfInBounds i true) log s' K) → _ := fun hk =>
      op_step (ops := ops) (ro := ro) (Q := Q) (next := wpAnyIn (Fw ro) 0 P .any ops Q f (listed.setIfInBounds i true)) hC hpo hk hS hfi (by omega) (fun j hj => .inr hj) fun s' G' a' w' hk' hAf =>
        next s' G' a' w' hk' (hAf.sr.weak (frw s'.n hAf.n)) hAf.adv hAf.n hAf.old
    have aside : ∀ p q, opK C no (base + i) (s.mem (without p s.m)) (fun s' => anyN C ops nops anc base f (listed.setIfInBounds i true) log (s'.mem (mix p q s'.m s.m)) K) → _ := fun p q hk =>
      op_step (ops := ops) (ro := ro) (Q := Q) (G := G) (next := wpAnyIn (Fw ro) 0 P .any ops Q f (listed.setIfInBounds i true)) hC hpo hk ⟨hS.fresh, hS.t, hS.m.sub without_sub, hS.d.sub without_sub, hS.sz⟩ hfi (by show base + i < s.n; omega) (fun j hj => .inr hj) fun s' G' a' w' hk' hAf => by
        obtain ⟨hM, hA⟩ := mix_frame (q := q) hS.m hAf.adv hAf.sr.m
        obtain ⟨d, u, rfl⟩ := hAf.df
        exact next (s'.mem (mix p q s'.m s.m)) G' _ w' hk' ⟨fun j hj => hAf.sr.fresh j (frw s'.n hAf.n j hj), hAf.sr.t, hM, by rw [put_defers]; exact hS.d.keep hA, Nat.le_trans hS.sz hA.size⟩ hA hAf.n hAf.old
    unfold stepD at h1
    split at h1
    · rename_i hw
      have opk : ∀ {s0 : St} {Kk : St → Prop}, s0.t = s.t → resK C no.dst (base + i) s0 Kk (nop s.t no.op) → opK C no (base + i) s0 Kk := fun {s0 Kk} e h => by
        unfold opK; rw [e, if_pos hw]; exact h
      generalize hr : nop s.t no.op = r at h1 opk
      cases r
      case val v => exact plain (opk rfl h1)
      case rd j g =>
        obtain ⟨ob, v, h2, h3, h4⟩ := h1
        exact plain (opk rfl ⟨ob, v, without_sub _ _ h2, h3, h4⟩)
      case al ob mk => exact plain (opk rfl h1)
      case bad => exact h1.elim
      all_goals exact aside _ _ (opk (s0 := s.mem (without _ s.m)) rfl (resK_mono h1 fun s' h' => h'.2))
    · rename_i hw
      refine plain ?_
      unfold opK
      rw [if_neg hw]; exact h1

theorem ancsOk_get : ∀ {k : Nat} {l : List (List Nat)}, ancsOk ops k l = true → ∀ j, ancOk ops (k + j) (l.getD j []) = true
  | _, [], _, j => by simp [ancOk]
  | k, x :: l, h, j => by
    simp only [ancsOk, Bool.and_eq_true] at h
    cases j with
    | zero => simpa using h.1
    | succ j =>
      have := ancsOk_get h.2 j
      rw [show k + 1 + j = k + (j + 1) from by omega] at this
      simpa using this

variable {s : St} {K : NX → St → Prop}

/-- A region that draws, by one order. -/
theorem run_draw {d : Draw} (hm : P.follows .mixedOrders = true) (hC : CSound P C) (h : (∀ j, j < nops.length → s.m (s.n + j) = none) → runD C nops d.anc s.n d.order (Array.replicate nops.length false) [] { s with n := s.n + nops.length } (K .normal)) : RunN P ro (.region nops (some d)) s K := run_of fun code hns hc G a w lr lo hlr hS => by
  cases code <;> simp only [prepC] at hc
  case region id ops dr =>
    split at hc
    · rename_i nops' hp
      split at hc
      · rename_i hdr
        subst hdr
        split at hc
        · rename_i d' hd
          cases hc
          obtain ⟨hl, _⟩ := prepOps_get hp
          have hl : nops.length = ops.size := by simpa using hl
          unfold prepDraw at hd
          split at hd
          · rename_i l hsch
            dsimp only at hd
            split at hd
            · rename_i hcond
              cases hd
              simp only [Bool.and_eq_true] at hcond
              have hfresh : ∀ j, j < nops.length → s.m (s.n + j) = none := fun j _ => hS.none (Nat.le_add_right _ _)
              refine wpIn_region_any hm ?_
              have hrun := h hfresh
              rw [hl] at hrun
              have hany := runD_any (ops := ops) hl (fun k _ => by have := ancsOk_get hcond.2 k; rwa [Nat.zero_add] at this) ops.size _ l hsch [] { s with n := s.n + ops.size }
                (fun j hj => by exfalso; rw [Array.getD_eq_getD_getElem?, Array.getElem?_replicate] at hj; split at hj <;> simp at hj) (fun j hj _ => hfresh j (by omega)) (fun e he => by cases he) hrun
              have hS' : SR P lo (fun j => (s.n ≤ j ∧ j < s.n + ops.size ∧ (Array.replicate ops.size false).getD (j - s.n) true = false) ∨ ({ s with n := s.n + ops.size } : St).n ≤ j) G { s with n := s.n + ops.size } a { w with drawn := w.drawn + 1 } :=
                ⟨fun j hj => hS.fresh j (by rcases hj with hj | hj; exact hj.1; simp only at hj; omega), hS.t, ⟨fun id o hm => by
                  have := hS.m.obj id o hm
                  cases o <;> exact this, hS.m.inj, hS.m.im, hS.m.imd⟩, hS.d.keep (G' := G) (M' := s.m) (w' := { w with drawn := w.drawn + 1 }) ?_, hS.sz⟩
              refine anyN_wp hC hp ops.size _ _ _ a _ G hany hS' (Nat.le_refl _) fun s' G' a' w' hk hS' hA hn ho => ?_
              · exact ⟨.normal, s', G', trivial, hk, hS', ⟨hA.le, hA.size, hA.heap, hA.own, hA.im, hA.tape, hA.os, hA.output⟩, by simp only at hn; omega, ho⟩
              · exact ⟨G.le_refl, Nat.le_refl _, fun _ _ _ => rfl, (Adv.refl hS.m).own, fun _ _ _ h => .inl h, rfl, rfl, rfl⟩
            · cases hd
          · cases hd
        · cases hc
      · cases hc
    · cases hc
  all_goals (first | (exact absurd rfl (hns _)) | (cases hc; done) | (simp at hc; done) | (repeat' (split at hc)) <;> (cases hc; done))

end
end Go.NL
