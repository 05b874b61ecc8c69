/-
  What a call leaves behind may be forgotten: contracts without the call's own garbage.
-/
import Derived.Test.YtobpahgkkpmpfaaGreatNnA
set_option linter.unusedSectionVars false
set_option linter.unusedVariables false
set_option linter.unusedSimpArgs false
namespace Go.NL

mutual
/-- All ids are ub n. -/
def NV.ub (n : Nat) : NV → Bool
  | .ptr id _ | .mp id | .yl id => decide (id < n)
  | .sl id _ _ _ _ _ => decide (id < n)
  | .fn _ a c => NV.ubs n a && NV.ubs n c
  | .agg l | .tup l => NV.ubs n l
  | .rs _ r _ _ => NV.ubss n r
  | .rp r _ _ => NV.ubss n r
  | _ => true
def NV.ubs (n : Nat) : List NV → Bool
  | [] => true
  | x :: l => NV.ub n x && NV.ubs n l
def NV.ubss (n : Nat) : List (List NV) → Bool
  | [] => true
  | x :: l => NV.ubs n x && NV.ubss n l
end

def Obj.ub (n : Nat) : Obj → Bool
  | .cells c => NV.ubs n c
  | .map es _ => NV.ubs n (es.map (·.2.1)) && NV.ubs n (es.map (·.2.2))
  | .loop _ _ ts _ _ _ => NV.ubs n ts
  | .defr => true

section
variable {G G' : Gh} {n : Nat}

mutual
theorem VR.ub (hf : ∀ id, n ≤ id → G.loc id = none) : ∀ {x : NV} {y : Value}, VR G x y → x.ub n = true
  | _, _, .b _ => rfl
  | _, _, .i _ _ => rfl
  | _, _, .s _ => rfl
  | _, _, .nilp => rfl
  | _, _, .nils => rfl
  | _, _, .nilm => rfl
  | _, _, .nilf => rfl
  | _, _, .nili => rfl
  | _, _, .ptr h => decide_eq_true (Nat.lt_of_not_le fun hn => by rw [hf _ hn] at h; cases h)
  | _, _, .sl h _ _ _ _ _ => decide_eq_true (Nat.lt_of_not_le fun hn => by rw [hf _ hn] at h; cases h)
  | _, _, .mp h => decide_eq_true (Nat.lt_of_not_le fun hn => by rw [hf _ hn] at h; cases h)
  | _, _, .fn h h' => by simp only [NV.ub, h.ub hf, h'.ub hf, Bool.and_self]
  | _, _, .yl h => decide_eq_true (Nat.lt_of_not_le fun hn => by rw [hf _ hn] at h; cases h)
  | _, _, .agg h => by simp only [NV.ub, h.ub hf]
  | _, _, .tup h => by simp only [NV.ub, h.ub hf]
  | _, _, .rs h _ _ _ _ _ => by simp only [NV.ub, h.ub hf]
  | _, _, .rsn => rfl
  | _, _, .rp h _ _ => by simp only [NV.ub, h.ub hf]
theorem VRs.ub (hf : ∀ id, n ≤ id → G.loc id = none) : ∀ {x : List NV} {y : List Value}, VRs G x y → NV.ubs n x = true
  | _, _, .nil => rfl
  | _, _, .cons h t => by simp only [NV.ubs, h.ub hf, t.ub hf, Bool.and_self]
theorem VRss.ub (hf : ∀ id, n ≤ id → G.loc id = none) : ∀ {x : List (List NV)} {y : List (List Value)}, VRss G x y → NV.ubss n x = true
  | _, _, .nil => rfl
  | _, _, .cons h t => by simp only [NV.ubss, h.ub hf, t.ub hf, Bool.and_self]
end

section
variable (hl : ∀ id, id < n → ∀ x, G.loc id = some x → G'.loc id = some x) (hi : ∀ b o v, G.im b o = some v → G'.im b o = some v)
include hl hi
mutual
theorem VR.move : ∀ {x : NV} {y : Value}, VR G x y → x.ub n = true → VR G' x y
  | _, _, .b x, _ => .b x
  | _, _, .i k n, _ => .i k n
  | _, _, .s l, _ => .s l
  | _, _, .nilp, _ => .nilp
  | _, _, .nils, _ => .nils
  | _, _, .nilm, _ => .nilm
  | _, _, .nilf, _ => .nilf
  | _, _, .nili, _ => .nili
  | _, _, .ptr h, hb => .ptr (hl _ (of_decide_eq_true hb) _ h)
  | _, _, .sl h ha hs h1 h2 h3, hb => .sl (hl _ (of_decide_eq_true hb) _ h) ha hs h1 h2 h3
  | _, _, .mp h, hb => .mp (hl _ (of_decide_eq_true hb) _ h)
  | _, _, .fn h h', hb => by
    simp only [NV.ub, Bool.and_eq_true] at hb
    exact .fn (h.move hb.1) (h'.move hb.2)
  | _, _, .yl h, hb => .yl (hl _ (of_decide_eq_true hb) _ h)
  | _, _, .agg h, hb => .agg (h.move hb)
  | _, _, .tup h, hb => .tup (h.move hb)
  | _, _, .rs h hs hb ha hi' hc, hbl => .rs (h.move hbl) hs hb ha (fun e row j v h1 h2 h3 h4 => hi _ _ _ (hi' e row j v h1 h2 h3 h4)) hc
  | _, _, .rsn, _ => .rsn
  | _, _, .rp h hr hi', hbl => .rp (h.move hbl) hr (fun j v h1 => hi _ _ _ (hi' j v h1))
theorem VRs.move : ∀ {x : List NV} {y : List Value}, VRs G x y → NV.ubs n x = true → VRs G' x y
  | _, _, .nil, _ => .nil
  | _, _, .cons h t, hb => by
    simp only [NV.ubs, Bool.and_eq_true] at hb
    exact .cons (h.move hb.1) (t.move hb.2)
theorem VRss.move : ∀ {x : List (List NV)} {y : List (List Value)}, VRss G x y → NV.ubss n x = true → VRss G' x y
  | _, _, .nil, _ => .nil
  | _, _, .cons h t, hb => by
    simp only [NV.ubss, Bool.and_eq_true] at hb
    exact .cons (h.move hb.1) (t.move hb.2)
end
end
end

section
variable {P : Program} {G G' G'' : Gh} {M M' : Mem} {w w' : World} {n : Nat}

theorem ORel.ub {id : Nat} {o : Obj} (h : ORel P G w id o) (hf : ∀ id, n ≤ id → G.loc id = none) : o.ub n = true := by
  cases o with
  | cells c => obtain ⟨b, sh, bs, C, e, h1, h2, h3, h4, h5⟩ := h; exact h5.ub hf
  | map es clk => obtain ⟨b, x, y, E, h1, h2, h3, h4, h5⟩ := h; simp only [Obj.ub, h3.ub hf, h4.ub hf, Bool.and_self]
  | loop st pe ts ps na nb => obtain ⟨b, x, y, pe', fn, ts', as, bo, df, h1, h2, h3, h4, h5, h6⟩ := h; exact h4.ub hf
  | defr => rfl

/-- An object under another id, in ghosts that keep the lower ids. -/
theorem ORel.move {id id' : Nat} {o : Obj} (h : ORel P G w id o) (hb : o.ub n = true) (hl : ∀ id, id < n → ∀ x, G.loc id = some x → G'.loc id = some x) (hi : ∀ b o v, G.im b o = some v → G'.im b o = some v) (he : G'.loc id' = G.loc id) :
    ORel P G' w id' o := by
  cases o with
  | cells c =>
    obtain ⟨b, sh, bs, C, e, h1, h2, h3, h4, h5⟩ := h
    exact ⟨b, sh, bs, C, e, by rw [he]; exact h1, h2, h3, h4, h5.move hl hi hb⟩
  | map es clk =>
    obtain ⟨b, x, y, E, h1, h2, h3, h4, h5⟩ := h
    simp only [Obj.ub, Bool.and_eq_true] at hb
    exact ⟨b, x, y, E, by rw [he]; exact h1, h2, h3.move hl hi hb.1, h4.move hl hi hb.2, h5⟩
  | loop st pe ts ps na nb =>
    obtain ⟨b, x, y, pe', fn, ts', as, bo, df, h1, h2, h3, h4, h5, h6⟩ := h
    exact ⟨b, x, y, pe', fn, ts', as, bo, df, by rw [he]; exact h1, h2, h3, h4.move hl hi hb, h5, h6⟩
  | defr =>
    obtain ⟨b, x, y, h1, h2⟩ := h
    exact ⟨b, x, y, by rw [he]; exact h1, h2⟩

/-- The ids of a memory are those that the ghost knows. -/
theorem MRel.lt (h : MRel P G M w) (hf : ∀ id, n ≤ id → G.loc id = none) {id : Nat} {o : Obj} (hm : M id = some o) : id < n := by
  refine Nat.lt_of_not_le fun hn => ?_
  obtain ⟨b, h1, _⟩ := (h.obj id o hm).blk
  simp [Gh.blk, hf id hn] at h1

/-- **A call's end, with new names**: r gives the old name of each name that is kept. -/
theorem CPost.rename {v v' : NV} {n' n2 : Nat} {e : Ending} {M2 : Mem} (r : Nat → Option Nat) (hf : ∀ id, n ≤ id → G.loc id = none) (hn : n ≤ n2) (hr : ∀ id, id < n → r id = some id) (hr2 : ∀ id, n2 ≤ id → r id = none)
    (hinj : ∀ i j k, r i = some k → r j = some k → i = j)
    (hM2 : ∀ id o, M2 id = some o → ∃ k, r id = some k ∧ ∃ o', M' k = some o' ∧ ∀ G1 G2 : Gh, (∀ i k x, r i = some k → G1.loc k = some x → G2.loc i = some x) → (∀ b o v, G1.im b o = some v → G2.im b o = some v) → ORel P G1 w' k o' → ORel P G2 w' id o)
    (hv : ∀ (u : Value) (G1 G2 : Gh), (∀ i k x, r i = some k → G1.loc k = some x → G2.loc i = some x) → (∀ b o v, G1.im b o = some v → G2.im b o = some v) → VR G1 v u → VR G2 v' u)
    (h : CPost P G M w n v M' n' e w') : CPost P G M w n v' M2 n2 e w' := by
  obtain ⟨G', u, rfl, hn', hf', hvu, hM', hA, hold⟩ := h
  have hloc : ∀ i k x, r i = some k → G'.loc k = some x → (⟨fun id => match r id with | some k => G'.loc k | none => none, G'.im⟩ : Gh).loc i = some x := fun i k x hi hk => by simp only [hi]; exact hk
  have hblk : ∀ i k, r i = some k → (⟨fun id => match r id with | some k => G'.loc k | none => none, G'.im⟩ : Gh).blk i = G'.blk k := fun i k hi => by simp only [Gh.blk, hi]
  refine ⟨⟨fun id => match r id with | some k => G'.loc k | none => none, G'.im⟩, u, rfl, hn, fun id hid => by simp only [hr2 id hid], hv u G' _ hloc (fun _ _ _ h => h) hvu, ⟨fun id o hm => ?_, fun i j o o' hi hj hij => ?_, hM'.im, fun b o v i ob him hi => ?_⟩, ⟨⟨fun id x hx => ?_, hA.le.im⟩, hA.size, hA.heap, fun id o hm => ?_, hA.im, hA.tape, hA.os, hA.output⟩, fun id hid => ?_⟩
  · obtain ⟨k, h1, o', h2, h3⟩ := hM2 id o hm
    exact h3 G' _ hloc (fun _ _ _ h => h) (hM'.obj k o' h2)
  · obtain ⟨k, h1, o1, h2, _⟩ := hM2 i o hi
    obtain ⟨k', h1', o1', h2', _⟩ := hM2 j o' hj
    rw [hblk i k h1, hblk j k' h1']
    exact hM'.inj k k' o1 o1' h2 h2' fun e => hij (hinj i j k h1 (by rw [h1', e]))
  · obtain ⟨k, h1, o1, h2, _⟩ := hM2 i ob hi
    rw [hblk i k h1]
    exact hM'.imd b o v k o1 him h2
  · have hid : id < n := Nat.lt_of_not_le fun hn => by rw [hf id hn] at hx; cases hx
    simp only [hr id hid]; exact hA.le.loc id x hx
  · obtain ⟨k, h1, o1, h2, _⟩ := hM2 id o hm
    obtain ⟨b, h3, h4⟩ := hA.own k o1 h2
    exact ⟨b, by rw [hblk id k h1]; exact h3, h4⟩
  · simp only [hr id hid]; exact hold id hid

/-- What the call left above n is forgotten. -/
theorem Callable.drop {f : FuncId} {args : List NV} {v : NV} {n' : Nat} {M2 : Mem} (h : Callable P f args M n v M' n') (hv : v.ub n = true) (hM : ∀ id o, M2 id = some o → id < n ∧ M' id = some o ∧ (M id = some o ∨ o.ub n = true)) :
    Callable P f args M n v M2 n := by
  intro G w args' hf hargs hM0
  have hrr : ∀ (G1 G2 : Gh), (∀ i k x, (if i < n then some i else none) = some k → G1.loc k = some x → G2.loc i = some x) → ∀ id, id < n → ∀ x, G1.loc id = some x → G2.loc id = some x := fun G1 G2 hl id hid x hx => hl id id x (by rw [if_pos hid]) hx
  refine (h G w args' hf hargs hM0).mono fun e w' hp => hp.rename (fun id => if id < n then some id else none) hf (Nat.le_refl _) (fun id hid => if_pos hid) (fun id hid => if_neg (Nat.not_lt.2 hid)) (fun i j k hi hj => ?_) (fun id o hm => ?_)
    (fun u G1 G2 hl hi hvu => hvu.move (hrr G1 G2 hl) hi hv)
  · split at hi <;> split at hj <;> cases hi <;> cases hj; rfl
  · obtain ⟨h1, h2, h3⟩ := hM id o hm
    refine ⟨id, if_pos h1, o, h2, fun G1 G2 hl hi ho => ?_⟩
    have hb : o.ub n = true := by
      rcases h3 with h3 | h3
      · exact (hM0.obj id o h3).ub hf
      · exact h3
    cases hx : G1.loc id with
    | some x => exact ho.move hb (hrr G1 G2 hl) hi (by rw [hrr G1 G2 hl id h1 x hx, hx])
    | none =>
      obtain ⟨b, h4, _⟩ := ho.blk
      simp [Gh.blk, hx] at h4

/-- One new object is kept: it is called n. -/
theorem Callable.one {f : FuncId} {args : List NV} {v v' : NV} {n' k : Nat} {ob : Obj} {M2 : Mem} (h : Callable P f args M n v M' n') (hk : n ≤ k) (hob : M' k = some ob) (hb : ob.ub n = true) (hM2 : M2 n = some ob)
    (hv : ∀ (u : Value) (G1 G2 : Gh), (∀ id, id < n → ∀ x, G1.loc id = some x → G2.loc id = some x) → (∀ x, G1.loc k = some x → G2.loc n = some x) → (∀ b o v, G1.im b o = some v → G2.im b o = some v) → VR G1 v u → VR G2 v' u)
    (hM : ∀ id o, M2 id = some o → id ≠ n → id < n ∧ M' id = some o ∧ (M id = some o ∨ o.ub n = true)) :
    Callable P f args M n v' M2 (n + 1) := by
  intro G w args' hf hargs hM0
  have hrr : ∀ (G1 G2 : Gh), (∀ i j x, (if i < n then some i else if i = n then some k else none) = some j → G1.loc j = some x → G2.loc i = some x) → ∀ id, id < n → ∀ x, G1.loc id = some x → G2.loc id = some x := fun G1 G2 hl id hid x hx => hl id id x (by rw [if_pos hid]) hx
  have hrk : ∀ (G1 G2 : Gh), (∀ i j x, (if i < n then some i else if i = n then some k else none) = some j → G1.loc j = some x → G2.loc i = some x) → ∀ x, G1.loc k = some x → G2.loc n = some x := fun G1 G2 hl x hx => hl n k x (by rw [if_neg (Nat.lt_irrefl n), if_pos rfl]) hx
  refine (h G w args' hf hargs hM0).mono fun e w' hp => hp.rename (fun id => if id < n then some id else if id = n then some k else none) hf (Nat.le_succ _) (fun id hid => if_pos hid) (fun id hid => by rw [if_neg (by omega), if_neg (by omega)]) (fun i j q hi hj => ?_) (fun id o hm => ?_)
    (fun u G1 G2 hl hi hvu => hv u G1 G2 (hrr G1 G2 hl) (hrk G1 G2 hl) hi hvu)
  · split at hi <;> split at hj <;> (try split at hi) <;> (try split at hj) <;> cases hi <;> cases hj <;> first | rfl | (subst_vars; omega) | omega
  · by_cases e : id = n
    · subst e
      rw [hM2] at hm; cases hm
      refine ⟨k, by rw [if_neg (Nat.lt_irrefl _), if_pos rfl], ob, hob, fun G1 G2 hl hi ho => ?_⟩
      cases hx : G1.loc k with
      | some x => exact ho.move hb (hrr G1 G2 hl) hi (by rw [hrk G1 G2 hl x hx, hx])
      | none =>
        obtain ⟨b, h4, _⟩ := ho.blk
        simp [Gh.blk, hx] at h4
    · obtain ⟨h1, h2, h3⟩ := hM id o hm e
      refine ⟨id, if_pos h1, o, h2, fun G1 G2 hl hi ho => ?_⟩
      have hb : o.ub n = true := by
        rcases h3 with h3 | h3
        · exact (hM0.obj id o h3).ub hf
        · exact h3
      cases hx : G1.loc id with
      | some x => exact ho.move hb (hrr G1 G2 hl) hi (by rw [hrr G1 G2 hl id h1 x hx, hx])
      | none =>
        obtain ⟨b, h4, _⟩ := ho.blk
        simp [Gh.blk, hx] at h4

end
end Go.NL
