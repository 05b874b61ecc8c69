/-
  Keys of maps: found, put.
-/
import Derived.Test.YtobpahgkkpmpfaaGreatNlR
namespace Go.NL

section
variable {P : Program} {w : World} {G : Gh}

/-- A key of a type that is compared cell by cell is let by. -/
def CheckAt (P : Program) (em : Bool) (n : Nat) (t : TypeId) (ks : List CK) : Prop :=
  ∀ (w : World) (us : List Value), us.length = ks.length →
    (isAggT P t = some true ∧ (Instr.checkKey em n t (.agg ⟨us⟩)).run P w = .ok () w) ∨
    (isAggT P t = some false ∧ ∃ u, us = [u] ∧ (Instr.checkKey em n t u).run P w = .ok () w)

theorem CheckAt.part {em : Bool} {n : Nat} {t : TypeId} {k1 : List CK} {i : TypeInfo} (h : CheckAt P em n t k1) (hi : P.info? t = some i) (hs : i.size = k1.length) {off : Nat} {U : List Value} (hl : off + k1.length ≤ U.length) :
    ∃ a, (Go.part t ⟨U⟩ off).run P w = .ok a w ∧ (Instr.checkKey em n t a).run P w = .ok () w := by
  rcases h w ((U.drop off).take k1.length) (by simp; omega) with ⟨ha, hr⟩ | ⟨ha, u, hu, hr⟩
  · exact ⟨_, part_agg ha hi, by rw [hs]; exact hr⟩
  · refine ⟨u, part_one ha ?_, hr⟩
    have : ((U.drop off).take k1.length)[0]? = some u := by rw [hu]; rfl
    rw [List.getElem?_take] at this
    split at this
    · simpa [List.getElem?_drop] using this
    · cases this

theorem checkF_ok {em : Bool} {n : Nat} {U : List Value} : ∀ (fs : List Field) (dd off : Nat) (ks : List CK), (∀ d' ≤ dd, ∀ t ks, flatK P d' t = some ks → CheckAt P em n t ks) → flatF P (dd + 1) off fs = some ks → off + ks.length ≤ U.length →
    (forIn fs PUnit.unit fun (f : Field) (_ : PUnit) => (do
      if f.name ≠ "_" then do Instr.checkKey em n f.type (← Go.part f.type ⟨U⟩ f.offset); pure (ForInStep.yield PUnit.unit)
      else pure (ForInStep.yield PUnit.unit) : Sem (ForInStep PUnit))).run P w = .ok PUnit.unit w
  | [], dd, off, ks, _, _, _ => by simp
  | f :: fs, dd, off, ks, hd, h, hl => by
    simp only [flatF] at h
    split at h
    · cases h
    rename_i hn
    simp only [not_or, ne_eq, Decidable.not_not] at hn
    split at h
    · rename_i i k1 rest hi hk hr
      split at h
      · rename_i hs
        cases h
        rw [hi] at hr
        simp only at hr
        simp only [List.length_append] at hl
        obtain ⟨a, p1, p2⟩ := (hd dd (Nat.le_refl _) _ _ hk).part (w := w) (U := U) hi hs (off := off) (by omega)
        simp only [List.forIn_cons, Sem.run_bind, hn.1, hn.2, ne_eq, not_false_eq_true, if_true, Result.andThen_ok, p1, p2, Sem.run_pure]
        cases dd with
        | zero =>
          cases fs with
          | nil => simp
          | cons g gs => simp [flatF] at hr
        | succ dd => exact checkF_ok fs dd (off + i.size) rest (fun d' h' => hd d' (by omega)) hr (by omega)
      · cases h
    · cases h

theorem check_ok (em : Bool) (n : Nat) : ∀ (d : Nat), d ≤ n → ∀ t ks, flatK P d t = some ks → CheckAt P em n t ks := by
  induction n with
  | zero =>
    intro d hd t ks h
    obtain rfl : d = 0 := by omega
    simp [flatK] at h
  | succ n ihn =>
    intro d hd t ks h
    cases d with
    | zero => simp [flatK] at h
    | succ d =>
      intro w us hl
      simp only [flatK] at h
      cases hu : P.underlying t with
      | none => simp [hu] at h
      | some td =>
        simp only [hu] at h
        have hag := underlying_agg hu
        cases td <;> try (simp only [Option.some.injEq, reduceCtorEq] at h)
        case int k =>
          subst h
          obtain ⟨u, rfl⟩ : ∃ u, us = [u] := by
            cases us with
            | nil => simp at hl
            | cons u us => cases us with
              | nil => exact ⟨u, rfl⟩
              | cons _ _ => simp at hl
          exact .inr ⟨hag, u, rfl, by simp only [Instr.checkKey, Sem.run_bind, run_underlying hu, Result.andThen_ok, Sem.run_pure]⟩
        case bool =>
          subst h
          obtain ⟨u, rfl⟩ : ∃ u, us = [u] := by
            cases us with
            | nil => simp at hl
            | cons u us => cases us with
              | nil => exact ⟨u, rfl⟩
              | cons _ _ => simp at hl
          exact .inr ⟨hag, u, rfl, by simp only [Instr.checkKey, Sem.run_bind, run_underlying hu, Result.andThen_ok, Sem.run_pure]⟩
        case string =>
          subst h
          obtain ⟨u, rfl⟩ : ∃ u, us = [u] := by
            cases us with
            | nil => simp at hl
            | cons u us => cases us with
              | nil => exact ⟨u, rfl⟩
              | cons _ _ => simp at hl
          exact .inr ⟨hag, u, rfl, by simp only [Instr.checkKey, Sem.run_bind, run_underlying hu, Result.andThen_ok, Sem.run_pure]⟩
        case struct fs =>
          split at h
          · cases h
          refine .inl ⟨hag, ?_⟩
          simp only [Instr.checkKey, Sem.run_bind, run_underlying hu, Result.andThen_ok]
          rw [← Array.forIn_toList]
          cases d with
          | zero =>
            cases hfs : fs.toList with
            | nil => simp
            | cons g gs => rw [hfs] at h; simp [flatF] at h
          | succ d =>
            have := checkF_ok (P := P) (w := w) (em := em) (n := n) (U := us) fs.toList d 0 ks (fun d' h' => ihn d' (by omega)) h (by omega)
            simp only [ne_eq] at this ⊢
            rw [this]; rfl
        case array m e =>
          split at h
          · rename_i i k1 hi hk
            split at h
            · rename_i hs
              cases h
              refine .inl ⟨hag, ?_⟩
              simp only [Instr.checkKey, Sem.run_bind, run_underlying hu, Result.andThen_ok]
              simp only [Std.Legacy.Range.forIn_eq_forIn_range', Std.Legacy.Range.size, Nat.sub_zero, Nat.add_one_sub_one, Nat.div_one]
              have hlen : us.length = m * k1.length := by rw [hl]; simp
              have each : ∀ j ∈ List.range' 0 m, (j + 1) * k1.length ≤ us.length := fun j hj => by
                simp only [List.mem_range'_1, Nat.zero_add] at hj
                rw [hlen]; exact Nat.mul_le_mul_right _ hj.2
              generalize List.range' 0 m = is at each
              induction is with
              | nil => simp
              | cons j is ih =>
                have hj := each j (by simp)
                obtain ⟨a, p1, p2⟩ := (ihn d (by omega) _ _ hk).part (w := w) (U := us) hi hs (off := j * k1.length) (by rw [Nat.add_mul] at hj; omega)
                rw [← hs] at p1
                simp only [List.forIn_cons, Sem.run_bind, run_sizeOf w hi, Result.andThen_ok]
                have hc : P.cellsOf e = i.size := by simp [Program.cellsOf, hi]
                rw [hc]
                simp only [p1, p2, Result.andThen_ok, Sem.run_pure]
                exact ih (fun y hy => each y (by simp [hy]))
            · cases h
          · cases h

/-- What a key's shape lets by. -/
theorem checkKey_ok {t : TypeId} {sh : EqS} {x y : NV} {p : Value} {r : Bool} {em : Bool} (hs : eqShape P t = some sh) (h : eqN sh x y = some r ∨ eqN sh y x = some r) (hx : VR G x p) : (Instr.checkKey em 10000 t p).run P w = .ok () w := by
  unfold eqShape at hs
  cases hu : P.underlying t with
  | none => simp [hu] at hs
  | some td =>
    simp only [hu] at hs
    have hag := underlying_agg hu
    have fin : ∀ ks : List CK, (match flatK P 40 t with | some ks => some (EqS.flat ks) | none => none) = some sh → isAggT P t = some true → (Instr.checkKey em 10000 t p).run P w = .ok () w := by
      intro _ hf hag
      split at hf
      · rename_i ks hk
        cases hf
        have : ∃ cs vs, x = .agg cs ∧ p = .agg ⟨vs⟩ ∧ vs.length = ks.length := by
          rcases h with h | h
          · cases hx <;> cases y <;> simp only [eqN, reduceCtorEq] at h
            rename_i h1 _
            exact ⟨_, _, rfl, rfl, by rw [← h1.length]; exact (eqFlat_length h).1⟩
          · cases hx <;> cases y <;> simp only [eqN, reduceCtorEq] at h
            rename_i h1 _
            exact ⟨_, _, rfl, rfl, by rw [← h1.length]; exact (eqFlat_length h).2⟩
        obtain ⟨cs, vs, _, rfl, hl⟩ := this
        rcases check_ok (P := P) em 10000 40 (by omega) t ks hk w vs hl with ⟨_, hr⟩ | ⟨ha, _⟩
        · exact hr
        · rw [hag] at ha; cases ha
      · cases hf
    cases td <;> try (simp only [Option.some.injEq, reduceCtorEq] at hs)
    case struct fs =>
      split at hs
      · cases hs
      · exact fin [] hs hag
    case array m e =>
      split at hs
      · cases hs
      · exact fin [] hs hag
    all_goals
      rw [show (10000 : Nat) = 9999 + 1 from rfl]
      generalize (9999 : Nat) = n
      simp only [Instr.checkKey, Sem.run_bind, run_underlying hu, Result.andThen_ok, Sem.run_pure]

/-- A map's entries, as N has them and as the machine has them. -/
def ERel (G : Gh) : List (Nat × NV × NV) → List MapEntry → Prop
  | [], [] => True
  | (s, k, v) :: l, e :: es => e.born = s ∧ VR G k e.key ∧ VR G v e.val ∧ ERel G l es
  | _, _ => False

theorem ERel.of {l : List (Nat × NV × NV)} {es : List MapEntry} (h1 : VRs G (l.map (·.2.1)) (es.map (·.key))) (h2 : VRs G (l.map (·.2.2)) (es.map (·.val))) (h3 : l.map (·.1) = es.map (·.born)) : ERel G l es := by
  induction l generalizing es with
  | nil => cases es <;> simp_all [ERel]
  | cons a l ih =>
    obtain ⟨s, k, v⟩ := a
    cases es with
    | nil => simp at h3
    | cons e es =>
      simp only [List.map_cons] at h1 h2 h3
      cases h1 with
      | cons a1 b1 => cases h2 with
        | cons a2 b2 =>
          simp only [List.cons.injEq] at h3
          exact ⟨h3.1.symm, a1, a2, ih b1 b2 h3.2⟩

theorem ERel.to {l : List (Nat × NV × NV)} {es : List MapEntry} (h : ERel G l es) : VRs G (l.map (·.2.1)) (es.map (·.key)) ∧ VRs G (l.map (·.2.2)) (es.map (·.val)) ∧ l.map (·.1) = es.map (·.born) := by
  induction l generalizing es with
  | nil => cases es with
    | nil => exact ⟨.nil, .nil, rfl⟩
    | cons _ _ => exact h.elim
  | cons a l ih =>
    obtain ⟨s, k, v⟩ := a
    cases es with
    | nil => exact h.elim
    | cons e es =>
      obtain ⟨h1, h2, h3, h4⟩ := h
      obtain ⟨r1, r2, r3⟩ := ih h4
      exact ⟨.cons h2 r1, .cons h3 r2, by simp [h1, r3]⟩

theorem ERel.length {l : List (Nat × NV × NV)} {es : List MapEntry} (h : ERel G l es) : l.length = es.length := by
  have := h.to.2.2
  simpa using congrArg List.length this

/-- What a search finds: nothing, or the place of the entry. -/
def idxN (sh : EqS) (k : NV) : List (Nat × NV × NV) → Option (Option Nat)
  | [] => some none
  | (_, k', _) :: es => match eqN sh k k' with
    | some true => some (some 0)
    | some false => (idxN sh k es).map (Option.map (· + 1))
    | none => none

/-- A key that is looked for is of the map's type. -/
theorem findN_key {sh : EqS} {k : NV} : ∀ {l : List (Nat × NV × NV)} {r : Option (Nat × NV)}, findN sh k l = some r → ∃ y b, eqN sh k y = some b
  | [], r, h => by
    simp only [findN] at h
    split at h
    · rename_i hs; exact ⟨k, _, (Option.isSome_iff_exists.1 hs).choose_spec⟩
    · cases h
  | (s, k', v) :: l, r, h => by
    simp only [findN] at h
    split at h
    · exact ⟨_, _, by assumption⟩
    · exact ⟨_, _, by assumption⟩
    · cases h

theorem findN_idx {sh : EqS} {k : NV} : ∀ {l : List (Nat × NV × NV)} {r : Option (Nat × NV)}, findN sh k l = some r →
    (r = none ∧ idxN sh k l = some none) ∨ ∃ j s k' v, r = some (s, v) ∧ idxN sh k l = some (some j) ∧ l[j]? = some (s, k', v) ∧ eqN sh k k' = some true
  | [], r, h => by
    simp only [findN] at h
    split at h
    · simp only [Option.some.injEq] at h; exact .inl ⟨h.symm, rfl⟩
    · cases h
  | (s, k', v) :: l, r, h => by
    simp only [findN] at h
    split at h
    · rename_i he
      cases h
      exact .inr ⟨0, s, k', v, rfl, by simp only [idxN, he], rfl, he⟩
    · rename_i he
      rcases findN_idx h with ⟨e1, e2⟩ | ⟨j, s', k'', v', e1, e2, e3, e4⟩
      · exact .inl ⟨e1, by simp only [idxN, he, e2]; rfl⟩
      · exact .inr ⟨j + 1, s', k'', v', e1, by simp only [idxN, he, e2]; rfl, e3, e4⟩
    · cases h

/-- The entry at a place, as the machine's search hands it back. -/
def hit (es : List MapEntry) (i : Nat) : Option Nat → Option (Nat × Value)
  | none => none
  | some j => (es[j]?).map fun e => (i + j, e.val)

theorem hit_succ (e : MapEntry) (es : List MapEntry) (i : Nat) (r : Option Nat) : hit es (i + 1) r = hit (e :: es) i (r.map (· + 1)) := by
  cases r with
  | none => rfl
  | some j => simp only [hit, Option.map_some, List.getElem?_cons_succ, show i + 1 + j = i + (j + 1) from by omega]

theorem findAsking_ok {t : TypeId} {sh : EqS} {k : NV} {p : Value} (hs : eqShape P t = some sh) (hk : VR G k p) : ∀ (l : List (Nat × NV × NV)) (es : List MapEntry) (i : Nat) (r : Option Nat), ERel G l es → idxN sh k l = some r →
    (Instr.findAsking t p es i).run P w = .ok (hit es i r) w
  | [], [], i, r, _, h => by simp only [idxN, Option.some.injEq] at h; subst h; rfl
  | (s, k', v) :: l, e :: es, i, r, hE, h => by
    obtain ⟨h1, h2, h3, h4⟩ := hE
    simp only [idxN] at h
    split at h
    · rename_i he
      cases h
      simp only [Instr.findAsking]
      rw [rb (equal_ok hs he hk h2)]
      rfl
    · rename_i he
      simp only [Instr.findAsking]
      rw [rb (equal_ok hs he hk h2)]
      simp only [Bool.false_eq_true, if_false]
      cases hi : idxN sh k l with
      | none => simp [hi] at h
      | some r' =>
        simp only [hi, Option.map_some, Option.some.injEq] at h
        rw [findAsking_ok hs hk l es (i + 1) r' h4 hi]
        subst h
        rw [hit_succ e]
    · cases h
  | [], _ :: _, _, _, h, _ => h.elim
  | _ :: _, [], _, _, h, _ => h.elim

theorem findNow_ok {td : TypeDesc} {k : NV} {p : Value} (hk : VR G k p) {ck : CK} (hd : match ck with | .int q => td = .int q | .bool => td = .bool | .str => td = .string) :
    ∀ (l : List (Nat × NV × NV)) (es : List MapEntry) (i : Nat) (r : Option Nat), ERel G l es → idxN (.one ck) k l = some r →
    Instr.findNow td p es i = some (hit es i r)
  | [], [], i, r, _, h => by simp only [idxN, Option.some.injEq] at h; subst h; rfl
  | (s, k', v) :: l, e :: es, i, r, hE, h => by
    obtain ⟨h1, h2, h3, h4⟩ := hE
    have same : ∀ b, eqN (.one ck) k k' = some b → Instr.sameNow td p e.key = some b := by
      intro b hb
      simp only [eqN] at hb
      generalize e.key = q at h2
      cases hk <;> cases h2 <;> cases ck <;> simp only [eqCK, reduceCtorEq] at hb
      · cases hb; subst hd; rfl
      · split at hb
        · rename_i hc
          obtain ⟨rfl, rfl⟩ := hc
          cases hb; subst hd; simp [Instr.sameNow]
        · cases hb
      · cases hb; subst hd
        simp only [Instr.sameNow, beq_toListBytes, toList_mk]
    simp only [idxN] at h
    split at h
    · rename_i he
      cases h
      simp only [Instr.findNow, same _ he]
      rfl
    · rename_i he
      simp only [Instr.findNow, same _ he]
      cases hi : idxN (.one ck) k l with
      | none => simp [hi] at h
      | some r' =>
        simp only [hi, Option.map_some, Option.some.injEq] at h
        rw [findNow_ok hk hd l es (i + 1) r' h4 hi]
        subst h
        rw [hit_succ e]
    · cases h
  | [], _ :: _, _, _, h, _ => h.elim
  | _ :: _, [], _, _, h, _ => h.elim

theorem findKey_ok {t : TypeId} {sh : EqS} {k : NV} {p : Value} (hs : eqShape P t = some sh) (hk : VR G k p) {l : List (Nat × NV × NV)} {es : List MapEntry} {r : Option Nat} (hE : ERel G l es) (h : idxN sh k l = some r) :
    (Instr.findKey t p es).run P w = .ok (hit es 0 r) w := by
  have hask := findAsking_ok (P := P) (w := w) hs hk l es 0 r hE h
  cases hu : P.underlying t with
  | none => simp [eqShape, hu] at hs
  | some td =>
    unfold Instr.findKey
    rw [rb (r_under hu)]
    have now : ∀ ck, sh = .one ck → (match ck with | .int q => td = .int q | .bool => td = .bool | .str => td = .string) →
        Instr.findNow td p es 0 = some (hit es 0 r) := by
      intro ck hc hd
      subst hc
      exact findNow_ok hk hd l es 0 r hE h
    have other : (∀ q, Instr.sameNow td p q = none) → (match Instr.findNow td p es 0 with | some r => pure r | none => Instr.findAsking t p es : Sem _).run P w = .ok (hit es 0 r) w := by
      intro hn
      cases es with
      | nil =>
        cases l with
        | nil => simp only [idxN, Option.some.injEq] at h; subst h; rfl
        | cons _ _ => exact hE.elim
      | cons e es =>
        simp only [Instr.findNow, hn]
        exact hask
    unfold eqShape at hs
    simp only [hu] at hs
    cases td <;> try (simp only [Option.some.injEq, reduceCtorEq] at hs)
    case int q => rw [now (.int q) hs.symm rfl]; rfl
    case bool => rw [now .bool hs.symm rfl]; rfl
    case string => rw [now .str hs.symm rfl]; rfl
    all_goals exact other (fun q => by cases p <;> cases q <;> rfl)

theorem same_cells : ∀ {ks : List CK} {xs ys : List NV} {us vs : List Value}, eqFlat ks xs ys = some true → VRs G xs us → VRs G ys vs → ∀ n, us.length = vs.length ∧ (us.zip vs).all (fun (x, y) => Instr.sameBits n y x) = true ∧ (vs.zip us).all (fun (x, y) => Instr.sameBits n x y) = true
  | [], [], [], us, vs, _, hx, hy, n => by cases hx; cases hy; simp
  | k :: ks, x :: xs, y :: ys, us, vs, h, hx, hy, n => by
    cases hx with
    | cons hx tx => cases hy with
      | cons hy ty =>
        simp only [eqFlat] at h
        split at h
        · rename_i p q h1 h2
          simp only [Option.some.injEq, Bool.and_eq_true] at h
          obtain ⟨rfl, rfl⟩ := h
          obtain ⟨e1, e2, e3⟩ := same_cells h2 tx ty n
          have hs : ∀ {a b : Value}, VR G x a → VR G y b → Instr.sameBits n b a = true := by
            intro a b ha hb
            cases ha <;> cases hb <;> cases k <;> simp only [eqCK, reduceCtorEq] at h1
            · simp only [Option.some.injEq, beq_iff_eq] at h1; subst h1; simp [Instr.sameBits]
            · split at h1
              · rename_i hc
                obtain ⟨rfl, rfl⟩ := hc
                simp only [Option.some.injEq, beq_iff_eq] at h1; subst h1; simp [Instr.sameBits]
              · cases h1
            · simp only [Option.some.injEq, beq_iff_eq] at h1; subst h1; simp [Instr.sameBits, beq_toListBytes]
          refine ⟨by simp [e1], ?_, ?_⟩
          · simp only [List.zip_cons_cons, List.all_cons, Bool.and_eq_true]; exact ⟨hs hx hy, e2⟩
          · simp only [List.zip_cons_cons, List.all_cons, Bool.and_eq_true]; exact ⟨hs hx hy, e3⟩
        · cases h
  | [], [], _ :: _, _, _, h, _, _, _ => by simp [eqFlat] at h
  | [], _ :: _, _, _, _, h, _, _, _ => by simp [eqFlat] at h
  | _ :: _, [], _, _, _, h, _, _, _ => by simp [eqFlat] at h
  | _ :: _, _ :: _, [], _, _, h, _, _, _ => by simp [eqFlat] at h

/-- The key that is put where an equal one is: the new one. -/
theorem stays_ok {sh : EqS} {k k' : NV} {p q : Value} (h : eqN sh k k' = some true) (hk : VR G k p) (hk' : VR G k' q) (hn : sh ≠ .nilp ∧ sh ≠ .nils ∧ sh ≠ .nilm ∧ sh ≠ .nilf) : (Instr.keyThatStays q p).run P w = .ok p w := by
  have hb : Instr.sameBits 10000 q p = true := by
    cases sh with
    | one ck =>
      simp only [eqN] at h
      cases hk <;> cases hk' <;> cases ck <;> simp only [eqCK, reduceCtorEq] at h
      · simp only [Option.some.injEq, beq_iff_eq] at h; subst h; simp [Instr.sameBits]
      · split at h
        · rename_i hc
          obtain ⟨rfl, rfl⟩ := hc
          simp only [Option.some.injEq, beq_iff_eq] at h; subst h; simp [Instr.sameBits]
        · cases h
      · simp only [Option.some.injEq, beq_iff_eq] at h; subst h; simp [Instr.sameBits, beq_toListBytes]
    | flat ks =>
      cases hk <;> cases hk' <;> simp only [eqN, reduceCtorEq] at h
      rename_i cs us h1 cs' vs h2
      obtain ⟨e1, e2, e3⟩ := same_cells h h1 h2 9999
      rw [show (10000 : Nat) = 9999 + 1 from rfl]
      generalize (9999 : Nat) = n at *
      simp only [Instr.sameBits, Bool.and_eq_true, beq_iff_eq]
      exact ⟨by simp [e1], by simpa using e3⟩
    | nilp => exact absurd rfl hn.1
    | nils => exact absurd rfl hn.2.1
    | nilm => exact absurd rfl hn.2.2.1
    | nilf => exact absurd rfl hn.2.2.2
  unfold Instr.keyThatStays
  rw [if_pos hb]; rfl

end
end Go.NL
