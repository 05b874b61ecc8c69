/-
  Comparison: values of a type, keys of maps.
-/
import Derived.Test.YtobpahgkkpmpfaaGreatNlQ
import Derived.Laws.StructEq
import Derived.ChangeKeysEq
namespace Go.NL

section
variable {P : Program} {w : World} {G : Gh}

/-- The type that a kind of cell tells. -/
def CK.fits (P : Program) (t : TypeId) : CK → Prop
  | .int k => P.underlying t = some (.int k)
  | .bool => P.underlying t = some .bool
  | .str => P.underlying t = some .string

theorem eqCK_ok {k : CK} {x y : NV} {r : Bool} {p q : Value} (h : eqCK k x y = some r) (hx : VR G x p) (hy : VR G y q) {t : TypeId} (n : Nat) (hk : k.fits P t) : (Op.equalIn (n + 1) t p q).run P w = .ok r w := by
  cases hx <;> cases hy <;> cases k <;> simp only [eqCK, reduceCtorEq] at h
  · cases h; exact run_equalIn_bool w n t _ _ hk
  · split at h
    · rename_i hc
      obtain ⟨rfl, rfl⟩ := hc
      cases h; exact run_equalIn_int w n t _ _ _ _ hk
    · cases h
  · cases h
    rw [run_equalIn_string w n t _ _ hk, toList_mk, toList_mk]

theorem eqFlat_length : ∀ {ks : List CK} {xs ys : List NV} {r : Bool}, eqFlat ks xs ys = some r → xs.length = ks.length ∧ ys.length = ks.length
  | [], [], [], _, _ => ⟨rfl, rfl⟩
  | k :: ks, x :: xs, y :: ys, r, h => by
    simp only [eqFlat] at h
    split at h
    · rename_i p q h1 h2
      have := eqFlat_length h2
      simp [this]
    · cases h
  | [], [], _ :: _, _, h => by simp [eqFlat] at h
  | [], _ :: _, _, _, h => by simp [eqFlat] at h
  | _ :: _, [], _, _, h => by simp [eqFlat] at h
  | _ :: _, _ :: _, [], _, h => by simp [eqFlat] at h

theorem eqFlat_append : ∀ {k1 k2 : List CK} {xs ys : List NV} {r : Bool}, eqFlat (k1 ++ k2) xs ys = some r →
    ∃ r1 r2, eqFlat k1 (xs.take k1.length) (ys.take k1.length) = some r1 ∧ eqFlat k2 (xs.drop k1.length) (ys.drop k1.length) = some r2 ∧ r = (r1 && r2)
  | [], k2, xs, ys, r, h => ⟨true, r, by simp [eqFlat], by simpa using h, by simp⟩
  | k :: k1, k2, x :: xs, y :: ys, r, h => by
    simp only [List.cons_append, eqFlat] at h
    split at h
    · rename_i p q h1 h2
      cases h
      obtain ⟨r1, r2, e1, e2, e3⟩ := eqFlat_append h2
      refine ⟨p && r1, r2, ?_, by simpa using e2, by rw [e3, Bool.and_assoc]⟩
      simp only [List.length_cons, List.take_succ_cons, eqFlat, h1, e1]
    · cases h
  | k :: k1, k2, [], _, r, h => by simp [eqFlat] at h
  | k :: k1, k2, _ :: _, [], r, h => by simp [eqFlat] at h

def aggD : TypeDesc → Bool
  | .struct _ | .array _ _ => true
  | _ => false

theorem underlying_agg {t : TypeId} {d : TypeDesc} (h : P.underlying t = some d) : isAggT P t = some (aggD d) := by
  unfold isAggT; rw [h]; cases d <;> rfl

theorem part_agg {t : TypeId} {i : TypeInfo} {us : List Value} {off : Nat} (ha : isAggT P t = some true) (hi : P.info? t = some i) :
    (part t ⟨us⟩ off).run P w = .ok (.agg ⟨(us.drop off).take i.size⟩) w := by
  unfold part
  rw [rb (r_isAgg ha)]
  simp only [if_true]
  rw [rb (r_size hi)]
  have e : (⟨us⟩ : Array Value).extract off (off + i.size) = ⟨(us.drop off).take i.size⟩ := by
    apply Array.ext'; simp [List.extract_eq_take_drop]
  rw [e]; rfl

theorem part_one {t : TypeId} {us : List Value} {off : Nat} {u : Value} (ha : isAggT P t = some false) (hu : us[off]? = some u) :
    (part t ⟨us⟩ off).run P w = .ok u w := by
  unfold part
  rw [rb (r_isAgg ha)]
  simp only [Bool.false_eq_true, if_false]
  have : (⟨us⟩ : Array Value)[off]? = some u := by simpa using hu
  rw [this]; rfl

/-- What holds of a type whose values are compared cell by cell. -/
def FlatAt (P : Program) (n : Nat) (t : TypeId) (ks : List CK) : Prop :=
  ∀ (G : Gh) (w : World) (xs ys : List NV) (us vs : List Value) (r : Bool), VRs G xs us → VRs G ys vs → eqFlat ks xs ys = some r →
    (isAggT P t = some true ∧ (Op.equalIn n t (.agg ⟨us⟩) (.agg ⟨vs⟩)).run P w = .ok r w) ∨
    (isAggT P t = some false ∧ ∃ u v, us = [u] ∧ vs = [v] ∧ (Op.equalIn n t u v).run P w = .ok r w)

theorem FlatAt.part {n : Nat} {t : TypeId} {k1 : List CK} {i : TypeInfo} (h : FlatAt P n t k1) (hi : P.info? t = some i) (hs : i.size = k1.length) {off : Nat} {X Y : List NV} {U V : List Value} {r1 : Bool}
    (hX : VRs G X U) (hY : VRs G Y V) (he : eqFlat k1 ((X.drop off).take k1.length) ((Y.drop off).take k1.length) = some r1) :
    ∃ a b, (Go.part t ⟨U⟩ off).run P w = .ok a w ∧ (Go.part t ⟨V⟩ off).run P w = .ok b w ∧ (Op.equalIn n t a b).run P w = .ok r1 w := by
  have h1 := (hX.drop off).take k1.length
  have h2 := (hY.drop off).take k1.length
  rcases h G w _ _ _ _ _ h1 h2 he with ⟨ha, hr⟩ | ⟨ha, u, v, hu, hv, hr⟩
  · exact ⟨_, _, part_agg ha hi, part_agg ha hi, by rw [hs]; exact hr⟩
  · have get : ∀ {W : List Value} {u : Value}, (W.drop off).take k1.length = [u] → W[off]? = some u := by
      intro W u hW
      have : ((W.drop off).take k1.length)[0]? = some u := by rw [hW]; rfl
      rw [List.getElem?_take] at this
      split at this
      · simpa [List.getElem?_drop] using this
      · cases this
    exact ⟨u, v, part_one ha (get hu), part_one ha (get hv), hr⟩

theorem flatF_ok {n d : Nat} (IH : ∀ t ks, flatK P d t = some ks → FlatAt P n t ks) {X Y : List NV} {U V : List Value} (hX : VRs G X U) (hY : VRs G Y V) :
    ∀ (fs : List Field) (dd off : Nat) (ks : List CK) (r : Bool), (∀ t ks, flatK P dd t = some ks → FlatAt P n t ks) → (∀ d' < dd, ∀ t ks, flatK P d' t = some ks → FlatAt P n t ks) → flatF P (dd + 1) off fs = some ks →
      eqFlat ks (X.drop off) (Y.drop off) = some r → (Op.eqFields n ⟨U⟩ ⟨V⟩ fs).run P w = .ok r w
  | [], dd, off, ks, r, _, _, h, he => by
    simp only [flatF] at h; cases h
    have : X.drop off = [] ∧ Y.drop off = [] := by
      have := eqFlat_length he; exact ⟨List.length_eq_zero_iff.1 this.1, List.length_eq_zero_iff.1 this.2⟩
    rw [this.1, this.2] at he
    simp only [eqFlat] at he; cases he
    simp [Op.eqFields]
  | f :: fs, dd, off, ks, r, hd, hlt, h, he => by
    simp only [flatF] at h
    split at h
    · cases h
    rename_i hn
    simp only [not_or, ne_eq, Decidable.not_not] at hn
    split at h
    · rename_i i k1 rest hi hk hr
      split at h
      · rename_i hs
        cases h
        rw [hi] at hr
        simp only at hr
        obtain ⟨r1, r2, e1, e2, e3⟩ := eqFlat_append he
        obtain ⟨a, b, p1, p2, p3⟩ := (hd _ _ hk).part (w := w) hi hs hX hY e1
        have hrest : (Op.eqFields n ⟨U⟩ ⟨V⟩ fs).run P w = .ok r2 w := by
          cases dd with
          | zero =>
            cases fs with
            | nil =>
              simp only [flatF] at hr; cases hr
              have : X.drop (off + k1.length) = [] ∧ Y.drop (off + k1.length) = [] := by
                rw [List.drop_drop, List.drop_drop] at e2
                have := eqFlat_length e2; exact ⟨List.length_eq_zero_iff.1 this.1, List.length_eq_zero_iff.1 this.2⟩
              rw [List.drop_drop, List.drop_drop, this.1, this.2] at e2
              simp only [eqFlat] at e2; cases e2
              simp [Op.eqFields]
            | cons g gs => simp [flatF] at hr
          | succ dd =>
            rw [List.drop_drop, List.drop_drop] at e2
            rw [← hs] at e2
            exact flatF_ok IH hX hY fs dd (off + i.size) rest r2 (hlt dd (by omega)) (fun d' h' => hlt d' (by omega)) hr e2
        simp only [Op.eqFields, hn.1, hn.2, ne_eq, not_false_eq_true, if_true]
        rw [rb p1, rb p2, rb p3]
        cases r1
        · simp [e3]
        · simp only [Bool.not_true, Bool.false_eq_true, if_false]
          rw [hrest, e3]; simp
      · cases h
    · cases h

theorem eqFlat_rep {e : TypeId} {ks : List CK} {n : Nat} {i : TypeInfo} (IH : FlatAt P n e ks) (hi : P.info? e = some i) (hs : i.size = ks.length) {X Y : List NV} {U V : List Value} (hX : VRs G X U) (hY : VRs G Y V) :
    ∀ (m k : Nat) (r : Bool), eqFlat ((List.replicate m ks).flatten) (X.drop (k * ks.length)) (Y.drop (k * ks.length)) = some r → (Op.eqItems n e (P.cellsOf e) ⟨U⟩ ⟨V⟩ (List.range' k m)).run P w = .ok r w
  | 0, k, r, h => by
    have hl := eqFlat_length h
    simp only [List.replicate_zero, List.flatten_nil, List.length_nil] at hl h
    rw [List.length_eq_zero_iff.1 hl.1, List.length_eq_zero_iff.1 hl.2] at h
    simp only [eqFlat] at h; cases h
    simp [Op.eqItems]
  | m + 1, k, r, h => by
    rw [List.replicate_succ, List.flatten_cons] at h
    obtain ⟨r1, r2, e1, e2, e3⟩ := eqFlat_append h
    obtain ⟨a, b, p1, p2, p3⟩ := IH.part (w := w) hi hs hX hY e1
    have hc : P.cellsOf e = ks.length := by simp [Program.cellsOf, hi, hs]
    have h2 := eqFlat_rep IH hi hs hX hY m (k + 1) r2 (by
      rw [List.drop_drop, List.drop_drop] at e2
      rw [show (k + 1) * ks.length = k * ks.length + ks.length from by rw [Nat.add_mul, Nat.one_mul]]
      exact e2)
    rw [List.range'_succ]
    simp only [Op.eqItems, hc]
    rw [rb p1, rb p2, rb p3]
    cases r1
    · simp [e3]
    · simp only [Bool.not_true, Bool.false_eq_true, if_false]
      rw [hc] at h2
      rw [h2, e3]; simp

theorem flat_ok (n : Nat) : ∀ (d : Nat), d ≤ n → ∀ t ks, flatK P d t = some ks → FlatAt P n t ks := by
  induction n with
  | zero =>
    intro d hd t ks h
    obtain rfl : d = 0 := by omega
    simp [flatK] at h
  | succ n ihn =>
    intro d hd t ks h
    cases d with
    | zero => simp [flatK] at h
    | succ d =>
      intro G w xs ys us vs r hx hy he
      simp only [flatK] at h
      have one : ∀ k : CK, ks = [k] → k.fits P t →
          ∃ u v, us = [u] ∧ vs = [v] ∧ (Op.equalIn (n + 1) t u v).run P w = .ok r w := by
        intro k hk hu
        subst hk
        cases hx with
        | nil => simp [eqFlat] at he
        | cons hx tx =>
          cases hy with
          | nil => simp [eqFlat] at he
          | cons hy ty =>
            have hl := eqFlat_length he
            cases tx with
            | cons _ _ => simp at hl
            | nil =>
              cases ty with
              | cons _ _ => simp at hl
              | nil =>
                simp only [eqFlat] at he
                split at he
                · rename_i p q h1 h2
                  cases h2; cases he
                  exact ⟨_, _, rfl, rfl, by rw [Bool.and_true]; exact eqCK_ok h1 hx hy n hu⟩
                · cases he
      cases hu : P.underlying t with
      | none => simp [hu] at h
      | some td =>
        simp only [hu] at h
        have hag := underlying_agg hu
        cases td <;> try (simp only [Option.some.injEq, reduceCtorEq] at h)
        case int k => exact .inr ⟨hag, one _ h.symm hu⟩
        case bool => exact .inr ⟨hag, one _ h.symm hu⟩
        case string => exact .inr ⟨hag, one _ h.symm hu⟩
        case struct fs =>
          split at h
          · cases h
          rename_i hst
          refine .inl ⟨hag, ?_⟩
          have hf : P.fieldsOf t = fs := by simp [Program.fieldsOf, hu]
          rw [run_equalIn_struct w n t _ _ (by rw [hf]; exact hu) (by simpa using hst), hf]
          cases d with
          | zero =>
            cases hfs : fs.toList with
            | nil =>
              rw [hfs] at h; simp only [flatF] at h; cases h
              have hl := eqFlat_length he
              rw [List.length_eq_zero_iff.1 hl.1, List.length_eq_zero_iff.1 hl.2] at he
              simp only [eqFlat] at he; cases he
              simp [Op.eqFields]
            | cons g gs => rw [hfs] at h; simp [flatF] at h
          | succ d => exact flatF_ok (d := d) (ihn d (by omega)) hx hy fs.toList d 0 ks r (ihn d (by omega)) (fun d' h' => ihn d' (by omega)) h (by simpa using he)
        case array m e =>
          split at h
          · rename_i i k1 hi hk
            split at h
            · rename_i hs
              cases h
              refine .inl ⟨hag, ?_⟩
              rw [run_equalIn_array w n _ _ hu hi, List.range_eq_range']
              exact eqFlat_rep (ihn d (by omega) _ _ hk) hi hs hx hy m 0 r (by simpa using he)
            · cases h
          · cases h

/-- **Two values of a type that can be compared.** -/
theorem equal_ok {t : TypeId} {sh : EqS} {x y : NV} {p q : Value} {r : Bool} (hs : eqShape P t = some sh) (h : eqN sh x y = some r) (hx : VR G x p) (hy : VR G y q) : (Op.equal t p q).run P w = .ok r w := by
  show (Op.equalIn (9999 + 1) t p q).run P w = .ok r w
  unfold eqShape at hs
  have fin : ∀ ks : List CK, (match flatK P 40 t with | some ks => some (EqS.flat ks) | none => none) = some sh → isAggT P t = some true → (Op.equalIn (9999 + 1) t p q).run P w = .ok r w := by
    intro _ hf hag
    split at hf
    · rename_i ks hk
      cases hf
      cases hx <;> cases hy <;> simp only [eqN, reduceCtorEq] at h
      rename_i cs vs h1 cs' vs' h2
      rcases flat_ok (P := P) 10000 40 (by omega) t ks hk G w _ _ _ _ _ h1 h2 h with ⟨_, hr⟩ | ⟨ha, _⟩
      · exact hr
      · rw [hag] at ha; cases ha
    · cases hf
  cases hu : P.underlying t with
  | none => simp [hu] at hs
  | some td =>
    simp only [hu] at hs
    have hag := underlying_agg hu
    cases td <;> try (simp only [Option.some.injEq, reduceCtorEq] at hs)
    case int k => subst hs; exact eqCK_ok h hx hy 9999 hu
    case bool => subst hs; exact eqCK_ok h hx hy 9999 hu
    case string => subst hs; exact eqCK_ok h hx hy 9999 hu
    case struct fs =>
      split at hs
      · cases hs
      · exact fin [] hs hag
    case array m e =>
      split at hs
      · cases hs
      · exact fin [] hs hag
    all_goals
      subst hs
      cases hx <;> cases hy <;> simp only [eqN, reduceCtorEq, Option.some.injEq] at h <;> subst h <;> (generalize 9999 = m; simp [Op.equalIn, run_underlying hu])

theorem val_eq {op : BinOp} {ty ty' : TypeId} {x y : Operand} {x' y' : Opd} {sh : EqS} {v : NV} {t : List NV} {a : Act} (hop : op = .eql ∨ op = .neq) (ht : VRs G t a.tmps.toList) (hs : eqShape P ty = some sh) (hx : oO x = some x') (hy : oO y = some y')
    (hno : ∀ k, sh ≠ .one (.int k)) (hno' : sh ≠ .one .str) (hv : nop t (.eq (op == .neq) sh x' y') = .val v) {o : Oper} (ho : o.op = .binOp op ty x y ty') : ValOk P G w (execOp a.eval o) v := by
  have h1 := oO_vr ht hx
  have h2 := oO_vr ht hy
  simp only [nop] at hv
  simp only [execOp, ho]
  generalize a.eval x = p at h1 ⊢
  generalize a.eval y = q at h2 ⊢
  split at hv
  · rename_i r hr
    cases hv
    have he := equal_ok (P := P) (w := w) hs hr h1 h2
    have hg : (eqGuard op ty x y p q).run P w = .ok () w := by
      cases sh with
      | flat ks =>
        generalize getO t x' = g1 at *
        generalize getO t y' = g2 at *
        cases h1 <;> cases h2 <;> simp only [eqN, reduceCtorEq] at hr
        refine run_eqGuard_agg w op ty x y _ _ ?_
        unfold eqShape at hs
        split at hs <;> (try cases hs)
        all_goals
          split at hs
          · cases hs
          · rename_i hh; simpa using hh
      | _ =>
        generalize getO t x' = g1 at *
        generalize getO t y' = g2 at *
        cases h1 <;> cases h2 <;> (first | (simp only [eqN, eqCK, reduceCtorEq] at hr; done) | exact eqGuard_quick (by simp) (by simp))
    have hb : (binOp op ty p q).run P w = .ok (.bool (if op == .neq then !r else r)) w := by
      generalize getO t x' = g1 at *
      generalize getO t y' = g2 at *
      have hfin : binOp op ty p q = (match op with | .eql => (do pure (.bool (← Op.equal ty p q))) | _ => (do pure (.bool (!(← Op.equal ty p q))))) := by
        cases sh with
        | one k =>
          cases k with
          | int k => exact absurd rfl (hno k)
          | str => exact absurd rfl hno'
          | bool => cases h1 <;> cases h2 <;> simp only [eqN, eqCK, reduceCtorEq] at hr <;> rcases hop with rfl | rfl <;> rfl
        | _ => cases h1 <;> cases h2 <;> simp only [eqN, reduceCtorEq] at hr <;> rcases hop with rfl | rfl <;> rfl
      rw [hfin]
      rcases hop with rfl | rfl
      · simp only; rw [rb he]; rfl
      · simp only; rw [rb he]; rfl
    refine ⟨_, r_v ?_, .b _⟩
    rw [rb hg]
    exact hb
  · cases hv

end
end Go.NL
