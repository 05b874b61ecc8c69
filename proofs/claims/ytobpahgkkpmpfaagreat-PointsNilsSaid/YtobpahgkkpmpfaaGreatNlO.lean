/-
  Each operation of the machine does what its reading says: those that only yield a value.
-/
import Derived.Test.YtobpahgkkpmpfaaGreatNlM
import Derived.Laws.Strings
namespace Go.NL

section
variable {P : Program} {w w' : World} {G : Gh} {t : List NV} {a : Act}

theorem r_v {s : Sem Value} {u : Value} (h : s.run P w = .ok u w') : (do pure (Next.value (← s)) : Sem Next).run P w = .ok (.value u) w' := by
  rw [rb h]; rfl

theorem r_u {s : Sem Unit} (h : s.run P w = .ok () w') : (do s; pure Next.skip : Sem Next).run P w = .ok .skip w' := by
  rw [rb h]; rfl

theorem pureOf_run {α : Type} {s : Sem α} {v : α} (h : pureOf s = some v) : s.run P w = .ok v w := by
  cases s <;> simp [pureOf] at h
  subst h; rfl

theorem r_asI {x : NV} {y : Value} {n : Int} (h : VR G x y) (hn : asI x = some n) : ∃ k, (asIntOf y).run P w = .ok (k, n) w := by
  unfold asI at hn
  split at hn
  · cases hn; cases h; exact ⟨_, rfl⟩
  · cases hn

/-- What the two readings of one operation yield. -/
abbrev ValOk (P : Program) (G : Gh) (w : World) (s : Sem Next) (v : NV) : Prop := ∃ u, s.run P w = .ok (.value u) w ∧ VR G v u

theorem val_pick {c x y : Operand} {c' x' y' : Opd} {v : NV} (ht : VRs G t a.tmps.toList) (hc : oO c = some c') (hx : oO x = some x') (hy : oO y = some y')
    (hv : nop t (.pick c' x' y') = .val v) : ValOk P G w (do pure (Next.value (if ← asBool (a.eval c) then a.eval x else a.eval y))) v := by
  have h1 := oO_vr ht hc
  simp only [nop] at hv
  split at hv
  · rename_i bb hb
    rw [hb] at h1
    generalize a.eval c = cv at h1 ⊢
    cases h1
    cases hv
    refine ⟨_, by rw [rb (rfl : (asBool (.bool bb)).run P w = .ok bb w)]; rfl, ?_⟩
    cases bb
    · exact oO_vr ht hy
    · exact oO_vr ht hx
  · cases hv

theorem val_nilck {x : Operand} {x' : Opd} {v : NV} (ht : VRs G t a.tmps.toList) (hx : oO x = some x') (hv : nop t (.nilck x') = .val v) {o : Oper} (ho : o.op = .nilCheck x) :
    ValOk P G w (execOp a.eval o) v := by
  have h1 := oO_vr ht hx
  simp only [nop] at hv
  simp only [execOp, ho]
  generalize a.eval x = xv at h1 ⊢
  split at hv <;> first | cases hv; rename_i hb; rw [hb] at h1; cases h1; exact ⟨_, rfl, by first | exact .ptr ‹_› | (exact .rp ‹_› ‹_› ‹_›) | exact .fn ‹_› ‹_›⟩ | cases hv

theorem toList_mk (l : List UInt8) : (⟨⟨l⟩⟩ : ByteArray).toList = l := ByteArray.toList_mk l

theorem ofOpt_val {x : Option NV} {v : NV} (h : ofOpt x = .val v) : x = some v := by
  cases x <;> simp [ofOpt] at h; subst h; rfl

theorem bind_ofV {s : Option Value} {v : NV} (h : s.bind ofV = some v) : ∃ u, s = some u ∧ VR G v u := by
  cases s with
  | none => simp at h
  | some u => exact ⟨u, rfl, ofV_vr (by simpa using h)⟩

theorem binOp_int (op : BinOp) (t t' : TypeId) (k k' : IntKind) (x y : Int) : binOp op t (.int k x) (.int k' y) = binOp op t' (.int k x) (.int k' y) := by
  cases op <;> rfl

theorem eqGuard_quick {op : BinOp} {ty : TypeId} {x y : Operand} {p q : Value} (h1 : ∀ cs, p ≠ .agg cs) (h2 : p ≠ .nilIface) : (eqGuard op ty x y p q).run P w = .ok () w := by
  unfold eqGuard
  cases p <;> first | exact absurd rfl h2 | exact absurd rfl (h1 _) | (cases op <;> cases q <;> rfl)

theorem val_arith {op : BinOp} {ty ty' : TypeId} {x y : Operand} {x' y' : Opd} {v : NV} (ht : VRs G t a.tmps.toList) (hx : oO x = some x') (hy : oO y = some y')
    (hv : nop t (.arith op x' y') = .val v) {o : Oper} (ho : o.op = .binOp op ty x y ty') : ValOk P G w (execOp a.eval o) v := by
  have h1 := oO_vr ht hx
  have h2 := oO_vr ht hy
  simp only [nop] at hv
  replace hv := ofOpt_val hv
  simp only [execOp, ho]
  generalize a.eval x = p at h1 ⊢
  generalize a.eval y = q at h2 ⊢
  generalize getO t x' = p' at *
  generalize getO t y' = q' at *
  unfold arithN at hv
  split at hv
  · rename_i k m k' m'
    cases h1; cases h2
    obtain ⟨u, h3, h4⟩ := bind_ofV (G := G) hv
    refine ⟨u, r_v ?_, h4⟩
    rw [rb (eqGuard_quick (by simp) (by simp)), binOp_int op ty 0]
    exact pureOf_run h3
  · rename_i l m
    cases h1; cases h2
    have hs : ∀ u, (Op.stringOp op ⟨⟨l⟩⟩ ⟨⟨m⟩⟩).run P w = .ok u w → (binOp op ty (.string ⟨⟨l⟩⟩) (.string ⟨⟨m⟩⟩)).run P w = .ok u w := by
      intro u hu; cases op <;> exact hu
    have key : ∀ u, (Op.stringOp op ⟨⟨l⟩⟩ ⟨⟨m⟩⟩).run P w = .ok u w → VR G v u → ValOk P G w (do pure (Next.value (← (do eqGuard op ty x y (.string ⟨⟨l⟩⟩) (.string ⟨⟨m⟩⟩); binOp op ty (.string ⟨⟨l⟩⟩) (.string ⟨⟨m⟩⟩))))) v := by
      intro u h3 h4
      refine ⟨u, r_v ?_, h4⟩
      rw [rb (eqGuard_quick (by simp) (by simp))]
      exact hs u h3
    cases op <;> simp only at hv <;> first
      | (cases hv; done)
      | (split at hv
         · cases hv
         · rename_i hle
           cases hv
           refine key (.string ⟨⟨l ++ m⟩⟩) ?_ (.s _)
           have hle' : ¬ (((⟨⟨l⟩⟩ : ByteArray).size + (⟨⟨m⟩⟩ : ByteArray).size : Nat) : Int) > IntKind.i64.max := by simpa [ByteArray.size] using hle
           simp only [Op.stringOp, if_neg hle']
           have : (⟨⟨l⟩⟩ : ByteArray) ++ ⟨⟨m⟩⟩ = ⟨⟨l ++ m⟩⟩ := by
             apply ByteArray.ext; simp
           rw [this]; rfl)
      | (cases hv
         refine key _ (by simp only [Op.stringOp, toList_mk]; rfl) ?_
         try simp only [bytesLess]
         exact .b _)
  · cases hv

theorem val_un {op : UnOp} {ty : TypeId} {x : Operand} {x' : Opd} {v : NV} (ht : VRs G t a.tmps.toList) (hx : oO x = some x') (hv : nop t (.un op x') = .val v) {o : Oper} (ho : o.op = .unOp op ty x) :
    ValOk P G w (execOp a.eval o) v := by
  have h1 := oO_vr ht hx
  simp only [nop] at hv
  replace hv := ofOpt_val hv
  simp only [execOp, ho]
  generalize a.eval x = p at h1 ⊢
  generalize getO t x' = p' at *
  unfold unN at hv
  split at hv
  · cases h1; obtain ⟨u, h3, h4⟩ := bind_ofV (G := G) hv; exact ⟨u, r_v (pureOf_run h3), h4⟩
  · cases h1; obtain ⟨u, h3, h4⟩ := bind_ofV (G := G) hv; exact ⟨u, r_v (pureOf_run h3), h4⟩
  · cases hv

theorem val_conv {sk k : IntKind} {s d : TypeId} {x : Operand} {x' : Opd} {v : NV} (ht : VRs G t a.tmps.toList) (hs : P.underlying s = some (.int sk)) (hd : P.underlying d = some (.int k)) (hx : oO x = some x')
    (hv : nop t (.conv k x') = .val v) {o : Oper} (ho : o.op = .convert s d x) : ValOk P G w (execOp a.eval o) v := by
  have h1 := oO_vr ht hx
  simp only [nop] at hv
  simp only [execOp, ho]
  generalize a.eval x = p at h1 ⊢
  split at hv
  · rename_i kk n hb
    rw [hb] at h1
    cases h1
    obtain ⟨u, h3, h4⟩ := bind_ofV (G := G) (ofOpt_val hv)
    refine ⟨u, r_v ?_, h4⟩
    unfold convert
    rw [rb (r_under hs), rb (r_under hd)]
    exact pureOf_run h3
  · cases hv

theorem val_mkfn {f : FuncId} {first cap : Array Operand} {x' y' : List Opd} {v : NV} (ht : VRs G t a.tmps.toList) (hx : oOs first.toList = some x') (hy : oOs cap.toList = some y')
    (hv : nop t (.mkfn f x' y') = .val v) {o : Oper} (ho : o.op = .makeFunc (.func f) first cap) : ValOk P G w (execOp a.eval o) v := by
  simp only [nop] at hv
  cases hv
  simp only [execOp, ho]
  refine ⟨_, r_v (rfl : (Instr.makeFunc _ _ _).run P w = _), ?_⟩
  have h1 := oOs_vr ht hx
  have h2 := oOs_vr ht hy
  have e1 : first.map a.eval = ⟨first.toList.map a.eval⟩ := by apply Array.ext'; simp
  have e2 : cap.map a.eval = ⟨cap.toList.map a.eval⟩ := by apply Array.ext'; simp
  rw [e1, e2]
  exact .fn h1 h2

theorem val_extr {x : Operand} {k : Nat} {x' : Opd} {v : NV} (ht : VRs G t a.tmps.toList) (hx : oO x = some x') (hv : nop t (.extr x' k) = .val v) {o : Oper} (ho : o.op = .extract x k) :
    ValOk P G w (execOp a.eval o) v := by
  have h1 := oO_vr ht hx
  simp only [nop] at hv
  simp only [execOp, ho]
  generalize a.eval x = p at h1 ⊢
  split at hv
  · rename_i vs hb
    rw [hb] at h1
    cases h1 with
    | tup h =>
      rename_i us
      obtain ⟨u, h3, h4⟩ := h.get k v (ofOpt_val hv)
      refine ⟨u, r_v ?_, h4⟩
      simp only [Instr.extract]
      have : (⟨us⟩ : Array Value)[k]? = some u := by simpa using h3
      rw [this]; rfl
  · cases hv

theorem partN_vr {agg : Bool} {off sz : Nat} {c : List NV} {vs : List Value} {v : NV} (h : VRs G c vs) (hg : agg = true ∨ sz = 1) (hv : partN agg off sz c = some v) {ty : TypeId} {i : TypeInfo}
    (hi : P.info? ty = some i) (hs : i.size = sz) (ha : isAggT P ty = some agg) : ∃ u, (part ty ⟨vs⟩ off).run P w = .ok u w ∧ VR G v u := by
  unfold part
  rw [rb (r_isAgg ha)]
  unfold partN at hv
  cases agg with
  | true =>
    simp only [if_true] at hv ⊢
    split at hv
    · cases hv
      rw [rb (r_size hi)]
      refine ⟨_, rfl, ?_⟩
      have e : (⟨vs⟩ : Array Value).extract off (off + i.size) = ⟨(vs.drop off).take sz⟩ := by
        apply Array.ext'; simp [List.extract_eq_take_drop, hs]
      rw [e]
      exact .agg ((h.drop off).take sz)
    · cases hv
  | false =>
    simp only [Bool.false_eq_true, if_false] at hv ⊢
    obtain ⟨u, h3, h4⟩ := h.get off v hv
    have : (⟨vs⟩ : Array Value)[off]? = some u := by simpa using h3
    rw [this]
    exact ⟨u, rfl, h4⟩

theorem val_fld {ty : TypeId} {x : Operand} {k off sz : Nat} {agg : Bool} {x' : Opd} {v : NV} (ht : VRs G t a.tmps.toList) (hf : fieldT P ty k = some (off, sz, agg)) (hx : oO x = some x') (hg : agg = true ∨ sz = 1)
    (hv : nop t (.fld agg off sz x') = .val v) {o : Oper} (ho : o.op = .field ty x k) : ValOk P G w (execOp a.eval o) v := by
  have h1 := oO_vr ht hx
  simp only [nop] at hv
  simp only [execOp, ho]
  generalize a.eval x = p at h1 ⊢
  split at hv
  · rename_i cs hb
    rw [hb] at h1
    cases h1 with
    | agg h =>
      unfold fieldT at hf
      split at hf
      · rename_i fs hu
        split at hf
        · rename_i f hfk
          split at hf
          · rename_i i g hi ha
            cases hf
            obtain ⟨u, h3, h4⟩ := partN_vr (P := P) (w := w) h hg (ofOpt_val hv) hi rfl ha
            refine ⟨u, r_v ?_, h4⟩
            unfold Instr.field
            rw [rb (r_under hu)]
            simp only [hfk]
            rw [rb (rfl : (asAgg (.agg _)).run P w = .ok _ w)]
            exact h3
          · cases hf
        · cases hf
      · cases hf
  · cases hv

theorem fieldPlace_run {b o off sz : Nat} {f : Field} {i : TypeInfo} (hi : P.info? f.type = some i) (hs : i.size = sz) (hz : sz ≠ 0) (ho : f.offset = off) : (fieldPlace ⟨b, o, none⟩ f).run P w = .ok ⟨b, o + off, none⟩ w := by
  unfold fieldPlace
  rw [rb (r_size hi)]
  simp only [hs, if_neg hz]
  rw [addr_add, ho]; rfl

theorem val_faddr {ty : TypeId} {x : Operand} {k off sz : Nat} {agg : Bool} {x' : Opd} {v : NV} (ht : VRs G t a.tmps.toList) (hf : fieldT P ty k = some (off, sz, agg)) (hx : oO x = some x') (hz : sz ≠ 0)
    (hv : nop t (.faddr off x') = .val v) {o : Oper} (ho : o.op = .fieldAddr ty x k) : ValOk P G w (execOp a.eval o) v := by
  have h1 := oO_vr ht hx
  simp only [nop] at hv
  simp only [execOp, ho]
  generalize a.eval x = p at h1 ⊢
  unfold fieldT at hf
  split at hf
  · rename_i fs hu
    split at hf
    · rename_i f hfk
      split at hf
      · rename_i i g hi ha
        cases hf
        have key : ∀ b o', (Instr.fieldAt ty (.pointer (some ⟨b, o', none⟩)) k).run P w = .ok (.pointer (some ⟨b, o' + f.offset, none⟩)) w := by
          intro b o'
          unfold Instr.fieldAt
          rw [rb (r_under hu)]
          simp only [hfk]
          rw [rb (rfl : (Instr.sureAddr (.pointer (some _))).run P w = .ok _ w), rb (fieldPlace_run hi rfl hz rfl)]
          rfl
        split at hv
        · rename_i id o' hb
          rw [hb] at h1
          cases hv
          cases h1 with
          | ptr h => exact ⟨_, r_v (key _ _), by rw [Nat.add_assoc]; exact .ptr h⟩
        · rename_i rows e o' hb
          rw [hb] at h1
          cases hv
          cases h1 with
          | rp h hr hi => exact ⟨_, r_v (key _ _), by rw [Nat.add_assoc]; exact .rp h hr hi⟩
        · cases hv
      · cases hf
    · cases hf
  · cases hf

theorem bound_ok {y : Nat} {x : NV} {u : Value} {l : Nat} {code : BoundsCode} (h : VR G x u) (hb : boundN y x = some l) : (Instr.sliceBound u y code).run P w = .ok l w := by
  unfold boundN at hb
  split at hb
  · split at hb
    · rename_i k n hc
      cases hb
      cases h
      unfold Instr.sliceBound
      rw [rb (rfl : (asIntOf (.int k n)).run P w = .ok (k, n) w)]
      simp only [if_pos hc]
      rfl
    · cases hb
  · cases hb

/-- The bounds of a slice expression. -/
theorem bounds_ok {isS : Bool} {len cap : Nat} {lo hi mx : Option Operand} {lo' hi' mx' : Option Opd} {l h m : Nat} (ht : VRs G t a.tmps.toList) (hlo : oOo lo = some lo') (hhi : oOo hi = some hi') (hmx : oOo mx = some mx')
    (h1 : boundO cap cap (mx'.map (getO t)) = some m) (h2 : boundO len m (hi'.map (getO t)) = some h) (h3 : boundO 0 h (lo'.map (getO t)) = some l) (hmh : mx' = none ∨ hi'.isSome = true) :
    (Instr.sliceBounds isS len cap (lo.map a.eval) (hi.map a.eval) (mx.map a.eval)).run P w = .ok (l, h, m) w := by
  have inv : ∀ {x : Option Operand} {y : Option Opd}, oOo x = some y → (x = none ∧ y = none) ∨ ∃ p q, x = some p ∧ y = some q ∧ VR G (getO t q) (a.eval p) := by
    intro x y hxy
    cases x with
    | none => simp [oOo] at hxy; exact .inl ⟨rfl, hxy.symm⟩
    | some p =>
      simp only [oOo] at hxy
      split at hxy
      · rename_i q hq; cases hxy; exact .inr ⟨p, q, rfl, rfl, oO_vr ht hq⟩
      · cases hxy
  unfold Instr.sliceBounds
  rcases inv hmx with ⟨rfl, rfl⟩ | ⟨pm, qm, rfl, rfl, vm⟩
  · simp only [Option.map_none, boundO] at h1 ⊢
    cases h1
    rw [rb (r_pure _)]
    rcases inv hhi with ⟨rfl, rfl⟩ | ⟨ph, qh, rfl, rfl, vh⟩
    · simp only [Option.map_none, boundO] at h2 ⊢
      cases h2
      rw [rb (r_pure _)]
      rcases inv hlo with ⟨rfl, rfl⟩ | ⟨pl, ql, rfl, rfl, vl⟩
      · simp only [Option.map_none, boundO] at h3 ⊢
        cases h3
        rw [rb (r_pure 0)]; rfl
      · simp only [Option.map_some, boundO] at h3 ⊢
        rw [rb (bound_ok vl h3)]; rfl
    · simp only [Option.map_some, boundO] at h2 ⊢
      rw [rb (bound_ok vh h2)]
      rcases inv hlo with ⟨rfl, rfl⟩ | ⟨pl, ql, rfl, rfl, vl⟩
      · simp only [Option.map_none, boundO] at h3 ⊢
        cases h3
        rw [rb (r_pure 0)]; rfl
      · simp only [Option.map_some, boundO] at h3 ⊢
        rw [rb (bound_ok vl h3)]; rfl
  · simp only [Option.map_some, boundO] at h1 ⊢
    rw [rb (bound_ok vm h1)]
    rcases inv hhi with ⟨rfl, rfl⟩ | ⟨ph, qh, rfl, rfl, vh⟩
    · simp at hmh
    · simp only [Option.map_some, boundO] at h2 ⊢
      rw [rb (bound_ok vh h2)]
      rcases inv hlo with ⟨rfl, rfl⟩ | ⟨pl, ql, rfl, rfl, vl⟩
      · simp only [Option.map_none, boundO] at h3 ⊢
        cases h3
        rw [rb (r_pure 0)]; rfl
      · simp only [Option.map_some, boundO] at h3 ⊢
        rw [rb (bound_ok vl h3)]; rfl

theorem boundO_le {d y l : Nat} {x : Option NV} (h : boundO d y x = some l) (hd : d ≤ y) : l ≤ y := by
  cases x with
  | none => simp [boundO] at h; omega
  | some v =>
    simp only [boundO] at h
    unfold boundN at h
    split at h
    · split at h
      · cases h; omega
      · cases h
    · cases h

theorem val_slS {ty : TypeId} {x : Operand} {lo hi : Option Operand} {x' : Opd} {lo' hi' : Option Opd} {v : NV} (ht : VRs G t a.tmps.toList) (hu : P.underlying ty = some .string) (hx : oO x = some x')
    (hlo : oOo lo = some lo') (hhi : oOo hi = some hi') (hv : nop t (.slS x' lo' hi') = .val v) {o : Oper} (ho : o.op = .slice ty x lo hi none) : ValOk P G w (execOp a.eval o) v := by
  have h1 := oO_vr ht hx
  simp only [nop] at hv
  simp only [execOp, ho]
  generalize a.eval x = p at h1 ⊢
  split at hv
  · rename_i s hb
    rw [hb] at h1
    cases h1
    split at hv
    · cases hv
    · rename_i h hh
      split at hv
      · cases hv
      · rename_i l hl
        cases hv
        refine ⟨.string ⟨⟨(s.take h).drop l⟩⟩, r_v ?_, .s _⟩
        have hb := bounds_ok (P := P) (w := w) (isS := false) (len := s.length) (cap := s.length) (mx := none) (mx' := none) (m := s.length) ht hlo hhi rfl (by simp [boundO]) hh hl (.inl rfl)
        simp only [Option.map_none] at hb ⊢
        unfold Instr.sliceAt
        rw [rb (r_under hu)]
        simp only
        unfold Instr.slice
        rw [rb (r_under hu)]
        simp only [Option.isSome_none, Bool.false_eq_true, if_false]
        have hsz : (⟨⟨s⟩⟩ : ByteArray).size = s.length := rfl
        rw [hsz, rb hb]
        have : (⟨⟨s⟩⟩ : ByteArray).extract l h = ⟨⟨(s.take h).drop l⟩⟩ := by
          apply ByteArray.ext
          simp [ByteArray.data_extract, List.extract_eq_take_drop, List.drop_take]
        simp only [this]
        rfl
  · cases hv

theorem boundN_mono {y y' : Nat} {x : NV} {l : Nat} (h : boundN y x = some l) (hy : y ≤ y') : boundN y' x = some l := by
  unfold boundN at *
  split at h
  · split at h
    · cases h; rename_i hc; rw [if_pos ⟨hc.1, by omega⟩]
    · cases h
  · cases h

theorem boundO_mono {d y y' : Nat} {x : Option NV} {l : Nat} (h : boundO d y x = some l) (hy : y ≤ y') : boundO d y' x = some l := by
  cases x with
  | none => exact h
  | some v => exact boundN_mono h hy

theorem boundC_mono {k c : Nat} {x : Option NV} {m : Nat} (h : boundO k k x = some m) (hc : k ≤ c) : ∃ m', boundO c c x = some m' ∧ m ≤ m' ∧ m' ≤ c ∧ (x.isSome = true → m' = m) ∧ (c = k → m' = m) := by
  cases x with
  | none => simp [boundO] at h; subst h; exact ⟨c, rfl, hc, Nat.le_refl _, by simp, fun e => e⟩
  | some v =>
    have h' : boundO c c (some v) = some m := boundN_mono h hc
    exact ⟨m, h', Nat.le_refl _, Nat.le_trans (boundO_le h (Nat.le_refl _)) hc, fun _ => rfl, fun _ => rfl⟩

theorem val_slL {ty e : TypeId} {i : TypeInfo} {x : Operand} {lo hi mx : Option Operand} {x' : Opd} {lo' hi'' mx' : Option Opd} {v : NV} (ht : VRs G t a.tmps.toList) (hu : P.underlying ty = some (.slice e))
    (hi' : P.info? e = some i) (hx : oO x = some x') (hlo : oOo lo = some lo') (hhi : oOo hi = some hi'') (hmx : oOo mx = some mx') (hmh : mx' = none ∨ hi''.isSome = true)
    (hv : nop t (.slL i.size x' lo' hi'' mx') = .val v) {o : Oper} (ho : o.op = .slice ty x lo hi mx) : ValOk P G w (execOp a.eval o) v := by
  have h1 := oO_vr ht hx
  simp only [nop] at hv
  replace hv := ofOpt_val hv
  simp only [execOp, ho]
  have key : ∀ (ad : Option Addr) (len c l h m : Nat), a.eval x = .slice ad len c → boundO c c (mx'.map (getO t)) = some m → boundO len m (hi''.map (getO t)) = some h → boundO 0 h (lo'.map (getO t)) = some l →
      (Instr.sliceAt ty (a.eval x) (lo.map a.eval) (hi.map a.eval) (mx.map a.eval)).run P w = .ok (.slice (if m = l then ad else ad.map (·.add (l * i.size))) (h - l) (m - l)) w := by
    intro ad len c l h m hp hm hh hl
    rw [hp]
    unfold Instr.sliceAt
    rw [rb (r_under hu)]
    simp only
    unfold Instr.slice
    rw [rb (r_under hu)]
    simp only
    rw [rb (bounds_ok ht hlo hhi hmx hm hh hl hmh)]
    simp only
    rw [rb (r_size hi')]
    rfl
  unfold sliceN at hv
  split at hv
  · rename_i id off len ex cap sz' hb
    rw [hb] at h1
    split at hv
    · cases hv
    rename_i hsz
    have hsz : sz' = i.size := by simpa using hsz
    subst hsz
    split at hv
    · cases hv
    rename_i m hm
    split at hv
    · cases hv
    rename_i h hh
    split at hv
    · cases hv
    rename_i l hl
    cases hv
    generalize hp : a.eval x = p at h1
    cases h1 with
    | sl hg ha hs h1 h2 h3 =>
      rename_i b sh bs c ad
      obtain ⟨m', hm', hmm, hmc, hex, hceq⟩ := boundC_mono hm h2
      have hr := key ad _ c l h m' hp hm' (boundO_mono hh hmm) hl
      rw [hp] at hr
      have hlh : l ≤ h := by
        have := boundO_le hl (Nat.zero_le _); exact this
      have hhm : h ≤ m := by
        cases hho : hi'' with
        | none =>
          have hmn : mx' = none := hmh.resolve_right (by simp [hho])
          rw [hho] at hh; rw [hmn] at hm
          simp [boundO] at hh hm; omega
        | some r =>
          rw [hho] at hh
          simp only [Option.map_some, boundO] at hh
          unfold boundN at hh
          split at hh
          · split at hh
            · cases hh; omega
            · cases hh
          · cases hh
      by_cases hml : m' = l
      · rw [if_pos hml] at hr
        refine ⟨_, r_v hr, .sl hg ?_ ?_ (by omega) (by omega) ?_⟩
        · intro hc; omega
        · intro hc; omega
        · intro hx
          simp only [Bool.or_eq_true] at hx
          rcases hx with hx | hx
          · rw [hceq (h3 hx)]
          · rw [hex (by simpa using hx)]
      · rw [if_neg hml] at hr
        have hc0 : c ≠ 0 := by omega
        have hade := ha hc0
        refine ⟨_, r_v hr, ?_⟩
        simp only [Option.map_some]
        refine .sl hg ?_ ?_ (by omega) (by omega) ?_
        · intro _
          rw [hade, addr_add, Nat.add_assoc]
        · intro _
          have := hs hc0
          have h5 : l * i.size + (m' - l) * i.size = m' * i.size := by rw [← Nat.add_mul]; congr 1; omega
          have h6 : m' * i.size ≤ c * i.size := Nat.mul_le_mul_right _ hmc
          omega
        · intro hx
          simp only [Bool.or_eq_true] at hx
          rcases hx with hx | hx
          · rw [hceq (h3 hx)]
          · rw [hex (by simpa using hx)]
  · rename_i sz' rows off len hb
    rw [hb] at h1
    split at hv
    · cases hv
    rename_i hsz
    simp only [ne_eq, not_or, Decidable.not_not, Bool.not_eq_true, Option.isSome_eq_false_iff, Option.isNone_iff_eq_none, Option.map_eq_none_iff] at hsz
    obtain ⟨hsz, hmn⟩ := hsz
    subst hsz
    split at hv
    · cases hv
    rename_i h hh
    split at hv
    · cases hv
    rename_i l hl
    cases hv
    have hlh : l ≤ h := boundO_le hl (Nat.zero_le _)
    have hhl : h ≤ len := boundO_le hh (Nat.le_refl _)
    generalize hp : a.eval x = p at h1
    cases h1 with
    | rs hr hs hb ha hi hc =>
      rename_i c rv ad
      have hr' := key (some ad) len c l h c hp (by rw [hmn]; rfl) (boundO_mono hh hc) hl
      rw [hp] at hr'
      refine ⟨_, r_v hr', ?_⟩
      by_cases hcl : c = l
      · rw [if_pos hcl]
        have : h - l = 0 := by omega
        rw [this]
        exact .rs hr hs (by omega) ha (fun e row j v h1 h2 => by omega) (by omega)
      · rw [if_neg hcl]
        simp only [Option.map_some]
        have hade : ad = ⟨ad.block, ad.off, none⟩ := by cases ad; simp at ha; subst ha; rfl
        rw [hade, addr_add]
        refine .rs hr hs (by omega) rfl (fun e row j v h1 h2 h3 h4 => ?_) (by omega)
        have := hi e row j v (by omega) (by omega) h3 h4
        have h5 : (e - off) * i.size = l * i.size + (e - (off + l)) * i.size := by rw [← Nat.add_mul]; congr 1; omega
        rw [h5] at this
        simpa [Nat.add_assoc] using this
    | rsn =>
      have hl0 : l = 0 := by omega
      have hh0 : h = 0 := by omega
      subst hl0; subst hh0
      have hr' := key none 0 0 0 0 0 hp (by rw [hmn]; rfl) hh hl
      rw [hp] at hr'
      refine ⟨_, r_v hr', ?_⟩
      simp only [if_true, Nat.sub_self]
      exact .rsn
  · rename_i hb
    rw [hb] at h1
    split at hv
    · cases hv
    rename_i m hm
    split at hv
    · cases hv
    rename_i h hh
    split at hv
    · cases hv
    rename_i l hl
    cases hv
    generalize hp : a.eval x = p at h1
    cases h1
    have hm0 : m = 0 := by have := boundO_le hm (Nat.le_refl _); omega
    subst hm0
    have hh0 : h = 0 := by have := boundO_le hh (Nat.le_refl _); omega
    subst hh0
    have hl0 : l = 0 := by have := boundO_le hl (Nat.le_refl _); omega
    subst hl0
    have hr' := key none 0 0 0 0 0 hp hm hh hl
    rw [hp] at hr'
    exact ⟨_, r_v hr', .nils⟩
  · cases hv

end
end Go.NL
