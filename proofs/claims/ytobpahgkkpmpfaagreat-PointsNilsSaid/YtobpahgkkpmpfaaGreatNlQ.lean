/-
  Each operation of the machine does what its reading says: indexing, lengths, comparison, aggregates.
-/
import Derived.Test.YtobpahgkkpmpfaaGreatNlO
namespace Go.NL

section
variable {P : Program} {w w' : World} {G : Gh} {t : List NV} {a : Act}

theorem val_iaddr {ty e : TypeId} {i : TypeInfo} {x k : Operand} {x' k' : Opd} {v : NV} (ht : VRs G t a.tmps.toList) (hu : P.underlying ty = some (.slice e)) (hi : P.info? e = some i) (hx : oO x = some x') (hk : oO k = some k')
    (hv : nop t (.iaddr i.size x' k') = .val v) {o : Oper} (ho : o.op = .indexAddr ty x k) : ValOk P G w (execOp a.eval o) v := by
  have h1 := oO_vr ht hx
  have h2 := oO_vr ht hk
  simp only [nop] at hv
  simp only [execOp, ho]
  generalize a.eval x = p at h1 ⊢
  generalize a.eval k = q at h2 ⊢
  have key : ∀ (ad : Addr) (len c n : Nat) (kk : IntKind) (m : Int), (asIntOf q).run P w = .ok (kk, m) w → m = n → n < len → p = .slice (some ad) len c →
      (Instr.indexAt ty p q).run P w = .ok (.pointer (some (ad.add (n * i.size)))) w := by
    intro ad len c n kk m hq hm hn hp
    subst hp hm
    unfold Instr.indexAt
    rw [rb hq]
    simp only
    rw [rb (r_under hu)]
    simp only
    rw [rb (r_pure _), rb (r_under hu)]
    simp only
    rw [if_pos ⟨by omega, by omega⟩, rb (r_size hi)]
    rfl
  split at hv
  · rename_i id off len ex cap sz' n hb hn
    rw [hb] at h1
    split at hv
    · rename_i hc
      obtain ⟨c1, c2, c3⟩ := hc
      cases hv
      subst c3
      obtain ⟨kk, hq⟩ := r_asI (P := P) (w := w) h2 hn
      cases h1 with
      | sl hg ha hs h3 h4 h5 =>
        rename_i b sh bs c ad
        refine ⟨_, r_v (key ad len c n.toNat kk n hq (by omega) (by omega) rfl), ?_⟩
        rw [ha (by omega), addr_add, Nat.add_assoc]
        exact .ptr hg
    · cases hv
  · rename_i sz' rows off len n hb hn
    rw [hb] at h1
    split at hv
    · rename_i hc
      obtain ⟨c1, c2, c3⟩ := hc
      cases hv
      subst c3
      obtain ⟨kk, hq⟩ := r_asI (P := P) (w := w) h2 hn
      cases h1 with
      | rs hr hs hb ha hi' hcc =>
        rename_i c rv ad
        refine ⟨_, r_v (key ad len c n.toNat kk n hq (by omega) (by omega) rfl), ?_⟩
        have hade : ad = ⟨ad.block, ad.off, none⟩ := by cases ad; simp at ha; subst ha; rfl
        rw [hade, addr_add]
        obtain ⟨row, hrow, _⟩ := hr.get (off + n.toNat) rows[off + n.toNat] (List.getElem?_eq_getElem (by omega))
        have := VR.rp (off := 0) (o := ad.off + n.toNat * i.size) (blk := ad.block) hr hrow (fun j v hj => by
          have := hi' (off + n.toNat) row j v (by omega) (by omega) hrow hj
          rwa [show off + n.toNat - off = n.toNat from by omega] at this)
        simpa using this
      | rsn => omega
    · cases hv
  · cases hv

theorem val_iaddrA {ty e : TypeId} {len : Nat} {i : TypeInfo} {x k : Operand} {x' k' : Opd} {v : NV} (ht : VRs G t a.tmps.toList) (hu : P.underlying ty = some (.array len e)) (hi : P.info? e = some i) (hx : oO x = some x') (hk : oO k = some k')
    (hv : nop t (.iaddrA len i.size x' k') = .val v) {o : Oper} (ho : o.op = .indexAddr ty x k) : ValOk P G w (execOp a.eval o) v := by
  have h1 := oO_vr ht hx
  have h2 := oO_vr ht hk
  simp only [nop] at hv
  simp only [execOp, ho]
  generalize a.eval x = p at h1 ⊢
  generalize a.eval k = q at h2 ⊢
  have key : ∀ (ad : Addr) (n : Nat) (kk : IntKind) (m : Int), (asIntOf q).run P w = .ok (kk, m) w → m = n → n < len → p = .pointer (some ad) →
      (Instr.indexAt ty p q).run P w = .ok (.pointer (some (ad.add (n * i.size)))) w := by
    intro ad n kk m hq hm hn hp
    subst hp hm
    unfold Instr.indexAt
    rw [rb hq]
    simp only
    rw [rb (r_under hu)]
    simp only
    rw [rb (rfl : (Instr.sureAddr (.pointer (some ad))).run P w = .ok ad w), rb (r_pure _), rb (r_under hu)]
    simp only
    rw [if_pos ⟨by omega, by omega⟩, rb (r_size hi)]
    rfl
  split at hv
  · rename_i id off n hb hn
    rw [hb] at h1
    split at hv
    · rename_i hc
      obtain ⟨c1, c2⟩ := hc
      cases hv
      obtain ⟨kk, hq⟩ := r_asI (P := P) (w := w) h2 hn
      cases h1 with
      | ptr hg =>
        refine ⟨_, r_v (key _ n.toNat kk n hq (by omega) (by omega) rfl), ?_⟩
        rw [addr_add, Nat.add_assoc]
        exact .ptr hg
    · cases hv
  · rename_i rows e off n hb hn
    rw [hb] at h1
    split at hv
    · rename_i hc
      obtain ⟨c1, c2⟩ := hc
      cases hv
      obtain ⟨kk, hq⟩ := r_asI (P := P) (w := w) h2 hn
      cases h1 with
      | rp hr hrow hi' =>
        refine ⟨_, r_v (key _ n.toNat kk n hq (by omega) (by omega) rfl), ?_⟩
        rw [addr_add, Nat.add_assoc]
        exact .rp hr hrow hi'
    · cases hv
  · cases hv

theorem val_idxS {ty : TypeId} {x k : Operand} {x' k' : Opd} {v : NV} (ht : VRs G t a.tmps.toList) (hu : P.underlying ty = some .string) (hx : oO x = some x') (hk : oO k = some k')
    (hv : nop t (.idxS x' k') = .val v) {o : Oper} (ho : o.op = .index ty x k) : ValOk P G w (execOp a.eval o) v := by
  have h1 := oO_vr ht hx
  have h2 := oO_vr ht hk
  simp only [nop] at hv
  simp only [execOp, ho]
  generalize a.eval x = p at h1 ⊢
  generalize a.eval k = q at h2 ⊢
  split at hv
  · rename_i l n hb hn
    rw [hb] at h1
    split at hv
    · rename_i hc
      split at hv
      · rename_i c hl
        cases hv
        obtain ⟨kk, hq⟩ := r_asI (P := P) (w := w) h2 hn
        cases h1
        refine ⟨_, r_v ?_, .i _ _⟩
        unfold Instr.index
        rw [rb hq]
        simp only
        rw [rb (r_under hu)]
        simp only [if_pos hc]
        have : (⟨⟨l⟩⟩ : ByteArray)[n.toNat]? = some c := by
          obtain ⟨hlt, he⟩ := List.getElem?_eq_some_iff.1 hl
          rw [getElem?_pos (⟨⟨l⟩⟩ : ByteArray) n.toNat hlt, ← he]
          rfl
        rw [this]
        rfl
      · cases hv
    · cases hv
  · cases hv

theorem val_idxA {ty e : TypeId} {len : Nat} {i : TypeInfo} {agg : Bool} {x k : Operand} {x' k' : Opd} {v : NV} (ht : VRs G t a.tmps.toList) (hu : P.underlying ty = some (.array len e)) (hi : P.info? e = some i) (hag : isAggT P e = some agg)
    (hg : agg = true ∨ i.size = 1) (hx : oO x = some x') (hk : oO k = some k')
    (hv : nop t (.idxA agg len i.size x' k') = .val v) {o : Oper} (ho : o.op = .index ty x k) : ValOk P G w (execOp a.eval o) v := by
  have h1 := oO_vr ht hx
  have h2 := oO_vr ht hk
  simp only [nop] at hv
  simp only [execOp, ho]
  generalize a.eval x = p at h1 ⊢
  generalize a.eval k = q at h2 ⊢
  split at hv
  · rename_i cs n hb hn
    rw [hb] at h1
    split at hv
    · rename_i hc
      obtain ⟨kk, hq⟩ := r_asI (P := P) (w := w) h2 hn
      cases h1 with
      | agg h =>
        obtain ⟨u, h3, h4⟩ := partN_vr (P := P) (w := w) h hg (ofOpt_val hv) hi rfl hag
        refine ⟨u, r_v ?_, h4⟩
        unfold Instr.index
        rw [rb hq]
        simp only
        rw [rb (r_under hu)]
        simp only [if_pos hc]
        rw [rb (r_size hi)]
        exact h3
    · cases hv
  · cases hv

/-- A builtin's call. -/
theorem bi_run {b : Builtin} {c : Call} {o : Oper} {r : Result Next} (ho : o.op = .call c) (hc : c.callee = .builtin b)
    (h : ∀ cs, (builtin b c.argTypes o.type cs (c.args.map a.eval)).run P w = r) : (execOp a.eval o).run P w = r := by
  simp only [execOp, ho]
  have hres : (resolve a.eval c o.type).run P w = .ok { target := .builtin b c.argTypes o.type (c.args.map fun | .const _ => true | _ => false), args := c.args.map a.eval } w := by
    unfold resolve; simp only [hc]; rfl
  rw [rb hres]
  exact h _

theorem args1 {c : Call} {x : Operand} (h : c.args.toList = [x]) : c.args.map a.eval = #[a.eval x] := by
  apply Array.ext'; simp [h]

theorem args2 {c : Call} {x y : Operand} (h : c.args.toList = [x, y]) : c.args.map a.eval = #[a.eval x, a.eval y] := by
  apply Array.ext'; simp [h]

theorem len_key {ty : TypeId} {d : TypeDesc} (hu : P.underlying ty = some d) {o : Oper} {x : Operand} {c : Call} {n : Nat}
    (ho : o.op = .call c) (hc : c.callee = .builtin .len) (hargs : c.args.toList = [x]) (hty : c.argTypes[0]? = some ty)
    (h : match d, a.eval x with | .string, .string s => n = s.size | .slice _, .slice _ m _ => n = m | .map _ _, .map none => n = 0 | _, _ => False) : ValOk P G w (execOp a.eval o) (.i .i64 n) := by
  refine ⟨goInt n, bi_run ho hc (fun cs => ?_), .i _ _⟩
  rw [args1 hargs]
  simp only [builtin]
  refine r_v ?_
  unfold Builtin.len_
  simp only [hty, List.getElem?_toArray, List.getElem?_cons_zero]
  rw [rb (r_under hu)]
  generalize a.eval x = p at *
  split at h
  · subst h; rfl
  · subst h; rfl
  · subst h; rfl
  · exact h.elim

theorem val_len0 {ty : TypeId} (hu : P.underlying ty = some .string) {o : Oper} {x : Operand} {x' : Opd} {c : Call} {v : NV} (ht : VRs G t a.tmps.toList) (hx : oO x = some x')
    (ho : o.op = .call c) (hc : c.callee = .builtin .len) (hargs : c.args.toList = [x]) (hty : c.argTypes[0]? = some ty) (hv : nop t (.len 0 x') = .val v) : ValOk P G w (execOp a.eval o) v := by
  have h1 := oO_vr ht hx
  simp only [nop] at hv
  split at hv
  · rename_i l hb
    rw [hb] at h1
    cases hv
    refine len_key hu ho hc hargs hty ?_
    generalize a.eval x = p at h1
    cases h1; rfl
  · cases hv

theorem val_len1 {ty e : TypeId} (hu : P.underlying ty = some (.slice e)) {o : Oper} {x : Operand} {x' : Opd} {c : Call} {v : NV} (ht : VRs G t a.tmps.toList) (hx : oO x = some x')
    (ho : o.op = .call c) (hc : c.callee = .builtin .len) (hargs : c.args.toList = [x]) (hty : c.argTypes[0]? = some ty) (hv : nop t (.len 1 x') = .val v) : ValOk P G w (execOp a.eval o) v := by
  have h1 := oO_vr ht hx
  simp only [nop] at hv
  split at hv
  · rename_i hb
    rw [hb] at h1
    cases hv
    refine len_key hu ho hc hargs hty ?_
    generalize a.eval x = p at h1
    cases h1; rfl
  · rename_i hb
    rw [hb] at h1
    cases hv
    refine len_key hu ho hc hargs hty ?_
    generalize a.eval x = p at h1
    cases h1 <;> rfl
  · rename_i hb
    rw [hb] at h1
    cases hv
    refine len_key (n := 0) hu ho hc hargs hty ?_
    generalize a.eval x = p at h1
    cases h1; rfl
  · cases hv

theorem val_len2 {ty ke e : TypeId} (hu : P.underlying ty = some (.map ke e)) {o : Oper} {x : Operand} {x' : Opd} {c : Call} {v : NV} (ht : VRs G t a.tmps.toList) (hx : oO x = some x')
    (ho : o.op = .call c) (hc : c.callee = .builtin .len) (hargs : c.args.toList = [x]) (hty : c.argTypes[0]? = some ty) (hv : nop t (.len 2 x') = .val v) : ValOk P G w (execOp a.eval o) v := by
  have h1 := oO_vr ht hx
  simp only [nop] at hv
  split at hv
  · rename_i hb
    rw [hb] at h1
    cases hv
    refine len_key (n := 0) hu ho hc hargs hty ?_
    generalize a.eval x = p at h1
    cases h1; rfl
  · cases hv
  · cases hv

theorem mm2_ok {mx : Bool} {x y z : NV} {p q : Value} (h : mm2 mx x y = some z) (hx : VR G x p) (hy : VR G y q) : ∃ u, ((if mx then Builtin.max2 else Builtin.min2) p q).run P w = .ok u w ∧ VR G z u := by
  unfold mm2 at h
  split at h
  · cases h
    cases hx; cases hy
    cases mx
    · exact ⟨_, rfl, .i _ _⟩
    · exact ⟨_, rfl, .i _ _⟩
  · cases h

theorem mmF_ok {mx : Bool} : ∀ (l : List NV) (ps : List Value) (x z : NV) (p : Value), mmF mx x l = some z → VR G x p → VRs G l ps → ∃ u, (ps.foldlM (if mx then Builtin.max2 else Builtin.min2) p).run P w = .ok u w ∧ VR G z u
  | [], ps, x, z, p, h, hx, hl => by
    cases hl
    simp [mmF] at h; subst h
    exact ⟨p, rfl, hx⟩
  | y :: l, ps, x, z, p, h, hx, hl => by
    cases hl with
    | cons hy ht =>
      simp only [mmF] at h
      split at h
      · rename_i b hb
        obtain ⟨u, h1, h2⟩ := mm2_ok (P := P) (w := w) hb hx hy
        obtain ⟨u', h3, h4⟩ := mmF_ok l _ b z u h h2 ht
        refine ⟨u', ?_, h4⟩
        rw [List.foldlM_cons, rb h1]
        exact h3
      · cases h

theorem val_mm {mx : Bool} {o : Oper} {c : Call} {xs : List Opd} {v : NV} (ht : VRs G t a.tmps.toList) (hx : oOs c.args.toList = some xs)
    (ho : o.op = .call c) (hc : c.callee = .builtin (if mx then .max else .min)) (hv : nop t (.mm mx xs) = .val v) : ValOk P G w (execOp a.eval o) v := by
  have h1 := oOs_vr ht hx
  simp only [nop] at hv
  replace hv := ofOpt_val hv
  have hmap : (c.args.map a.eval).toList = c.args.toList.map a.eval := by simp
  generalize hps : c.args.toList.map a.eval = ps at h1 hmap
  generalize xs.map (getO t) = ys at h1 hv
  unfold mmN at hv
  split at hv
  · cases hv
  · rename_i y l
    cases h1 with
    | cons hy hl =>
      rename_i q qs
      obtain ⟨u, h3, h4⟩ := mmF_ok (P := P) (w := w) l _ y v _ hv hy hl
      refine ⟨u, bi_run ho hc (fun cs => ?_), h4⟩
      cases mx
      · simp only [Bool.false_eq_true, if_false, builtin] at h3 ⊢
        refine r_v ?_
        unfold Builtin.min_
        simp only [hmap]
        exact h3
      · simp only [if_true, builtin] at h3 ⊢
        refine r_v ?_
        unfold Builtin.max_
        simp only [hmap]
        exact h3

theorem val_clr {ty e : TypeId} (hu : P.underlying ty = some (.slice e)) {o : Oper} {x : Operand} {x' : Opd} {c : Call} {v : NV} {z : List NV} {sz : Nat} (ht : VRs G t a.tmps.toList) (hx : oO x = some x')
    (ho : o.op = .call c) (hc : c.callee = .builtin .clear) (hargs : c.args.toList = [x]) (hty : c.argTypes[0]? = some ty) (hv : nop t (.clr z sz x') = .val v) : ValOk P G w (execOp a.eval o) v := by
  have h1 := oO_vr ht hx
  simp only [nop] at hv
  have key : (∃ ad len c, a.eval x = .slice ad len c ∧ (ad = none ∨ len = 0)) → v = .und → ValOk P G w (execOp a.eval o) v := by
    rintro ⟨ad, len, cc, hp, hz⟩ rfl
    refine ⟨.tuple #[], bi_run ho hc (fun cs => ?_), .tup .nil⟩
    rw [args1 hargs]
    simp only [builtin]
    refine r_v ?_
    unfold Builtin.clear_
    simp only [hty, List.getElem?_toArray, List.getElem?_cons_zero]
    rw [rb (r_under hu), hp]
    rcases hz with rfl | rfl
    · rfl
    · cases ad <;> rfl
  split at hv
  · rename_i hb
    rw [hb] at h1
    cases hv
    refine key ?_ rfl
    generalize a.eval x = p at h1
    cases h1; exact ⟨_, _, _, rfl, .inl rfl⟩
  · rename_i id off len ex cap sz' hb
    rw [hb] at h1
    split at hv
    · rename_i hl
      cases hv
      refine key ?_ rfl
      generalize a.eval x = p at h1
      cases h1; exact ⟨_, _, _, rfl, .inr hl⟩
    · split at hv <;> cases hv
  · cases hv

theorem val_load_rp {ty : TypeId} {i : TypeInfo} {g : Bool} {x : Operand} {x' : Opd} {v : NV} (ht : VRs G t a.tmps.toList) (hag : isAggT P ty = some g) (hi : P.info? ty = some i) (hg : g = true ∨ i.size = 1) (hx : oO x = some x')
    (him : ∀ b o v, G.im b o = some v → w.cell? ⟨b, o, none⟩ = some v)
    (hv : nop t (.load g i.size x') = .val v) {o : Oper} (ho : o.op = .load ty x) : ValOk P G w (execOp a.eval o) v := by
  have h1 := oO_vr ht hx
  simp only [nop] at hv
  simp only [execOp, ho]
  generalize a.eval x = p at h1 ⊢
  split at hv
  · cases hv
  · rename_i rows e off hb
    rw [hb] at h1
    replace hv := ofOpt_val hv
    cases h1 with
    | rp hr hrow hi' =>
      rename_i blk o' rv row
      unfold rsCell at hv
      cases hre : rows[e]? with
      | none => simp [hre] at hv
      | some r =>
        simp only [hre, Option.bind_some] at hv
        obtain ⟨row', h3, h4⟩ := hr.get e r hre
        rw [hrow] at h3; cases h3
        unfold partN at hv
        cases g with
        | true =>
          simp only [if_true] at hv
          split at hv
          · rename_i hle
            cases hv
            have hl := h4.length
            have hrun := run_loadCells (P := P) (w := w) blk (o' + off) ((row.drop off).take i.size) (fun j v hj => by
              have hj' : row[off + j]? = some v := by
                rw [List.getElem?_take] at hj
                split at hj
                · rw [List.getElem?_drop] at hj; exact hj
                · cases hj
              have := him _ _ _ (hi' (off + j) v hj')
              rwa [← Nat.add_assoc] at this)
            have hlen : ((row.drop off).take i.size).length = i.size := by simp; omega
            rw [hlen] at hrun
            refine ⟨.agg ⟨(row.drop off).take i.size⟩, r_v ?_, .agg ((h4.drop off).take i.size)⟩
            unfold Instr.loadAt
            rw [rb (rfl : (Instr.sureAddr (.pointer (some _))).run P w = .ok _ w)]
            unfold loadVar
            rw [rb (r_isAgg hag)]
            simp only [if_true]
            rw [rb (r_size hi), rb hrun]
            rfl
          · cases hv
        | false =>
          simp only [Bool.false_eq_true, if_false] at hv
          obtain ⟨u, h5, h6⟩ := h4.get off v hv
          refine ⟨u, r_v ?_, h6⟩
          unfold Instr.loadAt
          rw [rb (rfl : (Instr.sureAddr (.pointer (some _))).run P w = .ok _ w)]
          unfold loadVar
          rw [rb (r_isAgg hag)]
          simp only [Bool.false_eq_true, if_false]
          unfold load
          simp only [Sem.run, him _ _ _ (hi' off u h5)]
  · cases hv

end
end Go.NL
