/-
  Each operation of the machine does what its reading says: those that write memory.
-/
import Derived.Test.YtobpahgkkpmpfaaGreatNlU
namespace Go.NL

section
variable {P : Program} {w w' : World} {G : Gh} {t : List NV} {a : Act}

def WrOk (P : Program) (G : Gh) (w : World) (s : Sem Next) (id : Nat) (ob' : Obj) (v : NV) : Prop :=
  ∃ b gob nx, G.blk id = some b ∧ s.run P w = .ok nx (putW w b gob) ∧ ((nx = .skip ∧ v = .und) ∨ ∃ u, nx = .value u ∧ VR G v u) ∧ ORel P G (putW w b gob) id ob'

theorem splice_take {α : Type} (L l : List α) (off sz n : Nat) (hl : l.length = sz) (h : off + sz ≤ n) (hn : n ≤ L.length) :
    (L.take off ++ l ++ L.drop (off + sz)).take n = (L.take n).take off ++ l ++ (L.take n).drop (off + sz) := by
  rw [List.take_append, List.take_of_length_le (by simp; omega), List.take_take, Nat.min_eq_left (by omega), List.drop_take]
  congr 2
  simp; omega

theorem drop_splice {α : Type} (C l : List α) (sh off sz : Nat) (h : sh + off ≤ C.length) :
    (C.take (sh + off) ++ l ++ C.drop (sh + off + sz)).drop sh = (C.drop sh).take off ++ l ++ (C.drop sh).drop (off + sz) := by
  rw [List.append_assoc, List.drop_append_of_le_length (by simp; omega), List.drop_take, List.drop_drop, show sh + off - sh = off from by omega, ← List.append_assoc, show sh + (off + sz) = sh + off + sz from by omega]

/-- A row of cells with some of its cells written. -/
theorem ORel.write {id b sh bs off sz : Nat} {c l : List NV} {C : Array Value} {e : TypeId} {us : List Value} (h1 : G.loc id = some (b, sh, bs)) (h2 : w.heap[b]? = some (.cells C e (0, 0))) (h3 : C.size = bs) (h4 : sh + c.length ≤ bs)
    (h5 : VRs G c ((C.toList.drop sh).take c.length)) (hu : VRs G l us) (hl : l.length = sz) (hle : off + sz ≤ c.length) :
    ORel P G (putW w b (.cells ⟨C.toList.take (sh + off) ++ us ++ C.toList.drop (sh + off + sz)⟩ e (0, 0))) id (.cells (c.take off ++ l ++ c.drop (off + sz))) := by
  have hul : us.length = sz := by rw [← hu.length, hl]
  have hb : b < w.heap.size := (Array.getElem?_eq_some_iff.1 h2).1
  have hlen : (c.take off ++ l ++ c.drop (off + sz)).length = c.length := by simp; omega
  have hCl : C.toList.length = bs := by simpa using h3
  refine ⟨b, sh, bs, _, e, h1, putW_heap_same hb, ?_, by rw [hlen]; exact h4, ?_⟩
  · show (C.toList.take (sh + off) ++ us ++ C.toList.drop (sh + off + sz)).length = bs
    simp; omega
  · rw [hlen]
    show VRs G _ (((C.toList.take (sh + off) ++ us ++ C.toList.drop (sh + off + sz)).drop sh).take c.length)
    rw [drop_splice _ _ _ _ _ (by omega), splice_take _ _ _ _ _ hul hle (by simp; omega)]
    exact ((h5.take off).append hu).append (h5.drop (off + sz))

theorem plain_all {l : List NV} {us : List Value} (h : VRs G l us) (hp : l.all NV.plain = true) : ∀ v ∈ us, (∀ cs, v ≠ .agg cs) ∧ (∀ vs, v ≠ .tuple vs) := by
  intro v hv
  obtain ⟨j, hj⟩ := List.getElem?_of_mem hv
  obtain ⟨x, hx, hr⟩ := h.get' j v hj
  exact Value.not_agg_of_plain hr (List.all_eq_true.1 hp x (List.mem_of_getElem? hx))

theorem wr_store {ty : TypeId} {i : TypeInfo} {x y : Operand} {x' y' : Opd} {id : Nat} {g : Obj → Option (Obj × NV)} {ob ob' : Obj} {v : NV} (ht : VRs G t a.tmps.toList) (hi : P.info? ty = some i) (hx : oO x = some x') (hy : oO y = some y')
    (hv : nop t (.store i.size x' y') = .wr id g) (hob : ORel P G w id ob) (hg : g ob = some (ob', v)) {o : Oper} (ho : o.op = .store ty x y) : WrOk P G w (execOp a.eval o) id ob' v := by
  have h1 := oO_vr ht hx
  have h2 := oO_vr ht hy
  simp only [nop] at hv
  simp only [execOp, ho]
  generalize a.eval x = p at h1 ⊢
  generalize a.eval y = q at h2 ⊢
  split at hv
  · rename_i id' off hb
    rw [hb] at h1
    cases hv
    unfold storeN at hg
    split at hg
    · rename_i c
      split at hg
      · rename_i hc
        obtain ⟨c1, c2, c3⟩ := hc
        cases hg
        obtain ⟨b, sh, bs, C, e, l1, l2, l3, l4, l5⟩ := hob
        cases h1 with
        | ptr hl =>
          rw [l1] at hl; cases hl
          have hcs := h2.cells
          have hlen : q.cells.toList.length = i.size := by rw [← hcs.length, c1]
          have hrun := run_storeCells (P := P) q.cells.toList w (sh + off) 0 C l2 (by rw [hlen]; simp only [Nat.add_zero]; omega) (plain_all hcs c3)
          rw [hlen, Nat.add_zero] at hrun
          refine ⟨b, _, .skip, by simp [Gh.blk, l1], r_u ?_, .inl ⟨rfl, rfl⟩, ORel.write l1 l2 l3 l4 l5 hcs c1 c2⟩
          unfold Instr.storeAt
          rw [rb (rfl : (Instr.sureAddr (.pointer (some ⟨b, sh + off, none⟩))).run P w = .ok ⟨b, sh + off, none⟩ w)]
          unfold storeVar
          rw [rb (r_size hi)]
          rw [if_neg (by simp only [ne_eq, Decidable.not_not]; simpa using hlen)]
          exact hrun
      · cases hg
    · cases hg
  · cases hv

theorem wr_clr {ty e : TypeId} {z : List NV} {sz bytes : Nat} (hu : P.underlying ty = some (.slice e)) (he : elemT P e = some (z, sz, bytes)) {o : Oper} {x : Operand} {x' : Opd} {c : Call} {id : Nat} {g : Obj → Option (Obj × NV)} {ob ob' : Obj} {v : NV}
    (ht : VRs G t a.tmps.toList) (hx : oO x = some x') (ho : o.op = .call c) (hc : c.callee = .builtin .clear) (hargs : c.args.toList = [x]) (hty : c.argTypes[0]? = some ty) (hv : nop t (.clr z sz x') = .wr id g)
    (hob : ORel P G w id ob) (hg : g ob = some (ob', v)) : WrOk P G w (execOp a.eval o) id ob' v := by
  obtain ⟨i, zv, hi, hzv, hs, hb, hl, hz⟩ := elemT_inv he
  have h1 := oO_vr ht hx
  simp only [nop] at hv
  split at hv
  · cases hv
  · rename_i id' off len ex cap sz' hbb
    rw [hbb] at h1
    split at hv
    · cases hv
    rename_i hl0
    split at hv
    · rename_i hc2
      obtain ⟨rfl, hzl⟩ := hc2
      cases hv
      unfold clearN at hg
      split at hg
      · rename_i cc
        split at hg
        · rename_i hle
          cases hg
          obtain ⟨b, sh, bs, C, el, l1, l2, l3, l4, l5⟩ := hob
          generalize hp : a.eval x = p at h1
          cases h1 with
          | sl hlc ha hss q1 q2 q3 =>
            rw [l1] at hlc; cases hlc
            rename_i cr ad
            have hcr : cr ≠ 0 := by omega
            have hvs : zv.cells.size = sz' := by rw [← hl]; have := (ofVs_vr (G := G) hz).length; simpa using this.symm
            have hzz := zeros_vr (G := G) hz (len * sz') (fun hne h0 => hne (by rw [← hl, h0]; simp))
            rw [ha hcr] at hp
            have hlen : (Builtin.zeroCells zv.cells len).toList.length = len * sz' := by simp [Builtin.zeroCells, hvs]
            have hzz' : VRs G ((List.range (len * sz')).map fun j => z.getD (j % z.length) .nilp) (Builtin.zeroCells zv.cells len).toList := by
              unfold Builtin.zeroCells; rw [hvs] at hzz ⊢; exact hzz
            have hpl : ((List.range (len * sz')).map fun j => z.getD (j % z.length) .nilp).all NV.plain = true := by
              rw [List.all_eq_true]
              intro x hx
              simp only [List.mem_map, List.mem_range] at hx
              obtain ⟨j, hj, rfl⟩ := hx
              have : z.length ≠ 0 := fun h0 => by rw [← hl, h0] at hj; simp at hj
              rw [List.getD_eq_getElem?_getD, List.getElem?_eq_getElem (Nat.mod_lt _ (by omega))]
              exact List.all_eq_true.1 hle.2 _ (List.getElem_mem _)
            have hrun := run_storeCells (P := P) (Builtin.zeroCells zv.cells len).toList w (sh + off) 0 C l2 (by rw [hlen]; simp only [Nat.add_zero]; omega) (plain_all hzz' hpl)
            rw [hlen, Nat.add_zero] at hrun
            refine ⟨b, _, .value (.tuple #[]), by simp [Gh.blk, l1], bi_run ho hc (fun cs => ?_), .inr ⟨_, rfl, .tup .nil⟩, ORel.write l1 l2 l3 l4 l5 hzz' (by simp) hle.1⟩
            rw [args1 hargs]
            simp only [builtin]
            refine r_v ?_
            unfold Builtin.clear_
            simp only [hty, List.getElem?_toArray, List.getElem?_cons_zero]
            rw [rb (r_under hu), hp]
            obtain ⟨n, rfl⟩ : ∃ n, len = n + 1 := ⟨len - 1, by omega⟩
            simp only
            rw [rb (r_zero hi hzv), rb hrun]
            rfl
        · cases hg
      · cases hg
    · cases hv
  · cases hv

/-- The entry's key, and its value, where it was found. -/
theorem putMap_ok {sh : EqS} {k : NV} {vo : Option NV} {p : Value} {f : MapEntry → MapEntry} (hk : VR G k p) (hf : ∀ e v, VR G v e.val → (f e).born = e.born ∧ (f e).key = p ∧ VR G (vo.getD v) (f e).val) :
    ∀ {l l' : List (Nat × NV × NV)} {es : List MapEntry} {j : Nat}, ERel G l es → idxN sh k l = some (some j) → putMap sh k vo l = some l' → ERel G l' (es.modify j f)
  | [], _, es, j, _, h, _ => by simp [idxN] at h
  | (s, k', v) :: l, l', [], j, hE, _, _ => hE.elim
  | (s, k', v) :: l, l', e :: es, j, hE, h, hp => by
    obtain ⟨h1, h2, h3, h4⟩ := hE
    simp only [idxN] at h
    simp only [putMap] at hp
    split at h
    · rename_i he
      simp only [he] at hp
      cases h; cases hp
      obtain ⟨f1, f2, f3⟩ := hf e v h3
      exact ⟨f1.trans h1, by rw [f2]; exact hk, f3, h4⟩
    · rename_i he
      simp only [he] at hp
      simp only [Option.map_eq_some_iff] at h hp
      obtain ⟨r, hr, hr'⟩ := h
      obtain ⟨l2, hl2, rfl⟩ := hp
      cases r with
      | none => simp at hr'
      | some j' =>
        simp only [Option.some.injEq, exists_eq_left'] at hr'
        obtain ⟨_, rfl, rfl⟩ := hr'
        exact ⟨h1, h2, h3, putMap_ok hk hf h4 hr hl2⟩
    · cases h

theorem ERel.push {l : List (Nat × NV × NV)} {es : List MapEntry} {k v : NV} {p q : Value} {clk : Nat} (h : ERel G l es) (hk : VR G k p) (hv : VR G v q) : ERel G (l ++ [(clk, k, v)]) (es ++ [{ key := p, val := q, born := clk }]) := by
  induction l generalizing es with
  | nil => cases es with
    | nil => exact ⟨rfl, hk, hv, trivial⟩
    | cons _ _ => exact h.elim
  | cons a l ih =>
    obtain ⟨s, k', v'⟩ := a
    cases es with
    | nil => exact h.elim
    | cons e es => exact ⟨h.1, h.2.1, h.2.2.1, ih h.2.2.2⟩

theorem ORel.map_of {id b x y clk : Nat} {l : List (Nat × NV × NV)} {E : Array MapEntry} (h1 : G.loc id = some (b, x, y)) (hb : b < w.heap.size) (hE : ERel G l E.toList) : ORel P G (putW w b (.map E clk)) id (.map l clk) :=
  ⟨b, x, y, E, h1, putW_heap_same hb, hE.to.1, hE.to.2.1, hE.to.2.2⟩

theorem key_ok {kt : TypeId} {sh : EqS} {k : NV} {p : Value} {l : List (Nat × NV × NV)} {r : Option (Nat × NV)} (hs : eqShape P kt = some sh) (hk : VR G k p) (hf : findN sh k l = some r) : (Instr.checkKey false 10000 kt p).run P w = .ok () w := by
  obtain ⟨y, b, hb⟩ := findN_key hf
  exact checkKey_ok hs (.inl hb) hk

theorem wr_mapup {ty kt et : TypeId} {m k y : Operand} {m' k' y' : Opd} {sh : EqS} {id : Nat} {g : Obj → Option (Obj × NV)} {ob ob' : Obj} {v : NV} (ht : VRs G t a.tmps.toList) (hu : P.underlying ty = some (.map kt et)) (hs : eqShape P kt = some sh)
    (hn : sh ≠ .nilp ∧ sh ≠ .nils ∧ sh ≠ .nilm ∧ sh ≠ .nilf) (hm : oO m = some m') (hk : oO k = some k') (hy : oO y = some y')
    (hv : nop t (.mapup sh m' k' y') = .wr id g) (hob : ORel P G w id ob) (hg : g ob = some (ob', v)) {o : Oper} (ho : o.op = .mapUpdate ty m k y ∨ o.op = .insert ty m k y) : WrOk P G w (execOp a.eval o) id ob' v := by
  have h1 := oO_vr ht hm
  have h2 := oO_vr ht hk
  have h3 := oO_vr ht hy
  simp only [nop] at hv
  have hexec : execOp a.eval o = (do Instr.mapUpdate ty (a.eval m) (a.eval k) (a.eval y); pure .skip) := by
    rcases ho with ho | ho <;> simp only [execOp, ho]
  rw [hexec]
  generalize a.eval m = p at h1 ⊢
  generalize a.eval k = q at h2 ⊢
  generalize a.eval y = r at h3 ⊢
  split at hv
  · rename_i id' hb
    rw [hb] at h1
    cases hv
    unfold mapupN at hg
    split at hg
    · rename_i es clk
      obtain ⟨b, x1, y1, E, l1, l2, l3, l4, l5⟩ := hob
      have hE : ERel G es E.toList := .of l3 l4 l5
      have hbs : b < w.heap.size := (Array.getElem?_eq_some_iff.1 l2).1
      cases h1 with
      | mp hl =>
        rw [l1] at hl; cases hl
        have pre : ∀ ob2, (do
            match ← Instr.findKey kt q E.toList with
            | some (i, _) => do
              let key ← Instr.keyThatStays (((E[i]?).map (·.key)).getD q) q
              setObj b (.map (E.modify i fun e => { e with key, val := r }) clk)
            | none => setObj b (.map (E.push { key := q, val := r, born := clk }) (clk + 1)) : Sem Unit).run P w = .ok () (putW w b ob2) →
            (∀ fr, findN sh (getO t k') es = some fr → (Instr.mapUpdate ty (.map (some b)) q r).run P w = .ok () (putW w b ob2)) := by
          intro ob2 h fr hf
          unfold Instr.mapUpdate
          rw [rb (r_under hu)]
          simp only
          rw [rb (run_getMap l2)]
          simp only
          rw [rb (key_ok hs h2 hf)]
          exact h
        split at hg
        · rename_i sv hf
          obtain ⟨_, h5⟩ | ⟨j, s, k'', v', h5, h6, h7, h8⟩ := findN_idx hf
          · simp at *
          simp only [Option.map_eq_some_iff] at hg
          obtain ⟨l', hl', hg⟩ := hg
          cases hg
          have hfk := findKey_ok (P := P) (w := w) hs h2 hE h6
          obtain ⟨e, he⟩ : ∃ e, E.toList[j]? = some e := by
            have hlt : j < es.length := (List.getElem?_eq_some_iff.1 h7).1
            exact ⟨_, List.getElem?_eq_getElem (by rw [← hE.length]; exact hlt)⟩
          have hkk : VR G k'' e.key := by
            obtain ⟨u, hu1, hu2⟩ := l3.get j k'' (by simp [h7])
            simp only [List.getElem?_map, he, Option.map_some, Option.some.injEq] at hu1
            rw [hu1]; exact hu2
          refine ⟨b, .map (E.modify j fun e => { e with key := q, val := r }) clk, .skip, by simp [Gh.blk, l1], r_u (pre _ ?_ _ hf), .inl ⟨rfl, rfl⟩, ORel.map_of l1 hbs ?_⟩
          · rw [rb hfk]
            simp only [hit, he, Option.map_some, Nat.zero_add]
            have hej : E[j]? = some e := by simpa using he
            rw [hej]
            simp only [Option.map_some, Option.getD_some]
            rw [rb (stays_ok h8 h2 hkk hn)]
            exact run_setMap l2 (by simp)
          · rw [Array.toList_modify]
            exact putMap_ok (vo := some (getO t y')) (f := fun e => { e with key := q, val := r }) h2 (fun e v _ => ⟨rfl, rfl, h3⟩) hE h6 hl'
        · rename_i hf
          obtain ⟨_, h6⟩ | ⟨j, s, k'', v', h5, _⟩ := findN_idx hf
          · cases hg
            have hfk := findKey_ok (P := P) (w := w) hs h2 hE h6
            refine ⟨b, .map (E.push { key := q, val := r, born := clk }) (clk + 1), .skip, by simp [Gh.blk, l1], r_u (pre _ ?_ _ hf), .inl ⟨rfl, rfl⟩, ORel.map_of l1 hbs ?_⟩
            · rw [rb hfk]
              exact run_setMap l2 (by simp)
            · rw [Array.toList_push]; exact hE.push h2 h3
          · cases h5
        · cases hg
    · cases hg
  · cases hv

theorem wr_ment {ty kt et : TypeId} {i : TypeInfo} {zv : Value} {z : NV} {m k : Operand} {m' k' : Opd} {sh : EqS} {id : Nat} {g : Obj → Option (Obj × NV)} {ob ob' : Obj} {v : NV} (ht : VRs G t a.tmps.toList) (hu : P.underlying ty = some (.map kt et)) (hs : eqShape P kt = some sh)
    (hi : P.info? et = some i) (hz : i.zero = some zv) (hzv : VR G z zv)
    (hn : sh ≠ .nilp ∧ sh ≠ .nils ∧ sh ≠ .nilm ∧ sh ≠ .nilf) (hm : oO m = some m') (hk : oO k = some k')
    (hv : nop t (.ment sh z m' k') = .wr id g) (hob : ORel P G w id ob) (hg : g ob = some (ob', v)) {o : Oper} (ho : o.op = .mapEntry ty m k) : WrOk P G w (execOp a.eval o) id ob' v := by
  have h1 := oO_vr ht hm
  have h2 := oO_vr ht hk
  simp only [nop] at hv
  simp only [execOp, ho]
  generalize a.eval m = p at h1 ⊢
  generalize a.eval k = q at h2 ⊢
  split at hv
  · rename_i id' hb
    rw [hb] at h1
    cases hv
    unfold mentN at hg
    split at hg
    · rename_i es clk
      obtain ⟨b, x1, y1, E, l1, l2, l3, l4, l5⟩ := hob
      have hE : ERel G es E.toList := .of l3 l4 l5
      have hbs : b < w.heap.size := (Array.getElem?_eq_some_iff.1 l2).1
      cases h1 with
      | mp hl =>
        rw [l1] at hl; cases hl
        split at hg
        · rename_i st sv hf
          obtain ⟨h5, _⟩ | ⟨j, s, k'', v', h5, h6, h7, h8⟩ := findN_idx hf
          · cases h5
          cases h5
          simp only [Option.map_eq_some_iff] at hg
          obtain ⟨l', hl', hg⟩ := hg
          cases hg
          have hfk := findKey_ok (P := P) (w := w) hs h2 hE h6
          obtain ⟨e, he⟩ : ∃ e, E.toList[j]? = some e := by
            have hlt : j < es.length := (List.getElem?_eq_some_iff.1 h7).1
            exact ⟨_, List.getElem?_eq_getElem (by rw [← hE.length]; exact hlt)⟩
          have hkk : VR G k'' e.key := by
            obtain ⟨u, hu1, hu2⟩ := l3.get j k'' (by simp [h7])
            simp only [List.getElem?_map, he, Option.map_some, Option.some.injEq] at hu1
            rw [hu1]; exact hu2
          have hvv : VR G sv e.val := by
            obtain ⟨u, hu1, hu2⟩ := l4.get j sv (by simp [h7])
            simp only [List.getElem?_map, he, Option.map_some, Option.some.injEq] at hu1
            rw [hu1]; exact hu2
          have hbo : e.born = st := by
            have := congrArg (fun l => l[j]?) l5
            simp only [List.getElem?_map, he, h7, Option.map_some, Option.some.injEq] at this
            exact this.symm
          refine ⟨b, .map (E.modify j fun e => { e with key := q }) clk, .value (.tuple #[e.val, goInt e.born]), by simp [Gh.blk, l1], r_v ?_, .inr ⟨_, rfl, ?_⟩, ORel.map_of l1 hbs ?_⟩
          · unfold Instr.mapEntry
            rw [rb (r_under hu)]
            simp only
            rw [rb (run_getMap l2)]
            simp only
            rw [rb (key_ok hs h2 hf), rb hfk]
            simp only [hit, he, Option.map_some, Nat.zero_add]
            have hej : E[j]? = some e := by simpa using he
            rw [hej]
            simp only [Option.map_some, Option.getD_some]
            rw [rb (stays_ok h8 h2 hkk hn), rb (run_setMap l2 (by simp))]
            rfl
          · rw [hbo]; exact .tup (.cons hvv (.cons (.i _ _) .nil))
          · rw [Array.toList_modify]
            exact putMap_ok (vo := none) (f := fun e => { e with key := q }) h2 (fun e v hv => ⟨rfl, rfl, hv⟩) hE h6 hl'
        · rename_i hf
          obtain ⟨_, h6⟩ | ⟨j, s, k'', v', h5, _⟩ := findN_idx hf
          · cases hg
            have hfk := findKey_ok (P := P) (w := w) hs h2 hE h6
            refine ⟨b, .map (E.push { key := q, val := zv, born := clk }) (clk + 1), .value (.tuple #[zv, goInt clk]), by simp [Gh.blk, l1], r_v ?_, .inr ⟨_, rfl, .tup (.cons hzv (.cons (.i _ _) .nil))⟩, ORel.map_of l1 hbs ?_⟩
            · unfold Instr.mapEntry
              rw [rb (r_under hu)]
              simp only
              rw [rb (run_getMap l2)]
              simp only
              rw [rb (key_ok hs h2 hf), rb hfk]
              simp only [hit]
              rw [rb (r_zero hi hz), rb (run_setMap l2 (by simp))]
              rfl
            · rw [Array.toList_push]; exact hE.push h2 hzv
          · cases h5
        · cases hg
    · cases hg
  · cases hv

theorem stoE_ok {st : Int} {v : NV} {q : Value} (hq : VR G v q) : ∀ {l l' : List (Nat × NV × NV)} {es : List MapEntry}, ERel G l es → stoE st v l = some l' →
    ∃ j, es.findIdx? (fun e => (e.born : Int) == st) = some j ∧ ERel G l' (es.modify j fun e => { e with val := q })
  | [], _, _, _, h => by simp [stoE] at h
  | (s, k, v') :: l, l', [], hE, _ => hE.elim
  | (s, k, v') :: l, l', e :: es, hE, h => by
    obtain ⟨h1, h2, h3, h4⟩ := hE
    simp only [stoE] at h
    split at h
    · rename_i hs
      cases h
      refine ⟨0, ?_, h1, h2, hq, h4⟩
      simp [List.findIdx?_cons, h1, hs]
    · rename_i hs
      simp only [Option.map_eq_some_iff] at h
      obtain ⟨l2, hl2, rfl⟩ := h
      obtain ⟨j, hj, hr⟩ := stoE_ok hq h4 hl2
      refine ⟨j + 1, ?_, h1, h2, h3, hr⟩
      have : ((e.born : Int) == st) = false := by rw [h1]; simpa using hs
      simp [List.findIdx?_cons, this, hj]

theorem wr_esto {ty : TypeId} {m s y : Operand} {m' s' y' : Opd} {id : Nat} {g : Obj → Option (Obj × NV)} {ob ob' : Obj} {v : NV} (ht : VRs G t a.tmps.toList) (hm : oO m = some m') (hs : oO s = some s') (hy : oO y = some y')
    (hv : nop t (.esto m' s' y') = .wr id g) (hob : ORel P G w id ob) (hg : g ob = some (ob', v)) {o : Oper} (ho : o.op = .entryStore ty m s y) : WrOk P G w (execOp a.eval o) id ob' v := by
  have h1 := oO_vr ht hm
  have h2 := oO_vr ht hs
  have h3 := oO_vr ht hy
  simp only [nop] at hv
  simp only [execOp, ho]
  generalize a.eval m = p at h1 ⊢
  generalize a.eval s = q at h2 ⊢
  generalize a.eval y = r at h3 ⊢
  split at hv
  · rename_i id' hb
    rw [hb] at h1
    cases hv
    unfold estoN at hg
    split at hg
    · rename_i es clk
      split at hg
      · rename_i k n hsn
        rw [hsn] at h2
        obtain ⟨b, x1, y1, E, l1, l2, l3, l4, l5⟩ := hob
        have hE : ERel G es E.toList := .of l3 l4 l5
        have hbs : b < w.heap.size := (Array.getElem?_eq_some_iff.1 l2).1
        simp only [Option.map_eq_some_iff] at hg
        obtain ⟨l', hl', hg⟩ := hg
        cases hg
        cases h1 with
        | mp hl =>
          rw [l1] at hl; cases hl
          cases h2
          obtain ⟨j, hj, hr⟩ := stoE_ok h3 hE hl'
          refine ⟨b, .map (E.modify j fun e => { e with val := r }) clk, .skip, by simp [Gh.blk, l1], r_u ?_, .inl ⟨rfl, rfl⟩, ORel.map_of l1 hbs ?_⟩
          · unfold Instr.entryStore
            simp only
            rw [rb (run_getMap l2)]
            simp only
            rw [rb (rfl : (asInt (.int k n)).run P w = .ok n w)]
            have hj' : E.findIdx? (fun e => (e.born : Int) == n) = some j := by
              have := Array.findIdx?_eq_map_findFinIdx?_val (xs := E) (p := fun e => (e.born : Int) == n)
              rw [← hj]; cases E; simp
            rw [hj']
            exact run_setMap l2 (by simp)
          · rw [Array.toList_modify]; exact hr
      · cases hg
    · cases hg
  · cases hv

end
end Go.NL
