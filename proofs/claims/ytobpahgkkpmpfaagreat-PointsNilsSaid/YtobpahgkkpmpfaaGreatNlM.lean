/-
  Memory: the machine's loads and stores of rows of cells; what a memory of N says of a world.
-/
import Derived.Test.YtobpahgkkpmpfaaGreatNlB
namespace Go.NL

section
variable {P : Program} {w : World}

theorem rb {α β : Type} {s : Sem α} {f : α → Sem β} {v : α} {w' : World} (h : s.run P w = .ok v w') : (s >>= f).run P w = (f v).run P w' := by
  rw [Sem.run_bind, h]; rfl

theorem r_pure {α : Type} (v : α) : (pure v : Sem α).run P w = .ok v w := rfl

theorem r_under {t : TypeId} {d : TypeDesc} (h : P.underlying t = some d) : (underlying t).run P w = .ok d w := by
  simp [underlying, h]

theorem r_info {t : TypeId} {i : TypeInfo} (h : P.info? t = some i) : (typeInfo t).run P w = .ok i w := by
  simp [typeInfo, h]

theorem r_size {t : TypeId} {i : TypeInfo} (h : P.info? t = some i) : (sizeOf t).run P w = .ok i.size w := by
  unfold Go.sizeOf; rw [rb (r_info h)]; rfl

theorem r_zero {t : TypeId} {i : TypeInfo} {v : Value} (h : P.info? t = some i) (hz : i.zero = some v) : (zeroValue t).run P w = .ok v w := by
  unfold zeroValue; rw [rb (r_info h), hz]; rfl

theorem r_isAgg {t : TypeId} {g : Bool} (h : isAggT P t = some g) : (isAgg t).run P w = .ok g w := by
  unfold isAggT at h
  unfold isAgg
  cases hu : P.underlying t with
  | none => simp [hu] at h
  | some d =>
    rw [rb (r_under hu)]
    cases d <;> simp [hu] at h <;> subst h <;> rfl

theorem Value.not_agg_of_plain {G : Gh} {x : NV} {y : Value} (h : VR G x y) (hp : x.plain = true) : (∀ cs, y ≠ .agg cs) ∧ (∀ vs, y ≠ .tuple vs) := by
  cases h <;> simp [NV.plain] at hp ⊢

theorem addr_add (b o j : Nat) : (⟨b, o, none⟩ : Addr).add j = ⟨b, o + j, none⟩ := by
  unfold Addr.add; split
  · rename_i h; subst h; rfl
  · rfl

theorem run_loadCellsFrom (b o : Nat) : ∀ (l : List Value) (i : Nat) (acc : Array Value), (∀ j v, l[j]? = some v → w.cell? ⟨b, o + (i + j), none⟩ = some v) →
    (loadCellsFrom ⟨b, o, none⟩ i l.length acc).run P w = .ok (acc ++ l.toArray) w
  | [], i, acc, _ => by simp [loadCellsFrom]
  | v :: l, i, acc, h => by
    have h0 := h 0 v (by simp)
    simp only [List.length_cons, loadCellsFrom]
    have hl : (load ((⟨b, o, none⟩ : Addr).add i)).run P w = .ok v w := by
      rw [addr_add]; unfold load; simp only [Sem.run]; rw [show o + i = o + (i + 0) from rfl, h0]
    rw [rb hl, run_loadCellsFrom b o l (i + 1) (acc.push v) (fun j u hj => by
      have := h (j + 1) u (by simpa using hj)
      rw [show o + (i + 1 + j) = o + (i + (j + 1)) from by omega]; exact this)]
    simp

theorem run_loadCells (b o : Nat) (l : List Value) (h : ∀ j v, l[j]? = some v → w.cell? ⟨b, o + j, none⟩ = some v) :
    (loadCells ⟨b, o, none⟩ l.length).run P w = .ok l.toArray w := by
  unfold loadCells
  rw [run_loadCellsFrom b o l 0 #[] (by simpa using h)]
  simp

theorem cell_of_block {b o : Nat} {C : Array Value} {e : TypeId} {fr : Nat × Nat} (h : w.heap[b]? = some (.cells C e fr)) : w.cell? ⟨b, o, none⟩ = C[o]? := by
  simp [World.cell?, h]

def putW (w : World) (b : Nat) (ob : Go.Obj) : World := { w with heap := w.heap.setIfInBounds b ob }

theorem putW_heap_same {w : World} {b : Nat} {ob : Go.Obj} (h : b < w.heap.size) : (putW w b ob).heap[b]? = some ob := by
  simp [putW, h]

theorem putW_heap_ne {w : World} {b b' : Nat} {ob : Go.Obj} (h : b ≠ b') : (putW w b ob).heap[b']? = w.heap[b']? := by
  simp [putW, Array.getElem?_setIfInBounds_ne h]

theorem putW_putW (w : World) (b : Nat) (x y : Go.Obj) : putW (putW w b x) b y = putW w b y := by
  simp [putW]

theorem putW_self {w : World} {b : Nat} {ob : Go.Obj} (h : w.heap[b]? = some ob) : putW w b ob = w := by
  have : w.heap.setIfInBounds b ob = w.heap := by
    apply Array.ext_getElem?
    intro j
    by_cases hj : b = j
    · subst hj
      have hb : b < w.heap.size := (Array.getElem?_eq_some_iff.1 h).1
      have hh : w.heap[b]'hb = ob := (Array.getElem?_eq_some_iff.1 h).2
      simp [hb, hh]
    · rw [Array.getElem?_setIfInBounds_ne hj]
  unfold putW; rw [this]

theorem setCell_eq {b o : Nat} {C : Array Value} {e : TypeId} {fr : Nat × Nat} (h : w.heap[b]? = some (.cells C e fr)) (v : Value) :
    w.setCell ⟨b, o, none⟩ v = putW w b (.cells (C.setIfInBounds o v) e fr) := by
  unfold World.setCell putW
  congr 1
  apply Array.ext_getElem?
  intro j
  by_cases hj : b = j
  · subst hj
    have hb : b < w.heap.size := (Array.getElem?_eq_some_iff.1 h).1
    have hh : w.heap[b]'hb = .cells C e fr := (Array.getElem?_eq_some_iff.1 h).2
    rw [Array.getElem?_modify]
    simp [hb, hh]
  · rw [Array.getElem?_modify, Array.getElem?_setIfInBounds_ne hj]
    simp [hj]

theorem splice_cons (C : List Value) (o : Nat) (v : Value) (l : List Value) (h : o < C.length) :
    (C.set o v).take (o + 1) ++ l ++ (C.set o v).drop (o + 1 + l.length) = C.take o ++ (v :: l) ++ C.drop (o + (l.length + 1)) := by
  have h1 : (C.set o v).take (o + 1) = C.take o ++ [v] := by
    rw [List.take_succ_eq_append_getElem (by simpa using h)]
    rw [List.take_set, List.set_eq_of_length_le (by simp; omega)]
    simp
  have h2 : (C.set o v).drop (o + 1 + l.length) = C.drop (o + (l.length + 1)) := by
    rw [List.drop_set, if_pos (by omega)]; congr 1; omega
  rw [h1, h2]; simp

theorem run_storeCells {b : Nat} {e : TypeId} : ∀ (l : List Value) (w : World) (o i : Nat) (C : Array Value), w.heap[b]? = some (.cells C e (0, 0)) → o + i + l.length ≤ C.size →
    (∀ v ∈ l, (∀ cs, v ≠ .agg cs) ∧ (∀ vs, v ≠ .tuple vs)) →
    (storeCells ⟨b, o, none⟩ l i).run P w = .ok () (putW w b (.cells ⟨C.toList.take (o + i) ++ l ++ C.toList.drop (o + i + l.length)⟩ e (0, 0)))
  | [], w, o, i, C, h, _, _ => by
    simp only [storeCells, List.length_nil, Nat.add_zero, List.append_nil, List.take_append_drop]
    rw [show (⟨C.toList⟩ : Array Value) = C from rfl, putW_self h]; rfl
  | v :: l, w, o, i, C, h, hl, hp => by
    have hlt : o + i < C.size := by simp at hl; omega
    have hc : w.cell? ⟨b, o + i, none⟩ = some C[o + i] := by rw [cell_of_block h]; simp [hlt]
    have hfz : w.frozen? ⟨b, o + i, none⟩ = false := by simp [World.frozen?, h]
    obtain ⟨hv1, hv2⟩ := hp v (by simp)
    have hs : (store ((⟨b, o, none⟩ : Addr).add i) v).run P w = .ok () (putW w b (.cells (C.setIfInBounds (o + i) v) e (0, 0))) := by
      rw [addr_add]
      unfold store
      cases v <;> first | exact absurd rfl (hv1 _) | exact absurd rfl (hv2 _) | (simp only [Sem.run, hc, hfz, Bool.false_eq_true, if_false]; rw [setCell_eq h])
    simp only [storeCells]
    rw [rb hs]
    have hb : b < w.heap.size := (Array.getElem?_eq_some_iff.1 h).1
    rw [run_storeCells l _ o (i + 1) (C.setIfInBounds (o + i) v) (putW_heap_same hb) (by simp at hl ⊢; omega) (fun u hu => hp u (by simp [hu]))]
    rw [putW_putW]
    congr 3
    have := splice_cons C.toList (o + i) v l (by simpa using hlt)
    simp only [Array.toList_setIfInBounds, List.length_cons]
    rw [show o + (i + 1) = o + i + 1 from by omega]
    rw [this]

end

/-! ### Memory -/

abbrev Mem := Nat → Option Obj

def upd (M : Mem) (id : Nat) (o : Option Obj) : Mem := fun j => if j = id then o else M j

def pendR : Option Pend → Option Code → Prop
  | none, none => True
  | some .ret, some .ret => True
  | some (.exit i), some (.exit j) => i = j
  | _, _ => False

def ORel (P : Program) (G : Gh) (w : World) (id : Nat) : Obj → Prop
  | .cells c => ∃ b sh bs C e, G.loc id = some (b, sh, bs) ∧ w.heap[b]? = some (.cells C e (0, 0)) ∧ C.size = bs ∧ sh + c.length ≤ bs ∧ VRs G c ((C.toList.drop sh).take c.length)
  | .map es clk => ∃ b x y E, G.loc id = some (b, x, y) ∧ w.heap[b]? = some (.map E clk) ∧ VRs G (es.map (·.2.1)) (E.toList.map (·.key)) ∧ VRs G (es.map (·.2.2)) (E.toList.map (·.val)) ∧
      es.map (·.1) = E.toList.map (·.born)
  | .loop st pe ts ps na nb => ∃ b x y pe' fn ts' as bo df, G.loc id = some (b, x, y) ∧
      w.heap[b]? = some (.loop { state := st, pending := pe', fn := fn, tmps := ts', params := ps.toArray, assign := as, body := bo, defers := df }) ∧
      pendR pe pe' ∧ VRs G ts ts'.toList ∧ prepC P as = some na ∧ prepC P bo = some nb
  | .defr => ∃ b x y, G.loc id = some (b, x, y) ∧ w.heap[b]? = some (.deferred (some []))

def Gh.blk (G : Gh) (id : Nat) : Option Nat := (G.loc id).map (·.1)

structure MRel (P : Program) (G : Gh) (M : Mem) (w : World) : Prop where
  obj : ∀ id o, M id = some o → ORel P G w id o
  inj : ∀ i j o o', M i = some o → M j = some o' → i ≠ j → G.blk i ≠ G.blk j
  im : ∀ b o v, G.im b o = some v → w.cell? ⟨b, o, none⟩ = some v
  imd : ∀ b o v i ob, G.im b o = some v → M i = some ob → G.blk i ≠ some b

theorem ORel.blk {P : Program} {G : Gh} {w : World} {id : Nat} {o : Obj} (h : ORel P G w id o) : ∃ b, G.blk id = some b ∧ b < w.heap.size := by
  cases o with
  | cells c => obtain ⟨b, sh, bs, C, e, h1, h2, _⟩ := h; exact ⟨b, by simp [Gh.blk, h1], (Array.getElem?_eq_some_iff.1 h2).1⟩
  | map es clk => obtain ⟨b, x, y, E, h1, h2, _⟩ := h; exact ⟨b, by simp [Gh.blk, h1], (Array.getElem?_eq_some_iff.1 h2).1⟩
  | loop st pe ts ps na nb => obtain ⟨b, x, y, pe', fn, ts', as, bo, df, h1, h2, _⟩ := h; exact ⟨b, by simp [Gh.blk, h1], (Array.getElem?_eq_some_iff.1 h2).1⟩
  | defr => obtain ⟨b, x, y, h1, h2⟩ := h; exact ⟨b, by simp [Gh.blk, h1], (Array.getElem?_eq_some_iff.1 h2).1⟩

/-- The object's relation looks at its own block alone. -/
theorem ORel.keep {P : Program} {G G' : Gh} {w w' : World} {id : Nat} {o : Obj} (h : ORel P G w id o) (hG : G.le G') (hw : ∀ b, G.blk id = some b → w'.heap[b]? = w.heap[b]?) : ORel P G' w' id o := by
  cases o with
  | cells c =>
    obtain ⟨b, sh, bs, C, e, h1, h2, h3, h4, h5⟩ := h
    exact ⟨b, sh, bs, C, e, hG.loc _ _ h1, by rw [hw b (by simp [Gh.blk, h1])]; exact h2, h3, h4, h5.mono hG⟩
  | map es clk =>
    obtain ⟨b, x, y, E, h1, h2, h3, h4, h5⟩ := h
    exact ⟨b, x, y, E, hG.loc _ _ h1, by rw [hw b (by simp [Gh.blk, h1])]; exact h2, h3.mono hG, h4.mono hG, h5⟩
  | loop st pe ts ps na nb =>
    obtain ⟨b, x, y, pe', fn, ts', as, bo, df, h1, h2, h3, h4, h5, h6⟩ := h
    exact ⟨b, x, y, pe', fn, ts', as, bo, df, hG.loc _ _ h1, by rw [hw b (by simp [Gh.blk, h1])]; exact h2, h3, h4.mono hG, h5, h6⟩
  | defr =>
    obtain ⟨b, x, y, h1, h2⟩ := h
    exact ⟨b, x, y, hG.loc _ _ h1, by rw [hw b (by simp [Gh.blk, h1])]; exact h2⟩

/-- How far a step, or a call, may change things: what M does not own stays. -/
structure Adv (G : Gh) (M : Mem) (w : World) (G' : Gh) (M' : Mem) (w' : World) : Prop where
  le : G.le G'
  size : w.heap.size ≤ w'.heap.size
  heap : ∀ b, b < w.heap.size → (∀ id o, M id = some o → G.blk id ≠ some b) → w'.heap[b]? = w.heap[b]?
  own : ∀ id o, M' id = some o → ∃ b, G'.blk id = some b ∧ (w.heap.size ≤ b ∨ ∃ j oj, M j = some oj ∧ G.blk j = some b)
  im : ∀ b o v, G'.im b o = some v → G.im b o = some v ∨ w.heap.size ≤ b ∨ ∃ j oj, M j = some oj ∧ G.blk j = some b
  tape : w'.tape = w.tape
  os : w'.os = w.os
  output : w'.output = w.output

theorem Adv.refl {P : Program} {G : Gh} {M : Mem} {w : World} (h : MRel P G M w) : Adv G M w G M w :=
  ⟨G.le_refl, Nat.le_refl _, fun _ _ _ => rfl, fun id o hm => by
    obtain ⟨b, h1, _⟩ := (h.obj id o hm).blk; exact ⟨b, h1, .inr ⟨id, o, hm, h1⟩⟩, fun _ _ _ h => .inl h, rfl, rfl, rfl⟩

theorem Adv.trans {G G' G'' : Gh} {M M' M'' : Mem} {w w' w'' : World} (h : Adv G M w G' M' w') (h' : Adv G' M' w' G'' M'' w'') : Adv G M w G'' M'' w'' where
  le := Gh.le_trans h.le h'.le
  size := Nat.le_trans h.size h'.size
  heap := fun b hb hn => by
    rw [h'.heap b (Nat.lt_of_lt_of_le hb h.size) fun id o hm hb' => ?_, h.heap b hb hn]
    obtain ⟨b1, h1, h2⟩ := h.own id o hm
    rw [hb'] at h1; cases h1
    rcases h2 with h2 | ⟨j, oj, hj, hj'⟩
    · omega
    · exact hn j oj hj hj'
  own := fun id o hm => by
    obtain ⟨b, h1, h2⟩ := h'.own id o hm
    refine ⟨b, h1, ?_⟩
    rcases h2 with h2 | ⟨j, oj, hj, hj'⟩
    · exact .inl (Nat.le_trans h.size h2)
    · obtain ⟨b1, h3, h4⟩ := h.own j oj hj
      rw [hj'] at h3; cases h3
      exact h4
  im := fun b o v hv => by
    rcases h'.im b o v hv with h1 | h1 | ⟨j, oj, hj, hj'⟩
    · exact h.im b o v h1
    · exact .inr (.inl (Nat.le_trans h.size h1))
    · obtain ⟨b1, h3, h4⟩ := h.own j oj hj
      rw [hj'] at h3; cases h3
      exact .inr h4
  tape := h'.tape.trans h.tape
  os := h'.os.trans h.os
  output := h'.output.trans h.output

/-- What is kept aside of M. -/
def Mem.join (M F : Mem) : Mem := fun id => match M id with | some o => some o | none => F id

/-- **The frame**: what M does not own stays related. -/
theorem MRel.frame {P : Program} {G G' : Gh} {M M' F : Mem} {w w' : World} (h : MRel P G (M.join F) w) (hd : ∀ id o, F id = some o → M id = none) (ha : Adv G M w G' M' w') (h' : MRel P G' M' w') : MRel P G' (M'.join F) w' := by
  have hFown : ∀ id o, F id = some o → (M.join F) id = some o := fun id o hf => by simp [Mem.join, hd id o hf, hf]
  have hMown : ∀ id o, M id = some o → (M.join F) id = some o := fun id o hm => by simp [Mem.join, hm]
  have hblk : ∀ id o, F id = some o → ∃ b, G.blk id = some b ∧ G'.blk id = some b ∧ b < w.heap.size ∧ w'.heap[b]? = w.heap[b]? := fun id o hf => by
    obtain ⟨b, h1, h2⟩ := (h.obj id o (hFown id o hf)).blk
    refine ⟨b, h1, ?_, h2, ha.heap b h2 fun j oj hj hjb => h.inj id j o oj (hFown id o hf) (hMown j oj hj) (fun e => by subst e; rw [hd id o hf] at hj; cases hj) (h1.trans hjb.symm)⟩
    unfold Gh.blk at h1 ⊢
    cases hl : G.loc id with
    | none => simp [hl] at h1
    | some x => rw [ha.le.loc _ _ hl]; rw [hl] at h1; exact h1
  have hcross : ∀ i o j oj, M' i = some o → F j = some oj → G'.blk i ≠ G'.blk j := fun i o j oj hi hj he => by
    obtain ⟨b, h1, h2⟩ := ha.own i o hi
    obtain ⟨b', h3, h4, h5, _⟩ := hblk j oj hj
    rw [h1, h4] at he; cases he
    rcases h2 with h2 | ⟨k, ok, hk, hkb⟩
    · omega
    · exact h.inj j k oj ok (hFown j oj hj) (hMown k ok hk) (fun e => by subst e; rw [hd j oj hj] at hk; cases hk) (h3.trans hkb.symm)
  constructor
  · intro id o hm
    unfold Mem.join at hm
    cases hM : M' id with
    | some x => simp [hM] at hm; subst hm; exact h'.obj id x hM
    | none =>
      simp [hM] at hm
      refine (h.obj id o (hFown id o hm)).keep ha.le fun b hb => ?_
      obtain ⟨b', h1, _, _, h4⟩ := hblk id o hm
      rw [hb] at h1; cases h1; exact h4
  · intro i j o o' hi hj hij
    unfold Mem.join at hi hj
    cases hMi : M' i with
    | some x =>
      simp [hMi] at hi; subst hi
      cases hMj : M' j with
      | some y => simp [hMj] at hj; subst hj; exact h'.inj i j x y hMi hMj hij
      | none => simp [hMj] at hj; exact hcross i x j o' hMi hj
    | none =>
      simp [hMi] at hi
      cases hMj : M' j with
      | some y => simp [hMj] at hj; subst hj; exact fun e => hcross j y i o hMj hi e.symm
      | none =>
        simp [hMj] at hj
        obtain ⟨b, h1, h2, _⟩ := hblk i o hi
        obtain ⟨b', h3, h4, _⟩ := hblk j o' hj
        rw [h2, h4]
        have := h.inj i j o o' (hFown i o hi) (hFown j o' hj) hij
        rwa [h1, h3] at this
  · exact h'.im
  · intro b o v i ob him hi
    unfold Mem.join at hi
    cases hM : M' i with
    | some x => simp [hM] at hi; subst hi; exact h'.imd b o v i x him hM
    | none =>
      simp [hM] at hi
      obtain ⟨b', h1, h2, h3, h4⟩ := hblk i ob hi
      rw [h2]
      intro e; cases e
      rcases ha.im b o v him with h5 | h5 | ⟨k, ok, hk, hkb⟩
      · exact h.imd b o v i ob h5 (hFown i ob hi) h1
      · omega
      · exact h.inj i k ob ok (hFown i ob hi) (hMown k ok hk) (fun e => by subst e; rw [hd i ob hi] at hk; cases hk) (h1.trans hkb.symm)

/-- The frame's own step. -/
theorem Adv.frame {P : Program} {G G' : Gh} {M M' F : Mem} {w w' : World} (h : MRel P G (M.join F) w) (hd : ∀ id o, F id = some o → M id = none) (ha : Adv G M w G' M' w') :
    Adv G (M.join F) w G' (M'.join F) w' := by
  have hMown : ∀ id o, M id = some o → (M.join F) id = some o := fun id o hm => by simp [Mem.join, hm]
  refine ⟨ha.le, ha.size, fun b hb hn => ha.heap b hb fun id o hm => hn id o (hMown id o hm), fun id o hm => ?_, fun b o v hv => ?_, ha.tape, ha.os, ha.output⟩
  · unfold Mem.join at hm
    cases hM : M' id with
    | some x =>
      obtain ⟨b, h1, h2⟩ := ha.own id x hM
      exact ⟨b, h1, h2.imp_right fun ⟨j, oj, hj, hjb⟩ => ⟨j, oj, hMown j oj hj, hjb⟩⟩
    | none =>
      simp [hM] at hm
      have hf : (M.join F) id = some o := by simp [Mem.join, hd id o hm, hm]
      obtain ⟨b, h1, h2⟩ := (h.obj id o hf).blk
      refine ⟨b, ?_, .inr ⟨id, o, hf, h1⟩⟩
      unfold Gh.blk at h1 ⊢
      cases hl : G.loc id with
      | none => simp [hl] at h1
      | some x => rw [ha.le.loc _ _ hl]; rw [hl] at h1; exact h1
  · exact (ha.im b o v hv).imp_right (Or.imp_right fun ⟨j, oj, hj, hjb⟩ => ⟨j, oj, hMown j oj hj, hjb⟩)

end Go.NL
