/-
  Each operation of the machine does what its reading says: those that make memory, those that write it.
-/
import Derived.Test.YtobpahgkkpmpfaaGreatNlT
namespace Go.NL

def pushW (w : World) (ob : Go.Obj) : World := { w with heap := w.heap.push ob }

def osize : Obj → Nat
  | .cells c => c.length
  | _ => 0

section
variable {P : Program} {w w' : World} {G : Gh} {t : List NV} {a : Act}

theorem pushW_get {ob : Go.Obj} : (pushW w ob).heap[w.heap.size]? = some ob := by
  show (w.heap.push ob)[w.heap.size]? = some ob
  rw [Array.getElem?_push_size]

theorem run_newRow {elem : TypeId} {cells : Array Value} : (newRow elem cells).run P w = .ok ⟨w.heap.size, 0, none⟩ (pushW w (.cells cells elem)) := rfl

theorem ORel.new_cells {G' : Gh} {c : List NV} {vs : Array Value} {elem : TypeId} {id : Nat} (hc : VRs G c vs.toList) (hG : G.le G') (hl : G'.loc id = some (w.heap.size, 0, c.length)) :
    ORel P G' (pushW w (.cells vs elem)) id (.cells c) := by
  have hlen : c.length = vs.size := by simpa using hc.length
  refine ⟨w.heap.size, 0, c.length, vs, elem, hl, pushW_get, hlen.symm, by omega, ?_⟩
  rw [List.drop_zero, List.take_of_length_le (by simp; omega)]
  exact hc.mono hG

/-- What is asked of an operation that makes memory. -/
def AlOk (P : Program) (G : Gh) (w : World) (s : Sem Next) (ob : Obj) (mk : Nat → NV) : Prop :=
  ∃ gob u, s.run P w = .ok (.value u) (pushW w gob) ∧ ∀ G' id, G.le G' → G'.loc id = some (w.heap.size, 0, osize ob) → VR G' (mk id) u ∧ ORel P G' (pushW w gob) id ob

theorem al_alloc {e : TypeId} {z : List NV} {ob : Obj} {mk : Nat → NV} (hz : zeroT P e = some z) (hv : nop t (.alloc z) = .al ob mk) {o : Oper} (ho : o.op = .alloc e) : AlOk P G w (execOp a.eval o) ob mk := by
  simp only [nop, NR.al.injEq] at hv
  obtain ⟨rfl, rfl⟩ := hv
  simp only [execOp, ho]
  unfold zeroT at hz
  split at hz
  · rename_i i hi
    split at hz
    · rename_i v hv
      refine ⟨.cells v.cells e, .pointer (some ⟨w.heap.size, 0, none⟩), r_v ?_, fun G' id hG hl => ⟨.ptr hl, ORel.new_cells (ofVs_vr (G := G) hz) hG hl⟩⟩
      unfold Instr.alloc
      rw [rb (r_zero hi hv)]
      simp only
      rw [rb (rfl : (newVar e v).run P w = .ok ⟨w.heap.size, 0, none⟩ (pushW w (.cells v.cells e)))]
      rfl
    · cases hz
  · cases hz

theorem al_box {e : TypeId} {x : Operand} {x' : Opd} {ob : Obj} {mk : Nat → NV} (ht : VRs G t a.tmps.toList) (hx : oO x = some x') (hv : nop t (.box x') = .al ob mk) {o : Oper} (ho : o.op = .box e x) : AlOk P G w (execOp a.eval o) ob mk := by
  have h1 := oO_vr ht hx
  simp only [nop] at hv
  split at hv
  · simp only [NR.al.injEq] at hv
    obtain ⟨rfl, rfl⟩ := hv
    simp only [execOp, ho]
    refine ⟨.cells (a.eval x).cells e, .pointer (some ⟨w.heap.size, 0, none⟩), r_v ?_, fun G' id hG hl => ⟨.ptr hl, ORel.new_cells h1.cells hG hl⟩⟩
    unfold Instr.box
    rw [rb (rfl : (newVar e (a.eval x)).run P w = .ok ⟨w.heap.size, 0, none⟩ (pushW w (.cells (a.eval x).cells e)))]
    rfl
  · cases hv

theorem fill_ok {place : Nat → Option (Nat × Nat)} : ∀ (ps : List (Nat × Operand)) (ps' : List (Nat × Nat × Opd)) (z z' : List NV) (vs : Array Value), VRs G t a.tmps.toList → partsT place ps = some ps' → VRs G z vs.toList →
    fillN z (ps'.map fun (o, s, x) => (o, s, getO t x)) = some z' → ∃ vs', Instr.fill place vs (ps.map fun (i, x) => (i, a.eval x)) = some vs' ∧ VRs G z' vs'.toList
  | [], ps', z, z', vs, ht, hp, hz, hf => by
    simp only [partsT] at hp; cases hp
    simp only [List.map_nil, fillN] at hf; cases hf
    exact ⟨vs, rfl, hz⟩
  | (k, x) :: ps, ps', z, z', vs, ht, hp, hz, hf => by
    simp only [partsT] at hp
    split at hp
    · rename_i o s y r h1 h2 h3
      cases hp
      simp only [List.map_cons, fillN] at hf
      split at hf
      · rename_i hc
        have hx := (oO_vr ht h2).cells
        have hlen := hx.length
        have hzl := hz.length
        simp only [Array.length_toList] at hlen hzl
        simp only [List.map_cons, Instr.fill, h1]
        obtain ⟨hc1, hc2⟩ := hc
        have hne : ¬((decide ((a.eval x).cells.size ≠ s) || decide (o + (a.eval x).cells.size > vs.size)) = true) := by
          simp only [Bool.or_eq_true, decide_eq_true_eq]; rw [← hlen, hc1, ← hzl]; omega
        rw [if_neg hne]
        refine fill_ok ps r _ z' _ ht h3 ?_ hf
        have key : ∀ (l : List Value) (cs : Array Value) (j : Nat), o + j + l.length ≤ cs.size → ((l.zipIdx j).foldl (fun cs (c, j) => cs.setIfInBounds (o + j) c) cs).toList = cs.toList.take (o + j) ++ l ++ cs.toList.drop (o + j + l.length) := by
          intro l
          induction l with
          | nil => intro cs j h; simp
          | cons c l ih =>
            intro cs j h
            simp only [List.zipIdx_cons, List.foldl_cons]
            rw [ih _ _ (by simp at h ⊢; omega)]
            simp only [Array.toList_setIfInBounds, List.length_cons]
            have := splice_cons cs.toList (o + j) c l (by simp at h ⊢; omega)
            rw [show o + (j + 1) = o + j + 1 from by omega]
            exact this
        have hk := key (a.eval x).cells.toList vs 0 (by simp only [Array.length_toList]; omega)
        have he : ((a.eval x).cells.zipIdx.foldl (fun cs (c, j) => cs.setIfInBounds (o + j) c) vs) = ((a.eval x).cells.toList.zipIdx 0).foldl (fun cs (c, j) => cs.setIfInBounds (o + j) c) vs := by
          rw [← Array.foldl_toList]; simp
        rw [he, hk]
        have hs : (a.eval x).cells.toList.length = s := by simp only [Array.length_toList]; omega
        rw [hs, Nat.add_zero]
        exact ((hz.take o).append hx).append (hz.drop (o + s))
      · cases hf
    · cases hp

theorem val_build_struct {ty : TypeId} {fs : Array Field} {ps : Array (Nat × Operand)} {ps' : List (Nat × Nat × Opd)} {z : List NV} {v : NV} (ht : VRs G t a.tmps.toList) (hu : P.underlying ty = some (.struct fs)) (hz : zeroT P ty = some z)
    (hp : partsT (placeT P fs) ps.toList = some ps')
    (hall : fs.toList.all (fun f => (P.info? f.type).isSome) = true) (hv : nop t (.build z ps') = .val v) {o : Oper} (ho : o.op = .build ty ps) : ValOk P G w (execOp a.eval o) v := by
  simp only [nop] at hv
  replace hv := ofOpt_val hv
  simp only [Option.map_eq_some_iff] at hv
  obtain ⟨z', hf, rfl⟩ := hv
  unfold zeroT at hz
  split at hz
  · rename_i i hi
    split at hz
    · rename_i zv hzv
      simp only [execOp, ho]
      obtain ⟨vs', h1, h2⟩ := fill_ok (a := a) ps.toList ps' z z' zv.cells ht hp (ofVs_vr hz) hf
      -- the fields' places
      have hplaces : ∃ pl : Array (Nat × Nat), (fs.mapM fun f => do pure (f.offset, ← Go.sizeOf f.type) : Sem (Array (Nat × Nat))).run P w = .ok pl w ∧
          (fun k => pl[k]?) = placeT P fs := by
        have aux : ∀ (l : List Field), l.all (fun f => (P.info? f.type).isSome) = true → ∃ pl : List (Nat × Nat), (l.mapM fun f => (do pure (f.offset, ← Go.sizeOf f.type) : Sem (Nat × Nat))).run P w = .ok pl w ∧
            ∀ k, pl[k]? = placeT P l.toArray k := by
          intro l
          induction l with
          | nil => intro _; exact ⟨[], rfl, fun k => by simp [placeT]⟩
          | cons f l ih =>
            intro hl
            simp only [List.all_cons, Bool.and_eq_true] at hl
            obtain ⟨pl, h3, h4⟩ := ih hl.2
            obtain ⟨j, hj⟩ := Option.isSome_iff_exists.1 hl.1
            refine ⟨(f.offset, j.size) :: pl, ?_, fun k => ?_⟩
            · rw [List.mapM_cons, rb (rb (r_size hj)), rb h3]; rfl
            · cases k with
              | zero => simp [placeT, hj]
              | succ k => have := h4 k; simpa [placeT] using this
        obtain ⟨pl, h3, h4⟩ := aux fs.toList hall
        refine ⟨pl.toArray, ?_, ?_⟩
        · rw [Array.mapM_eq_mapM_toList, Sem.run_map, h3]; rfl
        · funext k; have := h4 k; simpa using this
      obtain ⟨pl, hpl, hple⟩ := hplaces
      refine ⟨.agg vs', r_v ?_, by have : vs' = ⟨vs'.toList⟩ := rfl; rw [this]; exact .agg h2⟩
      unfold Instr.build
      rw [rb (r_zero hi hzv)]
      simp only
      rw [rb (r_under hu)]
      simp only
      rw [rb hpl]
      rw [Array.toList_map, hple, h1]
      rfl
    · cases hz
  · cases hz

theorem val_build_array {ty e : TypeId} {n : Nat} {i : TypeInfo} {ps : Array (Nat × Operand)} {ps' : List (Nat × Nat × Opd)} {z : List NV} {v : NV} (ht : VRs G t a.tmps.toList) (hu : P.underlying ty = some (.array n e)) (hz : zeroT P ty = some z)
    (hi' : P.info? e = some i) (hp : partsT (fun k => some (k * i.size, i.size)) ps.toList = some ps') (hv : nop t (.build z ps') = .val v) {o : Oper} (ho : o.op = .build ty ps) : ValOk P G w (execOp a.eval o) v := by
  simp only [nop] at hv
  replace hv := ofOpt_val hv
  simp only [Option.map_eq_some_iff] at hv
  obtain ⟨z', hf, rfl⟩ := hv
  unfold zeroT at hz
  split at hz
  · rename_i j hi
    split at hz
    · rename_i zv hzv
      simp only [execOp, ho]
      obtain ⟨vs', h1, h2⟩ := fill_ok (a := a) ps.toList ps' z z' zv.cells ht hp (ofVs_vr hz) hf
      refine ⟨.agg vs', r_v ?_, by have : vs' = ⟨vs'.toList⟩ := rfl; rw [this]; exact .agg h2⟩
      unfold Instr.build
      rw [rb (r_zero hi hzv)]
      simp only
      rw [rb (r_under hu)]
      simp only
      rw [rb (r_size hi')]
      rw [Array.toList_map, h1]
      rfl
    · cases hz
  · cases hz

theorem elemT_inv {e : TypeId} {z : List NV} {sz bytes : Nat} (h : elemT P e = some (z, sz, bytes)) : ∃ i v, P.info? e = some i ∧ i.zero = some v ∧ i.size = sz ∧ i.bytes = bytes ∧ z.length = sz ∧ ofZ v = some z := by
  unfold elemT at h
  split at h
  · rename_i i hi
    split at h
    · rename_i v hv
      split at h
      · rename_i z' hz
        split at h
        · rename_i hl
          cases h
          exact ⟨i, v, hi, hv, rfl, rfl, hl, hz⟩
        · cases h
      · cases h
    · cases h
  · cases h

/-- The zero elements of a row. -/
theorem zeros_vr {z : List NV} {v : Value} (hz : ofZ v = some z) (n : Nat) (hn : n ≠ 0 → z.length ≠ 0) : VRs G ((List.range n).map fun j => z.getD (j % z.length) .nilp) ((Array.range n).map (v.cells[· % v.cells.size]!)).toList := by
  have h := ofVs_vr (G := G) hz
  have hl : z.length = v.cells.size := by simpa using h.length
  rw [Array.toList_map, Array.toList_range]
  refine VRs.map _ fun j hj => ?_
  simp only [List.mem_range] at hj
  have hz0 := hn (by omega)
  have hlt : j % z.length < z.length := Nat.mod_lt _ (by omega)
  obtain ⟨u, h1, h2⟩ := h.get (j % z.length) z[j % z.length] (List.getElem?_eq_getElem hlt)
  rw [List.getD_eq_getElem?_getD, List.getElem?_eq_getElem hlt]
  rw [← hl]
  have : v.cells[j % z.length]! = u := by
    rw [getElem!_def]
    have : v.cells[j % z.length]? = some u := by simpa using h1
    rw [this]
  rw [this]
  exact h2

theorem partsS_T (sz : Nat) : ∀ {l : List (Nat × Operand)} {ps' : List (Nat × Opd)}, partsS l = some ps' → partsT (fun k => some (k * sz, sz)) l = some (ps'.map fun (k, x) => (k * sz, sz, x))
  | [], ps', hp => by simp only [partsS] at hp; cases hp; rfl
  | (k, y) :: l, ps', hp => by
    simp only [partsS] at hp
    split at hp
    · rename_i q r h1 h2
      cases hp
      simp only [partsT, h1, partsS_T sz h2, List.map_cons]
    · cases hp

theorem al_bslice {ty e : TypeId} {len : Nat} {ps : Array (Nat × Operand)} {ps' : List (Nat × Opd)} {z : List NV} {sz bytes : Nat} {ob : Obj} {mk : Nat → NV} (ht : VRs G t a.tmps.toList) (hu : P.underlying ty = some (.slice e))
    (he : elemT P e = some (z, sz, bytes)) (hp : partsS ps.toList = some ps') (hle : len * sz ≤ 2 ^ 24) (hv : nop t (.bslice z sz len ps') = .al ob mk) {o : Oper} (ho : o.op = .buildSlice ty len ps) : AlOk P G w (execOp a.eval o) ob mk := by
  obtain ⟨i, v, hi, hzv, hs, hb, hl, hz⟩ := elemT_inv he
  simp only [nop] at hv
  split at hv
  · rename_i c hc
    split at hv
    · simp only [NR.al.injEq] at hv
      obtain ⟨rfl, rfl⟩ := hv
      simp only [execOp, ho]
      have hp' := partsS_T sz hp
      have hz0 : VRs G ((List.range (len * sz)).map fun j => z.getD (j % sz) .nilp) ((Array.range (len * sz)).map (v.cells[· % v.cells.size]!)).toList := by
        rw [← hl]; exact zeros_vr hz _ (fun hne h0 => hne (by rw [h0]; simp))
      have hmap : (ps'.map fun (k, x) => (k * sz, sz, getO t x)) = (ps'.map fun (k, x) => (k * sz, sz, x)).map fun (o, s, x) => (o, s, getO t x) := by
        rw [List.map_map]; rfl
      rw [hmap] at hc
      obtain ⟨vs', h1, h2⟩ := fill_ok (a := a) ps.toList _ _ c _ ht hp' hz0 hc
      have hlen : c.length = len * sz := by
        have : ∀ (ps : List (Nat × Nat × NV)) (z z' : List NV), fillN z ps = some z' → z'.length = z.length := by
          intro ps
          induction ps with
          | nil => intro z z' h; simp only [fillN] at h; cases h; rfl
          | cons q ps ih =>
            intro z z' h
            obtain ⟨o, s, x⟩ := q
            simp only [fillN] at h
            split at h
            · rename_i hc
              rw [ih _ _ h]
              simp; omega
            · cases h
        rw [this _ _ _ hc]; simp
      refine ⟨.cells vs' e, .slice (some ⟨w.heap.size, 0, none⟩) len len, r_v ?_, fun G' id hG hl' => ⟨?_, ORel.new_cells h2 hG hl'⟩⟩
      · unfold Instr.buildSlice
        rw [rb (r_under hu)]
        simp only
        rw [rb (r_size hi), hs]
        rw [if_neg (by omega)]
        have hfill : ∀ zero : Array Value, (len * sz ≠ 0 → zero = v.cells) → Instr.fill (fun i => some (i * sz, sz)) ((Array.range (len * sz)).map (zero[· % zero.size]!)) (ps.map fun (i, x) => (i, a.eval x)).toList = some vs' := by
          intro zero hzero
          rw [Array.toList_map]
          by_cases h0 : len * sz = 0
          · have e0 : ∀ z : Array Value, (Array.range 0).map (z[· % z.size]!) = #[] := fun _ => by simp
            rw [h0, e0] at h1 ⊢
            exact h1
          · rw [hzero h0]; exact h1
        by_cases h0 : len * sz = 0
        · rw [if_pos h0, rb (r_pure _), hfill _ (fun h => absurd h0 h)]; rfl
        · rw [if_neg h0, rb (r_zero hi hzv), rb (r_pure _), hfill _ (fun _ => rfl)]; rfl
      · exact .sl hl' (fun _ => rfl) (fun _ => by simp only [osize, hlen]; omega) (Nat.le_refl _) (Nat.le_refl _) (fun _ => rfl)
    · cases hv
  · cases hv

theorem al_mkmap {ty : TypeId} {ob : Obj} {mk : Nat → NV} (hv : nop t .mkmap = .al ob mk) {o : Oper} (ho : o.op = .makeMap ty none) : AlOk P G w (execOp a.eval o) ob mk := by
  simp only [nop, NR.al.injEq] at hv
  obtain ⟨rfl, rfl⟩ := hv
  simp only [execOp, ho]
  exact ⟨.map #[] 0, .map (some w.heap.size), rfl, fun G' id hG hl => ⟨.mp hl, ⟨w.heap.size, _, _, #[], hl, pushW_get, .nil, .nil, rfl⟩⟩⟩

theorem wrap_small {n : Int} (h0 : 0 ≤ n) (h : n ≤ 2 ^ 40) : IntKind.i64.wrap n = n := by
  unfold IntKind.wrap; simp [IntKind.bits, IntKind.signed]; omega

theorem al_mksl {ty e : TypeId} {l c : Operand} {l' c' : Opd} {z : List NV} {sz bytes : Nat} {ob : Obj} {mk : Nat → NV} (ht : VRs G t a.tmps.toList) (hu : P.underlying ty = some (.slice e))
    (he : elemT P e = some (z, sz, bytes)) (hl' : oO l = some l') (hc' : oO c = some c') (hv : nop t (.mksl z sz bytes l' c') = .al ob mk) {o : Oper} (ho : o.op = .makeSlice ty l c) : AlOk P G w (execOp a.eval o) ob mk := by
  obtain ⟨i, v, hi, hzv, hs, hb, hl, hz⟩ := elemT_inv he
  have h1 := oO_vr ht hl'
  have h2 := oO_vr ht hc'
  simp only [nop] at hv
  split at hv
  · rename_i k1 n k2 m hn hm
    split at hv
    · rename_i hc
      obtain ⟨c1, c2, c3, c4⟩ := hc
      simp only [NR.al.injEq] at hv
      obtain ⟨rfl, rfl⟩ := hv
      simp only [execOp, ho]
      rw [hn] at h1; rw [hm] at h2
      generalize a.eval l = p at h1 ⊢
      generalize a.eval c = q at h2 ⊢
      cases h1; cases h2
      have hz0 : VRs G ((List.range (m.toNat * sz)).map fun j => z.getD (j % sz) .nilp) ((Array.range (m.toNat * sz)).map (v.cells[· % v.cells.size]!)).toList := by
        rw [← hl]; exact zeros_vr hz _ (fun hne h0 => hne (by rw [h0]; simp))
      refine ⟨.cells ((Array.range (m.toNat * sz)).map (v.cells[· % v.cells.size]!)) e, .slice (some ⟨w.heap.size, 0, none⟩) n.toNat m.toNat, r_v ?_, fun G' id hG hll => ⟨?_, ORel.new_cells hz0 hG hll⟩⟩
      · unfold Instr.makeSlice
        rw [rb (r_under hu)]
        simp only
        rw [rb (rfl : (asInt (.int k1 n)).run P w = .ok n w), rb (rfl : (asInt (.int k2 m)).run P w = .ok m w), rb (r_info hi)]
        simp only [wrap_small c1 (by omega), wrap_small (by omega : 0 ≤ m) c3]
        have hbb : (i.bytes : Int) * m ≤ 2 ^ 48 := by
          rw [hb]
          calc (bytes : Int) * m ≤ 256 * m := Int.mul_le_mul_of_nonneg_right (by omega) (by omega)
            _ ≤ 2 ^ 48 := by omega
        rw [if_neg (by simp; omega)]
        have hask : (askRoom (m.toNat * i.bytes)).run P w = .ok () w := by unfold askRoom; split <;> rfl
        rw [rb hask, rb (r_size hi), hs]
        have hcells : ∀ zero : Array Value, (m.toNat * sz ≠ 0 → zero = v.cells) → (Array.range (m.toNat * sz)).map (zero[· % zero.size]!) = (Array.range (m.toNat * sz)).map (v.cells[· % v.cells.size]!) := by
          intro zero hzero
          by_cases h0 : m.toNat * sz = 0
          · rw [h0]; simp
          · rw [hzero h0]
        by_cases h0 : m.toNat * sz = 0
        · rw [if_pos h0, rb (r_pure _), hcells _ (fun h => absurd h0 h)]; rfl
        · rw [if_neg h0, rb (r_zero hi hzv), rb (r_pure _), hcells _ (fun _ => rfl)]; rfl
      · exact .sl hll (fun _ => rfl) (fun _ => by simp only [osize, List.length_map, List.length_range]; omega) (by omega) (Nat.le_refl _) (fun _ => rfl)
    · cases hv
  · cases hv

end
end Go.NL
