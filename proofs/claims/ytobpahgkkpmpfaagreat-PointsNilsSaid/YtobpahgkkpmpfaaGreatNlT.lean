/-
  Each operation of the machine does what its reading says: those that look at memory, make it, write it.
-/
import Derived.Test.YtobpahgkkpmpfaaGreatNlS
namespace Go.NL

section
variable {P : Program} {w w' : World} {G : Gh} {t : List NV} {a : Act}

theorem ORel.cell {id : Nat} {c : List NV} (h : ORel P G w id (.cells c)) : ∃ b sh bs C e, G.loc id = some (b, sh, bs) ∧ w.heap[b]? = some (.cells C e (0, 0)) ∧ C.size = bs ∧ sh + c.length ≤ bs ∧
    ∀ off sz, off + sz ≤ c.length → VRs G ((c.drop off).take sz) ((C.toList.drop (sh + off)).take sz) := by
  obtain ⟨b, sh, bs, C, e, h1, h2, h3, h4, h5⟩ := h
  refine ⟨b, sh, bs, C, e, h1, h2, h3, h4, fun off sz hle => ?_⟩
  have := (h5.drop off).take sz
  rw [List.drop_take, List.take_take, List.drop_drop, Nat.min_eq_left (by omega)] at this
  exact this

theorem rd_load {ty : TypeId} {i : TypeInfo} {g : Bool} {x : Operand} {x' : Opd} {v : NV} {id : Nat} {gg : Obj → Option NV} {ob : Obj} (ht : VRs G t a.tmps.toList) (hag : isAggT P ty = some g) (hi : P.info? ty = some i) (hg : g = true ∨ i.size = 1)
    (hx : oO x = some x') (hv : nop t (.load g i.size x') = .rd id gg) (hob : ORel P G w id ob) (hgo : gg ob = some v) {o : Oper} (ho : o.op = .load ty x) : ValOk P G w (execOp a.eval o) v := by
  have h1 := oO_vr ht hx
  simp only [nop] at hv
  simp only [execOp, ho]
  generalize a.eval x = p at h1 ⊢
  split at hv
  · rename_i id' off hb
    rw [hb] at h1
    cases hv
    unfold loadN at hgo
    split at hgo
    · rename_i c
      obtain ⟨b, sh, bs, C, e, l1, l2, l3, l4, l5⟩ := hob.cell
      cases h1 with
      | ptr hl =>
        rw [l1] at hl; cases hl
        have hsa : (Instr.sureAddr (.pointer (some ⟨b, sh + off, none⟩))).run P w = .ok ⟨b, sh + off, none⟩ w := rfl
        unfold partN at hgo
        cases g with
        | true =>
          simp only [if_true] at hgo
          split at hgo
          · rename_i hle
            cases hgo
            have hrun := run_loadCells (P := P) (w := w) b (sh + off) ((C.toList.drop (sh + off)).take i.size) (fun j v hj => by
              rw [cell_of_block l2]
              rw [List.getElem?_take] at hj
              split at hj
              · rw [List.getElem?_drop] at hj; simpa using hj
              · cases hj)
            have hlen : ((C.toList.drop (sh + off)).take i.size).length = i.size := by simp; omega
            rw [hlen] at hrun
            refine ⟨_, r_v ?_, .agg (l5 off i.size hle)⟩
            unfold Instr.loadAt
            rw [rb hsa]
            unfold loadVar
            rw [rb (r_isAgg hag)]
            simp only [if_true]
            rw [rb (r_size hi), rb hrun]
            rfl
          · cases hgo
        | false =>
          simp only [Bool.false_eq_true, if_false] at hgo
          have hlt : off < c.length := (List.getElem?_eq_some_iff.1 hgo).1
          obtain ⟨u, h5, h6⟩ := (l5 off 1 (by omega)).get 0 v (by rw [List.getElem?_take_of_lt (by omega), List.getElem?_drop]; simpa using hgo)
          rw [List.getElem?_take_of_lt (by omega), List.getElem?_drop] at h5
          refine ⟨u, r_v ?_, h6⟩
          unfold Instr.loadAt
          rw [rb hsa]
          unfold loadVar
          rw [rb (r_isAgg hag)]
          simp only [Bool.false_eq_true, if_false]
          unfold load
          have : w.cell? ⟨b, sh + off, none⟩ = some u := by rw [cell_of_block l2]; simpa using h5
          simp only [Sem.run, this]
    · cases hgo
  · rename_i rows e off hb
    cases hro : rsCell g off i.size rows e <;> simp [hro, ofOpt] at hv
  · cases hv

theorem run_getMap {b : Nat} {E : Array MapEntry} {clk : Nat} (h : w.heap[b]? = some (.map E clk)) : (getObj b).run P w = .ok (.map E clk) w := by
  unfold getObj; simp only [Sem.run, h]

theorem run_setMap {b : Nat} {o o' : Go.Obj} (h : w.heap[b]? = some o) (hn : ∀ c e f, o ≠ .cells c e f) : (setObj b o').run P w = .ok () (putW w b o') := by
  unfold setObj
  cases o <;> first | exact absurd rfl (hn _ _ _) | (simp only [Sem.run, h]; rfl)

/-- What a lookup yields. -/
def lookRes (z : NV) (ok : Bool) : Option (Nat × NV) → NV
  | some (_, v) => if ok then .tup [v, .b true] else v
  | none => if ok then .tup [z, .b false] else z

/-- The run of a lookup. -/
theorem look_run {ty kt et : TypeId} {i : TypeInfo} {zv : Value} {z k : NV} {p : Value} {sh : EqS} {l : List (Nat × NV × NV)} {E : Array MapEntry} {m : Value} {r : Option (Nat × NV)} {ok : Bool}
    (hu : P.underlying ty = some (.map kt et)) (hs : eqShape P kt = some sh) (hi : P.info? et = some i) (hz : i.zero = some zv) (hzv : VR G z zv) (hk : VR G k p)
    (hm : (m = .map none ∧ E = #[]) ∨ ∃ b clk, m = .map (some b) ∧ w.heap[b]? = some (.map E clk))
    (hE : ERel G l E.toList) (hf : findN sh k l = some r) :
    ∃ u, (Instr.lookup ty m p ok).run P w = .ok u w ∧ VR G (lookRes z ok r) u := by
  have hc : (Instr.checkKey E.isEmpty 10000 kt p).run P w = .ok () w := by
    obtain ⟨y, b, hb⟩ := findN_key hf
    exact checkKey_ok hs (.inl hb) hk
  have fin : ∀ (v : Value) (b : Bool), (do
      let (v, ok') ← match ← Instr.findKey kt p E.toList with
        | some (_, v) => pure (v, true)
        | none => pure (← zeroValue et, false)
      pure (if ok then .tuple #[v, .bool ok'] else v) : Sem Value).run P w = .ok (if ok then .tuple #[v, .bool b] else v) w →
      (Instr.lookup ty m p ok).run P w = .ok (if ok then .tuple #[v, .bool b] else v) w := by
    intro v b h
    unfold Instr.lookup
    rw [rb (r_under hu)]
    simp only
    rcases hm with ⟨rfl, rfl⟩ | ⟨b, clk, rfl, hb⟩
    · rw [rb (r_pure _), rb hc]; exact h
    · rw [rb (run_getMap hb)]; simp only; rw [rb (r_pure _), rb hc]; exact h
  rcases findN_idx hf with ⟨rfl, hidx⟩ | ⟨j, s, k', v, rfl, hidx, hj, _⟩
  · have hfk := findKey_ok (P := P) (w := w) hs hk hE hidx
    refine ⟨_, fin zv false ?_, ?_⟩
    · rw [rb hfk]
      simp only [hit]
      rw [rb (r_zero hi hz)]
      rfl
    · cases ok
      · exact hzv
      · exact .tup (.cons hzv (.cons (.b _) .nil))
  · have hfk := findKey_ok (P := P) (w := w) hs hk hE hidx
    obtain ⟨h1, h2, h3⟩ := hE.to
    obtain ⟨e, he, hv⟩ : ∃ e, E.toList[j]? = some e ∧ VR G v e.val := by
      obtain ⟨u, hu1, hu2⟩ := h2.get j v (by simp [hj])
      simp only [List.getElem?_map, Option.map_eq_some_iff] at hu1
      obtain ⟨e, he, rfl⟩ := hu1
      exact ⟨e, he, hu2⟩
    refine ⟨_, fin e.val true ?_, ?_⟩
    · rw [rb hfk]
      simp only [hit, he, Option.map_some]
      rfl
    · cases ok
      · exact hv
      · exact .tup (.cons hv (.cons (.b _) .nil))

end
end Go.NL
