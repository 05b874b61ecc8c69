/-
  Functions and rounds.
-/
import Derived.Test.YtobpahgkkpmpfaaGreatNmF
namespace Go.NL

def resN (s : St) : List NRes → Option (List NV)
  | [] => some []
  | .t k :: l => match resN s l with
    | some r => some (s.t.getD k .und :: r)
    | none => none
  | .c k agg sz :: l => match s.t.getD k .und, resN s l with
    | .ptr id off, some r => match s.m id with
      | some ob => match loadN agg off sz ob with
        | some v => some (v :: r)
        | none => none
      | none => none
    | _, _ => none

def packN : List NV → NV
  | [v] => v
  | l => .tup l

section
variable {P : Program} {C : CR} {G G' : Gh} {M M' : Mem} {w w' : World} {s : St}

theorem loadVar_ok {a : Act} {ty : TypeId} {i : TypeInfo} {g : Bool} {k id off : Nat} {ob : Obj} {v : NV} (hM : MRel P G s.m w) (ht : VRs G s.t a.tmps.toList) (hag : isAggT P ty = some g) (hi : P.info? ty = some i) (hg : g = true ∨ i.size = 1)
    (hk : s.t.getD k .und = .ptr id off) (hm : s.m id = some ob) (hl : loadN g off i.size ob = some v) :
    ∃ u, (do loadVar ty (← asAddr (a.tmps.getD k undef)) : Sem Value).run P w = .ok u w ∧ VR G v u := by
  let o : Oper := { (default : Oper) with op := .load ty (.tmp k) }
  have h := rd_load (o := o) (t := s.t) (x' := .t k) (gg := loadN g off i.size) (id := id) ht hag hi hg rfl (by simp only [nop, getO, hk]) (hM.obj id ob hm) hl rfl
  obtain ⟨u, h1, h2⟩ := h
  refine ⟨u, ?_, h2⟩
  have hv : VR G (.ptr id off) (a.tmps.toList.getD k undef) := by rw [← hk]; exact ht.getD k
  have he : a.tmps.getD k undef = a.tmps.toList.getD k undef := by
    rw [Array.getD_eq_getD_getElem?, List.getD_eq_getElem?_getD]; simp
  rw [he]
  have he2 : a.eval (.tmp k) = a.tmps.toList.getD k undef := he ▸ rfl
  have h1' : (execOp a.eval o).run P w = (do let v ← Instr.loadAt ty (a.eval (.tmp k)); pure (Next.value v) : Sem Next).run P w := rfl
  rw [h1', he2] at h1
  generalize a.tmps.toList.getD k undef = p at hv h1 ⊢
  cases hv with
  | ptr hloc =>
    rename_i b sh bs
    have ha : (asAddr (.pointer (some ⟨b, sh + off, none⟩))).run P w = .ok ⟨b, sh + off, none⟩ w := rfl
    rw [rb ha]
    have hs : (Instr.loadAt ty (.pointer (some ⟨b, sh + off, none⟩))).run P w = (loadVar ty ⟨b, sh + off, none⟩).run P w := rb rfl
    rw [Sem.run_bind, hs] at h1
    cases hr : (loadVar ty ⟨b, sh + off, none⟩).run P w with
    | ok x w' => rw [hr] at h1; simp only [Result.andThen, Sem.run_pure, Result.ok.injEq, Next.value.injEq] at h1; rw [h1.1, h1.2]
    | halt x w' => rw [hr] at h1; cases h1

theorem results_ok {a : Act} (hM : MRel P G s.m w) (ht : VRs G s.t a.tmps.toList) : ∀ {rv : List ResultVar} {nr : List NRes} {vs : List NV}, prepRes P rv = some nr → resN s nr = some vs →
    ∃ us, (rv.mapM (fun | .tmp t => pure (a.tmps.getD t undef) | .cell ad t => do loadVar t (← asAddr (a.tmps.getD ad undef)) : ResultVar → Sem Value)).run P w = .ok us w ∧ VRs G vs us
  | [], nr, vs, hp, hr => by
    simp only [prepRes] at hp; cases hp
    simp only [resN] at hr; cases hr
    exact ⟨[], rfl, .nil⟩
  | .tmp t :: l, nr, vs, hp, hr => by
    simp only [prepRes, Option.map_eq_some_iff] at hp
    obtain ⟨r, hp, rfl⟩ := hp
    simp only [resN] at hr
    split at hr
    · rename_i r' hr'
      cases hr
      obtain ⟨us, h1, h2⟩ := results_ok hM ht hp hr'
      refine ⟨a.tmps.toList.getD t undef :: us, ?_, .cons (ht.getD t) h2⟩
      rw [List.mapM_cons, rb (r_pure _), rb h1]
      have he : a.tmps.getD t undef = a.tmps.toList.getD t undef := by
        rw [Array.getD_eq_getD_getElem?, List.getD_eq_getElem?_getD]; simp
      rw [he]; rfl
    · cases hr
  | .cell ad t :: l, nr, vs, hp, hr => by
    simp only [prepRes] at hp
    split at hp
    · rename_i g i r hag hi hpr
      split at hp
      · rename_i hg
        cases hp
        simp only [resN] at hr
        split at hr
        · rename_i id off r' hk hr'
          split at hr
          · rename_i ob hm
            split at hr
            · rename_i v hv
              cases hr
              obtain ⟨u, h3, h4⟩ := loadVar_ok hM ht hag hi hg hk hm hv
              obtain ⟨us, h1, h2⟩ := results_ok hM ht hpr hr'
              refine ⟨u :: us, ?_, .cons h4 h2⟩
              rw [List.mapM_cons, rb h3, rb h1]; rfl
            · cases hr
          · cases hr
        · cases hr
      · cases hp
    · cases hp

end
end Go.NL
