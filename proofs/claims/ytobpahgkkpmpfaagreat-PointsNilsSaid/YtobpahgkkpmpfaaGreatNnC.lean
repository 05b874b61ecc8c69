/-
  The evaluator is sound: the operations.
-/
import Derived.Test.YtobpahgkkpmpfaaGreatNnB
namespace Go.NL

noncomputable def E.abs (e : E) : St := ⟨e.tl, e.m.get, e.n⟩
def E.ok (e : E) : Prop := ∀ i, e.len ≤ i → e.t.get i = none

def orU : Option NV → NV
  | some v => v
  | none => .und

theorem tlF_get (t : T NV) : ∀ (m k i : Nat), (tlF t k m)[i]? = if i < m then some (orU (t.get (k + i))) else none
  | 0, k, i => by simp [tlF]
  | m + 1, k, i => by
    cases i with
    | zero => simp only [tlF, Nat.add_zero, List.getElem?_cons_zero, Nat.zero_lt_succ, if_true]; rfl
    | succ i =>
      simp only [tlF, List.getElem?_cons_succ, tlF_get t m (k + 1) i, show k + 1 + i = k + (i + 1) from by omega, Nat.succ_lt_succ_iff]

theorem E.tl_get (e : E) (i : Nat) : e.tl[i]? = if i < e.len then some (orU (e.t.get i)) else none := by
  unfold E.tl; rw [tlF_get, Nat.zero_add]

theorem E.getO_tl {e : E} (h : e.ok) (x : Opd) : getO e.tl x = e.g x := by
  cases x with
  | c v => rfl
  | t i =>
    simp only [getO, E.g]
    rw [List.getD_eq_getElem?_getD, e.tl_get]
    split
    · cases e.t.get i <;> rfl
    · rename_i hi
      rw [h i (by omega)]; rfl

theorem set_get {α : Type} (m : T α) (k : Nat) (o : Option α) : (m.set k o).get = fun j => if j = k then o else m.get j := by
  funext j; exact T.get_set m k o j

theorem set_upd (m : T Obj) (k : Nat) (o : Option Obj) : (m.set k o).get = upd m.get k o := set_get m k o

theorem E.put_ok {e : E} (h : e.ok) (d : Option Nat) (v : NV) : (e.put d v).abs = e.abs.put d v ∧ (e.put d v).ok ∧ (e.put d v).len = e.len := by
  cases d with
  | none => exact ⟨rfl, h, rfl⟩
  | some d =>
    simp only [E.put]
    split
    · rename_i hb
      have hd : d < e.len := by simpa [Nat.blt_eq] using hb
      refine ⟨?_, fun i hi => ?_, rfl⟩
      · simp only [E.abs, St.put, St.mk.injEq, and_true]
        apply List.ext_getElem?
        intro i
        rw [E.tl_get, List.getElem?_set, E.tl_get]
        simp only [T.get_set]
        have hl : e.tl.length = e.len := by
          have h1 := e.tl_get e.len
          have h2 := e.tl_get (e.len - 1)
          rw [if_neg (by omega), List.getElem?_eq_none_iff] at h1
          rw [if_pos (by omega)] at h2
          have := (List.getElem?_eq_some_iff.1 h2).1
          omega
        by_cases e1 : d = i
        · subst e1; simp [hd, hl, orU]
        · rw [if_neg e1, if_neg (Ne.symm e1)]
      · simp only at hi ⊢
        rw [T.get_set, if_neg (by omega)]; exact h i hi
    · rename_i hb
      have hd : ¬ d < e.len := by
        intro hd
        have : Nat.blt d e.len = true := by simpa [Nat.blt_eq] using hd
        rw [this] at hb; cases hb
      refine ⟨?_, h, rfl⟩
      simp only [E.abs, St.put, St.mk.injEq, and_true]
      symm
      rw [List.set_eq_of_length_le]
      have h1 := e.tl_get d
      rw [if_neg hd, List.getElem?_eq_none_iff] at h1
      exact h1

theorem E.mem_ok {e : E} (h : e.ok) (m : T Obj) : (e.mem m).abs = e.abs.mem m.get ∧ (e.mem m).ok ∧ (e.mem m).len = e.len := ⟨rfl, h, rfl⟩

theorem wantedE_eq {e : E} (h : e.ok) (g : Option (Nat × Bool)) : wantedE e g = wantedN e.tl g := by
  cases g with
  | none => rfl
  | some g =>
    obtain ⟨d, want⟩ := g
    simp only [wantedE, wantedN]
    rw [e.tl_get]
    by_cases hd : d < e.len
    · rw [if_pos hd]
      cases hx : e.t.get d with
      | none => rfl
      | some x =>
        simp only [orU]
        cases x <;> first | rfl | (rename_i b; cases b <;> cases want <;> rfl)
    · rw [if_neg hd, h d (by omega)]

theorem srcT_eq (m : T Obj) (sz : Nat) (x : NV) : srcT m sz x = srcN m.get sz x := by cases x <;> rfl

theorem appT_ok {m m' : T Obj} {id sz : Nat} {s x v : NV} (h : appT m id sz s x = some (v, m')) : appN m.get id sz s x = some (v, m'.get) := by
  unfold appT at h
  unfold appN
  rw [← srcT_eq]
  split at h
  · cases h
  · rename_i n new hs
    rw [hs]
    simp only
    split at h
    · rename_i hn
      rw [if_pos hn]
      split at h <;> first | (cases h; rfl) | cases h
    · rename_i hn
      rw [if_neg hn]
      split at h
      · cases h
      · rename_i hp
        rw [if_neg hp]
        split at h
        · split at h
          · rename_i hle; cases h; dsimp only; rw [if_pos hle, set_upd]
          · cases h
        · split at h
          · cases h
          · rename_i hz
            dsimp only
            rw [if_neg hz]
            split at h
            · rename_i hle
              rw [if_pos hle]
              split at h
              · rename_i c hc
                rw [hc]
                simp only
                split at h
                · rename_i hle2; cases h; rw [if_pos hle2, set_upd]
                · cases h
              · cases h
            · rename_i hle
              rw [if_neg hle]
              split at h
              · rename_i c hc
                rw [hc]
                simp only
                split at h
                · rename_i hle2
                  cases h
                  rw [if_pos hle2, set_upd]
                  split <;> simp only [set_upd]
                · cases h
              · cases h
        · cases h

mutual
theorem nvEq_ok : ∀ {x y : NV}, nvEq x y = true → x = y
  | .b _, y, h => by cases y <;> simp [nvEq] at h ⊢; exact h
  | .i _ _, y, h => by cases y <;> simp [nvEq] at h ⊢; exact h
  | .s _, y, h => by cases y <;> simp [nvEq] at h ⊢; exact h
  | .nilp, y, h => by cases y <;> simp [nvEq] at h ⊢
  | .nils, y, h => by cases y <;> simp [nvEq] at h ⊢
  | .nilm, y, h => by cases y <;> simp [nvEq] at h ⊢
  | .nilf, y, h => by cases y <;> simp [nvEq] at h ⊢
  | .nili, y, h => by cases y <;> simp [nvEq] at h ⊢
  | .ptr _ _, y, h => by cases y <;> simp [nvEq] at h ⊢; exact h
  | .sl .., y, h => by
    cases y <;> simp [nvEq] at h ⊢
    obtain ⟨⟨⟨⟨⟨h1, h2⟩, h3⟩, h4⟩, h5⟩, h6⟩ := h
    exact ⟨h1, h2, h3, h4, h5, h6⟩
  | .mp _, y, h => by cases y <;> simp [nvEq] at h ⊢; exact h
  | .fn f a c, y, h => by
    cases y <;> simp [nvEq] at h ⊢
    obtain ⟨⟨h1, h2⟩, h3⟩ := h
    exact ⟨h1, nvsEq_ok h2, nvsEq_ok h3⟩
  | .yl _, y, h => by cases y <;> simp [nvEq] at h ⊢; exact h
  | .agg a, y, h => by cases y <;> simp [nvEq] at h ⊢; exact nvsEq_ok h
  | .tup a, y, h => by cases y <;> simp [nvEq] at h ⊢; exact nvsEq_ok h
  | .rs z r o l, y, h => by
    cases y <;> simp [nvEq] at h ⊢
    obtain ⟨⟨⟨h1, h2⟩, h3⟩, h4⟩ := h
    exact ⟨h1, nvssEq_ok h2, h3, h4⟩
  | .rp r e o, y, h => by
    cases y <;> simp [nvEq] at h ⊢
    obtain ⟨⟨h1, h2⟩, h3⟩ := h
    exact ⟨nvssEq_ok h1, h2, h3⟩
theorem nvsEq_ok : ∀ {x y : List NV}, nvsEq x y = true → x = y
  | [], y, h => by cases y <;> simp [nvsEq] at h ⊢
  | x :: xs, y, h => by
    cases y <;> simp [nvsEq] at h ⊢
    exact ⟨nvEq_ok h.1, nvsEq_ok h.2⟩
theorem nvssEq_ok : ∀ {x y : List (List NV)}, nvssEq x y = true → x = y
  | [], y, h => by cases y <;> simp [nvssEq] at h ⊢
  | x :: xs, y, h => by
    cases y <;> simp [nvssEq] at h ⊢
    exact ⟨nvsEq_ok h.1, nvssEq_ok h.2⟩
end

end Go.NL
