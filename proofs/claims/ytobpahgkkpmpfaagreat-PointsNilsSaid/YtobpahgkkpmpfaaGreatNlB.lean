/-
  How values and memories of N stand to the machine's.
-/
import Derived.Test.YtobpahgkkpmpfaaGreatNlP
namespace Go.NL

structure Gh where
  loc : Nat → Option (Nat × Nat × Nat)
  im : Nat → Nat → Option Value

mutual
inductive VR (G : Gh) : NV → Value → Prop
  | b (x : Bool) : VR G (.b x) (.bool x)
  | i (k : IntKind) (n : Int) : VR G (.i k n) (.int k n)
  | s (l : List UInt8) : VR G (.s l) (.string ⟨⟨l⟩⟩)
  | nilp : VR G .nilp (.pointer none)
  | nils : VR G .nils (.slice none 0 0)
  | nilm : VR G .nilm (.map none)
  | nilf : VR G .nilf .nilFunc
  | nili : VR G .nili .nilIface
  | ptr {id off b sh bs : Nat} (h : G.loc id = some (b, sh, bs)) : VR G (.ptr id off) (.pointer (some ⟨b, sh + off, none⟩))
  | sl {id off len cap sz b sh bs c : Nat} {ex : Bool} {a : Addr} (h : G.loc id = some (b, sh, bs)) (ha : c ≠ 0 → a = ⟨b, sh + off, none⟩) (hs : c ≠ 0 → sh + off + c * sz ≤ bs)
      (h1 : len ≤ cap) (h2 : cap ≤ c) (h3 : ex = true → c = cap) : VR G (.sl id off len ex cap sz) (.slice (some a) len c)
  | mp {id b x y : Nat} (h : G.loc id = some (b, x, y)) : VR G (.mp id) (.map (some b))
  | fn {f : FuncId} {p c : List NV} {p' c' : List Value} (h : VRs G p p') (h' : VRs G c c') : VR G (.fn f p c) (.func (.func f) ⟨p'⟩ ⟨c'⟩)
  | yl {id b x y : Nat} (h : G.loc id = some (b, x, y)) : VR G (.yl id) (.func (.yield b) #[] #[])
  | agg {cs : List NV} {vs : List Value} (h : VRs G cs vs) : VR G (.agg cs) (.agg ⟨vs⟩)
  | tup {cs : List NV} {vs : List Value} (h : VRs G cs vs) : VR G (.tup cs) (.tuple ⟨vs⟩)
  | rs {sz off len c : Nat} {rows : List (List NV)} {rv : List (List Value)} {a : Addr} (h : VRss G rows rv) (hs : ∀ row ∈ rows, row.length = sz) (hb : off + len ≤ rows.length)
      (ha : a.spot = none) (hi : ∀ e row j v, off ≤ e → e < off + len → rv[e]? = some row → row[j]? = some v → G.im a.block (a.off + (e - off) * sz + j) = some v) (hc : len ≤ c) :
      VR G (.rs sz rows off len) (.slice (some a) len c)
  | rsn {sz off : Nat} : VR G (.rs sz [] off 0) (.slice none 0 0)
  | rp {rows : List (List NV)} {e off blk o : Nat} {rv : List (List Value)} {row : List Value} (h : VRss G rows rv) (hr : rv[e]? = some row)
      (hi : ∀ j v, row[j]? = some v → G.im blk (o + j) = some v) : VR G (.rp rows e off) (.pointer (some ⟨blk, o + off, none⟩))
inductive VRs (G : Gh) : List NV → List Value → Prop
  | nil : VRs G [] []
  | cons {x : NV} {y : Value} {xs : List NV} {ys : List Value} (h : VR G x y) (t : VRs G xs ys) : VRs G (x :: xs) (y :: ys)
inductive VRss (G : Gh) : List (List NV) → List (List Value) → Prop
  | nil : VRss G [] []
  | cons {x : List NV} {y : List Value} {xs : List (List NV)} {ys : List (List Value)} (h : VRs G x y) (t : VRss G xs ys) : VRss G (x :: xs) (y :: ys)
end

/-- What G' keeps of G. -/
structure Gh.le (G G' : Gh) : Prop where
  loc : ∀ id x, G.loc id = some x → G'.loc id = some x
  im : ∀ b o v, G.im b o = some v → G'.im b o = some v

theorem Gh.le_refl (G : Gh) : G.le G := ⟨fun _ _ h => h, fun _ _ _ h => h⟩
theorem Gh.le_trans {A B C : Gh} (h : A.le B) (h' : B.le C) : A.le C := ⟨fun i x e => h'.loc i x (h.loc i x e), fun b o v e => h'.im b o v (h.im b o v e)⟩

mutual
theorem VR.mono {G G' : Gh} (hG : G.le G') : ∀ {x : NV} {y : Value}, VR G x y → VR G' x y
  | _, _, .b x => .b x
  | _, _, .i k n => .i k n
  | _, _, .s l => .s l
  | _, _, .nilp => .nilp
  | _, _, .nils => .nils
  | _, _, .nilm => .nilm
  | _, _, .nilf => .nilf
  | _, _, .nili => .nili
  | _, _, .ptr h => .ptr (hG.loc _ _ h)
  | _, _, .sl h ha hs h1 h2 h3 => .sl (hG.loc _ _ h) ha hs h1 h2 h3
  | _, _, .mp h => .mp (hG.loc _ _ h)
  | _, _, .fn h h' => .fn (h.mono hG) (h'.mono hG)
  | _, _, .yl h => .yl (hG.loc _ _ h)
  | _, _, .agg h => .agg (h.mono hG)
  | _, _, .tup h => .tup (h.mono hG)
  | _, _, .rs h hs hb ha hi hc => .rs (h.mono hG) hs hb ha (fun e row j v h1 h2 h3 h4 => hG.im _ _ _ (hi e row j v h1 h2 h3 h4)) hc
  | _, _, .rsn => .rsn
  | _, _, .rp h hr hi => .rp (h.mono hG) hr (fun j v h1 => hG.im _ _ _ (hi j v h1))
theorem VRs.mono {G G' : Gh} (hG : G.le G') : ∀ {x : List NV} {y : List Value}, VRs G x y → VRs G' x y
  | _, _, .nil => .nil
  | _, _, .cons h t => .cons (h.mono hG) (t.mono hG)
theorem VRss.mono {G G' : Gh} (hG : G.le G') : ∀ {x : List (List NV)} {y : List (List Value)}, VRss G x y → VRss G' x y
  | _, _, .nil => .nil
  | _, _, .cons h t => .cons (h.mono hG) (t.mono hG)
end

section
variable {G : Gh}

theorem VRs.length {x : List NV} {y : List Value} (h : VRs G x y) : x.length = y.length := by
  induction x generalizing y with
  | nil => cases h; rfl
  | cons a x ih => cases h with | cons h t => simp [ih t]

theorem VRs.get {x : List NV} {y : List Value} (h : VRs G x y) (j : Nat) : (∀ v, x[j]? = some v → ∃ u, y[j]? = some u ∧ VR G v u) := by
  induction x generalizing y j with
  | nil => intro v hv; simp at hv
  | cons a x ih =>
    cases h with
    | cons h t =>
      intro v hv
      cases j with
      | zero => simp at hv; subst hv; exact ⟨_, by simp, h⟩
      | succ j => simp at hv; obtain ⟨u, h1, h2⟩ := ih t j v hv; exact ⟨u, by simpa using h1, h2⟩

theorem VRs.of_get : ∀ {x : List NV} {y : List Value}, x.length = y.length → (∀ (j : Nat) v u, x[j]? = some v → y[j]? = some u → VR G v u) → VRs G x y
  | [], [], _, _ => .nil
  | a :: x, b :: y, hl, h => .cons (h 0 a b (by simp) (by simp)) (VRs.of_get (by simpa using hl) fun j v u h1 h2 => h (j + 1) v u (by simpa using h1) (by simpa using h2))

theorem VRs.get' {x : List NV} {y : List Value} (h : VRs G x y) (j : Nat) (u : Value) (hu : y[j]? = some u) : ∃ v, x[j]? = some v ∧ VR G v u := by
  have hl := h.length
  have hj : j < x.length := by
    rw [hl]; exact (List.getElem?_eq_some_iff.1 hu).1
  obtain ⟨u', h1, h2⟩ := h.get j x[j] (List.getElem?_eq_getElem hj)
  rw [hu] at h1; cases h1
  exact ⟨_, List.getElem?_eq_getElem hj, h2⟩

theorem VRs.append {x x' : List NV} {y y' : List Value} (h : VRs G x y) (h' : VRs G x' y') : VRs G (x ++ x') (y ++ y') := by
  induction x generalizing y with
  | nil => cases h; exact h'
  | cons a x ih => cases h with | cons h t => exact .cons h (ih t)

theorem VRs.take {x : List NV} {y : List Value} (h : VRs G x y) (n : Nat) : VRs G (x.take n) (y.take n) := by
  induction x generalizing y n with
  | nil => cases h; simp; exact .nil
  | cons a x ih =>
    cases h with
    | cons h t =>
      cases n with
      | zero => simp; exact .nil
      | succ n => simpa using .cons h (ih t n)

theorem VRs.drop {x : List NV} {y : List Value} (h : VRs G x y) (n : Nat) : VRs G (x.drop n) (y.drop n) := by
  induction x generalizing y n with
  | nil => cases h; simp; exact .nil
  | cons a x ih =>
    cases h with
    | cons h t =>
      cases n with
      | zero => simpa using .cons h t
      | succ n => simpa using ih t n

theorem VRs.set {x : List NV} {y : List Value} (h : VRs G x y) (j : Nat) {v : NV} {u : Value} (hv : VR G v u) : VRs G (x.set j v) (y.set j u) := by
  induction x generalizing y j with
  | nil => cases h; simp; exact .nil
  | cons a x ih =>
    cases h with
    | cons h t =>
      cases j with
      | zero => simpa using .cons hv t
      | succ j => simpa using .cons h (ih t j)

theorem VR.und : VR G .und undef := .tup .nil

theorem VRss.get {x : List (List NV)} {y : List (List Value)} (h : VRss G x y) (j : Nat) : (∀ v, x[j]? = some v → ∃ u, y[j]? = some u ∧ VRs G v u) := by
  induction x generalizing y j with
  | nil => intro v hv; simp at hv
  | cons a x ih =>
    cases h with
    | cons h t =>
      intro v hv
      cases j with
      | zero => simp at hv; subst hv; exact ⟨_, by simp, h⟩
      | succ j => simp at hv; obtain ⟨u, h1, h2⟩ := ih t j v hv; exact ⟨u, by simpa using h1, h2⟩

theorem VRs.getD {x : List NV} {y : List Value} (h : VRs G x y) (j : Nat) : VR G (x.getD j .und) (y.getD j undef) := by
  rw [List.getD_eq_getElem?_getD, List.getD_eq_getElem?_getD]
  cases hx : x[j]? with
  | none =>
    have : y[j]? = none := by
      rw [List.getElem?_eq_none_iff] at hx ⊢; rw [← h.length]; exact hx
    rw [this]; exact .und
  | some v => obtain ⟨u, h1, h2⟩ := h.get j v hx; rw [h1]; exact h2

theorem VRs.map {α : Type} {f : α → NV} {g : α → Value} (l : List α) (h : ∀ a ∈ l, VR G (f a) (g a)) : VRs G (l.map f) (l.map g) := by
  induction l with
  | nil => exact .nil
  | cons a l ih => exact .cons (h a (by simp)) (ih fun b hb => h b (by simp [hb]))

theorem ofV_vr {v : Value} {x : NV} (h : ofV v = some x) : VR G x v := by
  unfold ofV at h
  split at h <;> (try cases h) <;> constructor

theorem ofVs_vr : ∀ {l : List Value} {x : List NV}, ofVs l = some x → VRs G x l
  | [], x, h => by simp [ofVs] at h; subst h; exact .nil
  | v :: l, x, h => by
    unfold ofVs at h
    split at h
    · rename_i a b ha hb; cases h; exact .cons (ofV_vr ha) (ofVs_vr hb)
    · cases h

theorem ofC_vr {v : Value} {x : NV} (h : ofC v = some x) : VR G x v := by
  unfold ofC at h
  split at h
  · rename_i cs
    cases hc : ofVs cs.toList with
    | none => simp [hc] at h
    | some y => simp [hc] at h; subst h; exact .agg (ofVs_vr hc)
  · exact ofV_vr h

theorem VR.cells {x : NV} {y : Value} (h : VR G x y) : VRs G x.cells y.cells.toList := by
  cases h <;> simp only [NV.cells, Value.cells] <;> first | assumption | exact .cons (by constructor <;> assumption) .nil

end

theorem oO_vr {G : Gh} {t : List NV} {a : Act} (ht : VRs G t a.tmps.toList) {x : Operand} {y : Opd} (h : oO x = some y) : VR G (getO t y) (a.eval x) := by
  unfold oO at h
  split at h
  · cases h
    have := ht.getD (G := G) (by assumption)
    simpa [getO, Act.eval] using this
  · split at h
    · cases h; rename_i hx; exact ofC_vr hx
    · cases h
  · cases h; exact .fn .nil .nil
  · cases h

theorem oOs_vr {G : Gh} {t : List NV} {a : Act} (ht : VRs G t a.tmps.toList) : ∀ {x : List Operand} {y : List Opd}, oOs x = some y → VRs G (y.map (getO t)) (x.map a.eval)
  | [], y, h => by simp [oOs] at h; subst h; exact .nil
  | v :: l, y, h => by
    unfold oOs at h
    split at h
    · rename_i p q hp hq; cases h; exact .cons (oO_vr ht hp) (oOs_vr ht hq)
    · cases h

end Go.NL
