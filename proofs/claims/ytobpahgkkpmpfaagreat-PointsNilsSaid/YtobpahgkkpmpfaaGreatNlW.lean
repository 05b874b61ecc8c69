/-
  Memory made, written, given up; append.
-/
import Derived.Test.YtobpahgkkpmpfaaGreatNlV
namespace Go.NL

def Gh.set (G : Gh) (id : Nat) (x : Nat × Nat × Nat) : Gh := { G with loc := fun j => if j = id then some x else G.loc j }

theorem Gh.set_le {G : Gh} {id : Nat} {x : Nat × Nat × Nat} (h : G.loc id = none) : G.le (G.set id x) :=
  ⟨fun j y hj => by
    show (if j = id then some x else G.loc j) = some y
    by_cases e : j = id
    · subst e; rw [h] at hj; cases hj
    · rw [if_neg e]; exact hj, fun _ _ _ h => h⟩

theorem Gh.set_loc {G : Gh} {id : Nat} {x : Nat × Nat × Nat} : (G.set id x).loc id = some x := by simp [Gh.set]
theorem Gh.set_ne {G : Gh} {id j : Nat} {x : Nat × Nat × Nat} (h : j ≠ id) : (G.set id x).loc j = G.loc j := by simp [Gh.set, h]
theorem Gh.set_blk {G : Gh} {id : Nat} {x : Nat × Nat × Nat} : (G.set id x).blk id = some x.1 := by simp [Gh.blk, Gh.set_loc]
theorem Gh.set_blk_ne {G : Gh} {id j : Nat} {x : Nat × Nat × Nat} (h : j ≠ id) : (G.set id x).blk j = G.blk j := by simp [Gh.blk, Gh.set_ne h]

theorem upd_same {M : Mem} {id : Nat} {o : Option Obj} : upd M id o id = o := by simp [upd]
theorem upd_ne {M : Mem} {id j : Nat} {o : Option Obj} (h : j ≠ id) : upd M id o j = M j := by simp [upd, h]

section
variable {P : Program} {w w' : World} {G : Gh} {M : Mem}

theorem cell_heap {w w' : World} (h : ∀ b : Nat, w'.heap[b]? = w.heap[b]?) (a : Addr) : w'.cell? a = w.cell? a := by
  unfold World.cell?; rw [h]

theorem MRel.congr (h : MRel P G M w) (hw : ∀ b : Nat, w'.heap[b]? = w.heap[b]?) : MRel P G M w' :=
  ⟨fun id o hm => (h.obj id o hm).keep G.le_refl fun b _ => hw b, h.inj, fun b o v hv => by rw [cell_heap hw]; exact h.im b o v hv, h.imd⟩

theorem Adv.same {w' : World} (h : MRel P G M w) (hw : w'.heap = w.heap) (ht : w'.tape = w.tape) (ho : w'.os = w.os) (hp : w'.output = w.output) : Adv G M w G M w' :=
  ⟨G.le_refl, by rw [hw]; exact Nat.le_refl _, fun b _ _ => by rw [hw], fun id o hm => by
    obtain ⟨b, h1, _⟩ := (h.obj id o hm).blk; exact ⟨b, h1, .inr ⟨id, o, hm, h1⟩⟩, fun _ _ _ h => .inl h, ht, ho, hp⟩

/-- An object written in its place. -/
theorem MRel.write (h : MRel P G M w) {id b : Nat} {ob ob' : Obj} {gob : Go.Obj} (hm : M id = some ob) (hb : G.blk id = some b) (ho : ORel P G (putW w b gob) id ob') :
    MRel P G (upd M id (some ob')) (putW w b gob) ∧ Adv G M w G (upd M id (some ob')) (putW w b gob) := by
  have hne : ∀ j oj, M j = some oj → j ≠ id → ∀ b', G.blk j = some b' → b ≠ b' := fun j oj hj hji b' hb' e =>
    h.inj j id oj ob hj hm hji (by rw [hb', hb, e])
  refine ⟨⟨fun j oj hj => ?_, fun i j oi oj hi hj hij => ?_, fun b' o v hv => ?_, fun b' o v i oi hv hi => ?_⟩, ⟨G.le_refl, by simp [putW], fun b' _ hn => putW_heap_ne fun e => hn id ob hm (by rw [hb, e]), fun j oj hj => ?_, fun _ _ _ h => .inl h, rfl, rfl, rfl⟩⟩
  · by_cases e : j = id
    · subst e; rw [upd_same] at hj; cases hj; exact ho
    · rw [upd_ne e] at hj
      exact (h.obj j oj hj).keep G.le_refl fun b' hb' => putW_heap_ne (hne j oj hj e b' hb')
  · have get : ∀ k ok, upd M id (some ob') k = some ok → ∃ ok', M k = some ok' := fun k ok hk => by
      by_cases e : k = id
      · subst e; exact ⟨ob, hm⟩
      · rw [upd_ne e] at hk; exact ⟨_, hk⟩
    obtain ⟨oi', hi'⟩ := get i oi hi
    obtain ⟨oj', hj'⟩ := get j oj hj
    exact h.inj i j _ _ hi' hj' hij
  · have hbb : b ≠ b' := fun e => h.imd b' o v id ob hv hm (by rw [hb, e])
    have := h.im b' o v hv
    simp only [World.cell?] at this ⊢
    rw [putW_heap_ne hbb]; exact this
  · by_cases e : i = id
    · subst e; exact h.imd b' o v i ob hv hm
    · rw [upd_ne e] at hi; exact h.imd b' o v i oi hv hi
  · by_cases e : j = id
    · subst e; exact ⟨b, hb, .inr ⟨j, ob, hm, hb⟩⟩
    · rw [upd_ne e] at hj
      obtain ⟨b', h1, _⟩ := (h.obj j oj hj).blk
      exact ⟨b', h1, .inr ⟨j, oj, hj, h1⟩⟩

theorem pushW_ne {ob : Go.Obj} {b : Nat} (h : b < w.heap.size) : (pushW w ob).heap[b]? = w.heap[b]? := by
  show (w.heap.push ob)[b]? = w.heap[b]?
  rw [Array.getElem?_push]
  rw [if_neg (by omega)]

/-- An object made. -/
theorem MRel.new (h : MRel P G M w) {id : Nat} {x : Nat × Nat × Nat} {ob : Obj} {gob : Go.Obj} (hx : x.1 = w.heap.size) (hl : G.loc id = none) (hm : M id = none)
    (ho : ORel P (G.set id x) (pushW w gob) id ob) :
    MRel P (G.set id x) (upd M id (some ob)) (pushW w gob) ∧ Adv G M w (G.set id x) (upd M id (some ob)) (pushW w gob) := by
  have hle := Gh.set_le (G := G) (x := x) hl
  have old : ∀ j oj, M j = some oj → j ≠ id := fun j oj hj e => by subst e; rw [hm] at hj; cases hj
  have ob_old : ∀ j oj, M j = some oj → ∃ b, G.blk j = some b ∧ (G.set id x).blk j = some b ∧ b < w.heap.size := fun j oj hj => by
    obtain ⟨b, h1, h2⟩ := (h.obj j oj hj).blk
    exact ⟨b, h1, by rw [Gh.set_blk_ne (old j oj hj)]; exact h1, h2⟩
  refine ⟨⟨fun j oj hj => ?_, fun i j oi oj hi hj hij => ?_, fun b' o v hv => ?_, fun b' o v i oi hv hi => ?_⟩, ⟨hle, by simp [pushW], fun b' hb _ => pushW_ne hb, fun j oj hj => ?_, fun _ _ _ h => .inl h, rfl, rfl, rfl⟩⟩
  · by_cases e : j = id
    · subst e; rw [upd_same] at hj; cases hj; exact ho
    · rw [upd_ne e] at hj
      obtain ⟨b, h1, _, h3⟩ := ob_old j oj hj
      exact (h.obj j oj hj).keep hle fun b' hb' => by rw [h1] at hb'; cases hb'; exact pushW_ne h3
  · by_cases ei : i = id
    · by_cases ej : j = id
      · subst ei; subst ej; exact absurd rfl hij
      · subst ei
        rw [upd_ne ej] at hj
        obtain ⟨b, _, h2, h3⟩ := ob_old j oj hj
        rw [Gh.set_blk, h2, hx]
        simp; omega
    · rw [upd_ne ei] at hi
      obtain ⟨b, h1, h2, h3⟩ := ob_old i oi hi
      by_cases ej : j = id
      · subst ej
        rw [Gh.set_blk, h2, hx]
        simp; omega
      · rw [upd_ne ej] at hj
        obtain ⟨b', h4, h5, h6⟩ := ob_old j oj hj
        rw [h2, h5]
        have := h.inj i j oi oj hi hj hij
        rwa [h1, h4] at this
  · have := h.im b' o v hv
    simp only [World.cell?] at this ⊢
    have hb : b' < w.heap.size := by
      rcases Nat.lt_or_ge b' w.heap.size with hb | hb
      · exact hb
      · rw [Array.getElem?_eq_none hb] at this; cases this
    rw [pushW_ne hb]; exact this
  · by_cases e : i = id
    · subst e
      rw [Gh.set_blk, hx]
      intro e
      simp only [Option.some.injEq] at e
      have := h.im b' o v hv
      simp only [World.cell?] at this
      rw [← e, Array.getElem?_eq_none (Nat.le_refl _)] at this
      cases this
    · rw [upd_ne e] at hi
      rw [Gh.set_blk_ne e]
      exact h.imd b' o v i oi hv hi
  · by_cases e : j = id
    · subst e; exact ⟨w.heap.size, by rw [Gh.set_blk, hx], .inl (Nat.le_refl _)⟩
    · rw [upd_ne e] at hj
      obtain ⟨b, h1, h2, h3⟩ := ob_old j oj hj
      exact ⟨b, h2, .inr ⟨j, oj, hj, h1⟩⟩

/-- An object given up. -/
theorem MRel.del (h : MRel P G M w) (id : Nat) : MRel P G (upd M id none) w ∧ Adv G M w G (upd M id none) w := by
  have get : ∀ k ok, upd M id none k = some ok → M k = some ok := fun k ok hk => by
    by_cases e : k = id
    · subst e; rw [upd_same] at hk; cases hk
    · rw [upd_ne e] at hk; exact hk
  exact ⟨⟨fun j oj hj => h.obj j oj (get j oj hj), fun i j oi oj hi hj hij => h.inj i j oi oj (get i oi hi) (get j oj hj) hij, h.im, fun b o v i oi hv hi => h.imd b o v i oi hv (get i oi hi)⟩,
    ⟨G.le_refl, Nat.le_refl _, fun _ _ _ => rfl, fun j oj hj => by
      obtain ⟨b, h1, _⟩ := (h.obj j oj (get j oj hj)).blk; exact ⟨b, h1, .inr ⟨j, oj, get j oj hj, h1⟩⟩, fun _ _ _ h => .inl h, rfl, rfl, rfl⟩⟩

/-- A block that goes by another number. -/
theorem MRel.move (h : MRel P G M w) {id id' b : Nat} {x : Nat × Nat × Nat} {ob ob' : Obj} {gob : Go.Obj} (hm : M id = some ob) (hb : G.blk id = some b) (hx : x.1 = b) (hl : G.loc id' = none) (hm' : M id' = none)
    (ho : ORel P (G.set id' x) (putW w b gob) id' ob') :
    MRel P (G.set id' x) (upd (upd M id none) id' (some ob')) (putW w b gob) ∧ Adv G M w (G.set id' x) (upd (upd M id none) id' (some ob')) (putW w b gob) := by
  have hne : id ≠ id' := fun e => by subst e; rw [hm] at hm'; cases hm'
  have hle := Gh.set_le (G := G) (x := x) hl
  have get : ∀ k ok, upd (upd M id none) id' (some ob') k = some ok → (k = id' ∧ ok = ob') ∨ (k ≠ id' ∧ k ≠ id ∧ M k = some ok) := fun k ok hk => by
    by_cases e : k = id'
    · subst e; rw [upd_same] at hk; cases hk; exact .inl ⟨rfl, rfl⟩
    · rw [upd_ne e] at hk
      by_cases e' : k = id
      · subst e'; rw [upd_same] at hk; cases hk
      · rw [upd_ne e'] at hk; exact .inr ⟨e, e', hk⟩
  refine ⟨⟨fun j oj hj => ?_, fun i j oi oj hi hj hij => ?_, fun b' o v hv => ?_, fun b' o v i oi hv hi => ?_⟩, ⟨hle, by simp [putW], fun b' _ hn => putW_heap_ne fun e => hn id ob hm (by rw [hb, e]), fun j oj hj => ?_, fun _ _ _ h => .inl h, rfl, rfl, rfl⟩⟩
  · rcases get j oj hj with ⟨rfl, rfl⟩ | ⟨h1, h2, h3⟩
    · exact ho
    · exact (h.obj j oj h3).keep hle fun b' hb' => putW_heap_ne fun e => h.inj j id oj ob h3 hm h2 (by rw [hb', hb, e])
  · rcases get i oi hi with ⟨rfl, rfl⟩ | ⟨h1, h2, h3⟩
    · rcases get j oj hj with ⟨rfl, _⟩ | ⟨h4, h5, h6⟩
      · exact absurd rfl hij
      · rw [Gh.set_blk, Gh.set_blk_ne h4, hx, ← hb]
        exact fun e => h.inj id j ob oj hm h6 (Ne.symm h5) e
    · rcases get j oj hj with ⟨rfl, _⟩ | ⟨h4, h5, h6⟩
      · rw [Gh.set_blk, Gh.set_blk_ne h1, hx, ← hb]
        exact fun e => h.inj i id oi ob h3 hm h2 e
      · rw [Gh.set_blk_ne h1, Gh.set_blk_ne h4]
        exact h.inj i j oi oj h3 h6 hij
  · have hbb : b ≠ b' := fun e => h.imd b' o v id ob hv hm (by rw [hb, e])
    have := h.im b' o v hv
    simp only [World.cell?] at this ⊢
    rw [putW_heap_ne hbb]; exact this
  · rcases get i oi hi with ⟨rfl, rfl⟩ | ⟨h1, h2, h3⟩
    · rw [Gh.set_blk, hx, ← hb]; exact h.imd b' o v id ob hv hm
    · rw [Gh.set_blk_ne h1]; exact h.imd b' o v i oi hv h3
  · rcases get j oj hj with ⟨rfl, rfl⟩ | ⟨h1, h2, h3⟩
    · exact ⟨b, by rw [Gh.set_blk, hx], .inr ⟨id, ob, hm, hb⟩⟩
    · obtain ⟨b', h4, _⟩ := (h.obj j oj h3).blk
      exact ⟨b', by rw [Gh.set_blk_ne h1]; exact h4, .inr ⟨j, oj, h3, h4⟩⟩

end

/-! ### append -/

/-- The cells of what is appended, and their number. -/
def srcN (M : Mem) (sz : Nat) : NV → Option (Nat × List NV)
  | .nils => some (0, [])
  | .sl id off len _ _ sz' => if sz' = sz then
      (if len = 0 then some (0, []) else match M id with
        | some (.cells c) => if off + len * sz ≤ c.length then some (len, (c.drop off).take (len * sz)) else none
        | _ => none) else none
  | .rs sz' rows off len => if sz' = sz then some (len, ((rows.drop off).take len).flatten) else none
  | .s x => if sz = 1 then some (x.length, x.map fun c => .i .u8 c.toNat) else none
  | _ => none

def appN (M : Mem) (id' : Nat) (sz : Nat) (s x : NV) : Option (NV × Mem) :=
  match srcN M sz x with
  | none => none
  | some (n, new) =>
    if n = 0 then (match s with
      | .nils => some (s, M)
      | .sl .. => some (s, M)
      | .rs .. => some (s, M)
      | _ => none) else
    if ¬ new.all NV.plain then none else
    match s with
    | .nils => if n ≤ 2 ^ 30 then some (.sl id' 0 n false n sz, upd M id' (some (.cells new))) else none
    | .sl id off len ex cap sz' =>
      if sz' ≠ sz ∨ 2 ^ 30 < len + n then none else
      if len + n ≤ cap then match M id with
        | some (.cells c) => if off + len * sz + n * sz ≤ c.length then some (.sl id off (len + n) ex cap sz, upd M id (some (.cells (c.take (off + len * sz) ++ new ++ c.drop (off + len * sz + n * sz))))) else none
        | _ => none
      else match M id with
        | some (.cells c) => if off + len * sz ≤ c.length then
            some (.sl id' 0 (len + n) false (len + n) sz, upd (if ex then M else upd M id none) id' (some (.cells ((c.drop off).take (len * sz) ++ new)))) else none
        | _ => none
    | _ => none

end Go.NL
