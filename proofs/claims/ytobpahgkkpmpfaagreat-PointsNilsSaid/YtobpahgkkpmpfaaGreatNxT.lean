/-
  slices.Sorted over the keys of a map, for the evaluator.
-/
import Derived.Test.YtobpahgkkpmpfaaGreatNxS
set_option linter.unusedVariables false
namespace Go.NL
open Go

def intsOf : List (Nat × NV × NV) → Option (List Int)
  | [] => some []
  | (_, .i .i64 x, _) :: l => match intsOf l with
    | some r => some (x :: r)
    | none => none
  | _ => none

def hasI (x : Int) : List Int → Bool
  | [] => false
  | y :: l => if x = y then true else hasI x l
def nodupI : List Int → Bool
  | [] => true
  | x :: l => !hasI x l && nodupI l
def hasN (x : Nat) : List (Nat × NV × NV) → Bool
  | [] => false
  | y :: l => if x = y.1 then true else hasN x l
def nodupN : List (Nat × NV × NV) → Bool
  | [] => true
  | x :: l => !hasN x.1 l && nodupN l
def bornB (clk : Nat) : List (Nat × NV × NV) → Bool
  | [] => true
  | x :: l => Nat.blt x.1 clk && bornB clk l
def wfB : List Int → Bool
  | [] => true
  | x :: l => (Lit.int .i64 x).wf && wfB l

def fitB (es : List (Nat × NV × NV)) (clk : Nat) : Option (List Int) :=
  match intsOf es with
  | some ks => if wfB ks && nodupI ks && bornB clk es && nodupN es && Nat.ble ks.length 1073741824 then some ks else none
  | none => none

theorem intsOf_ok : ∀ {es : List (Nat × NV × NV)} {ks : List Int}, intsOf es = some ks → es.map (·.2.1) = ks.map (NV.i .i64)
  | [], ks, h => by simp only [intsOf] at h; cases h; rfl
  | (a, k, v) :: l, ks, h => by
    unfold intsOf at h
    split at h
    · rename_i heq; cases heq
    · rename_i x v' l' heq
      cases heq
      split at h
      · rename_i r hr
        cases h
        simp only [List.map_cons, intsOf_ok hr]
      · cases h
    · cases h

theorem hasI_ok {x : Int} : ∀ {l : List Int}, hasI x l = false → x ∉ l
  | [], _ => by simp
  | y :: l, h => by
    unfold hasI at h
    split at h
    · cases h
    · rename_i hne; simp only [List.mem_cons, not_or]; exact ⟨hne, hasI_ok h⟩
theorem nodupI_ok : ∀ {l : List Int}, nodupI l = true → l.Nodup
  | [], _ => List.nodup_nil
  | x :: l, h => by
    simp only [nodupI, Bool.and_eq_true, Bool.not_eq_true'] at h
    exact List.nodup_cons.2 ⟨hasI_ok h.1, nodupI_ok h.2⟩
theorem hasN_ok {x : Nat} : ∀ {l : List (Nat × NV × NV)}, hasN x l = false → x ∉ l.map (·.1)
  | [], _ => by simp
  | y :: l, h => by
    unfold hasN at h
    split at h
    · cases h
    · rename_i hne; simp only [List.map_cons, List.mem_cons, not_or]; exact ⟨hne, hasN_ok h⟩
theorem nodupN_ok : ∀ {l : List (Nat × NV × NV)}, nodupN l = true → (l.map (·.1)).Nodup
  | [], _ => List.nodup_nil
  | x :: l, h => by
    simp only [nodupN, Bool.and_eq_true, Bool.not_eq_true'] at h
    exact List.nodup_cons.2 ⟨hasN_ok h.1, nodupN_ok h.2⟩
theorem bornB_ok {clk : Nat} : ∀ {l : List (Nat × NV × NV)}, bornB clk l = true → ∀ e ∈ l, e.1 < clk
  | [], _, e, he => by cases he
  | x :: l, h, e, he => by
    simp only [bornB, Bool.and_eq_true, Nat.blt_eq] at h
    rcases List.mem_cons.1 he with rfl | he
    · exact h.1
    · exact bornB_ok h.2 e he
theorem wfB_ok : ∀ {l : List Int}, wfB l = true → ∀ x ∈ l, (Lit.int .i64 x).wf = true
  | [], _, e, he => by cases he
  | x :: l, h, e, he => by
    simp only [wfB, Bool.and_eq_true] at h
    rcases List.mem_cons.1 he with rfl | he
    · exact h.1
    · exact wfB_ok h.2 e he

theorem fitB_ok {es : List (Nat × NV × NV)} {clk : Nat} {ks : List Int} (h : fitB es clk = some ks) : FitM es clk ks := by
  unfold fitB at h
  split at h
  · rename_i ks' h1
    split at h
    · rename_i hc
      cases h
      simp only [Bool.and_eq_true] at hc
      obtain ⟨⟨⟨⟨h2, h3⟩, h4⟩, h5⟩, h6⟩ := hc
      exact ⟨intsOf_ok h1, wfB_ok h2, nodupI_ok h3, bornB_ok h4, nodupN_ok h5, Nat.le_of_ble_eq_true h6⟩
    · cases h
  · cases h

noncomputable def sortRun (fk : Nat) (args : List NV) (m : T Obj) (n : Nat) : Option (NV × T Obj × Nat) :=
  match args with
  | [.fn f [] [.ptr i 0]] => match Nat.beq f fk with
    | true => match m.get i with
      | some (.cells [.mp id]) => match m.get id with
        | some (.map es clk) => match fitB es clk with
          | some [] => some (.nils, m, n)
          | some (k :: ks) => some (.sl n 0 (k :: ks).length false (k :: ks).length 1, m.set n (some (.cells ((sortI (k :: ks)).map (NV.i .i64)))), n + 1)
          | none => none
        | _ => none
      | some (.cells [.nilm]) => some (.nils, m, n)
      | _ => none
    | false => none
  | _ => none

noncomputable def sortPrim (fs fk : Nat) : Prim := fun f args m n =>
  match Nat.beq f fs with
  | true => some (sortRun fk args m n)
  | false => none

theorem sortPrim_ok {P : Program} {k e fs fk : Nat} (hS : SortsK P k e fs fk) (hp : ∃ nf, prepF P fs = some nf) : PrimOk P (sortPrim fs fk) := by
  intro f args m n v m' n' h
  unfold sortPrim at h
  split at h
  · rename_i hf
    have := Nat.eq_of_beq_eq_true hf
    subst this
    refine ⟨hp, ?_⟩
    simp only [Option.some.injEq] at h
    unfold sortRun at h
    split at h
    · rename_i g i
      split at h
      · rename_i hg
        have := Nat.eq_of_beq_eq_true hg
        subst this
        split at h
        · rename_i id hi
          split at h
          · rename_i es clk hid
            split at h
            · rename_i hfit
              cases h
              have := sorted_callable hS (n := n) hi hid (fitB_ok hfit)
              simpa [sortedV, sortedM, sortedN] using this
            · rename_i k' ks hfit
              cases h
              have := sorted_callable hS (n := n) hi hid (fitB_ok hfit)
              simp only [sortedV, sortedM, sortedN, List.isEmpty_cons, Bool.false_eq_true, if_false] at this
              rw [set_upd]
              exact this
            · cases h
          · cases h
        · rename_i hi
          cases h
          exact sorted_none hS hi
        · cases h
      · cases h
    · cases h
  · cases h

/-- A table is right, place by place. -/
def TOk (P : Program) : T NFun → (Nat → Nat) → Prop
  | .e, _ => True
  | .n v l r, g => (∀ nf, v = some nf → prepF P (g 0) = some nf) ∧ TOk P l (fun j => g (2 * j + 1)) ∧ TOk P r (fun j => g (2 * j + 2))

theorem TOk_get {P : Program} : ∀ {t : T NFun} {g : Nat → Nat} (i : Nat) (nf : NFun), TOk P t g → t.get i = some nf → prepF P (g i) = some nf
  | .e, _, _, _, _, h => by cases h
  | .n v l r, g, i, nf, ⟨h1, h2, h3⟩, h => by
    rw [T.get_n] at h
    by_cases h0 : i = 0
    · rw [if_pos h0] at h; subst h0; exact h1 nf h
    · rw [if_neg h0] at h
      by_cases ho : i % 2 = 1
      · rw [if_pos ho] at h
        have := TOk_get (i / 2) nf h2 h
        rw [show 2 * (i / 2) + 1 = i from by omega] at this; exact this
      · rw [if_neg ho] at h
        have := TOk_get (i / 2 - 1) nf h3 h
        rw [show 2 * (i / 2 - 1) + 2 = i from by omega] at this; exact this

theorem TabOk.of {P : Program} {t : T NFun} (h : TOk P t id) : TabOk P t.get := fun f nf hf => TOk_get f nf h hf

theorem TOk_n {P : Program} {g : Nat → Nat} {nf : NFun} {l r : T NFun} (h : prepF P (g 0) = some nf) (hl : TOk P l (fun j => g (2 * j + 1))) (hr : TOk P r (fun j => g (2 * j + 2))) : TOk P (.n (some nf) l r) g := ⟨fun x hx => (by cases hx; exact h), hl, hr⟩
theorem TOk_0 {P : Program} {g : Nat → Nat} {l r : T NFun} (hl : TOk P l (fun j => g (2 * j + 1))) (hr : TOk P r (fun j => g (2 * j + 2))) : TOk P (.n none l r) g := ⟨fun x hx => (by cases hx), hl, hr⟩
theorem TOk_e {P : Program} {g : Nat → Nat} : TOk P .e g := trivial

/-- A call without arguments, in no memory, that gives a plain value: it gives it in any memory, and leaves nothing. -/
theorem Callable.plain {P : Program} {f : FuncId} {v : NV} {M' : Mem} {n' : Nat} (h : Callable P f [] (fun _ => none) 0 v M' n') (hv : v.ub 0 = true) (M : Mem) (n : Nat) : Callable P f [] M n v M n := by
  intro G w args' hf hargs hM
  cases hargs
  have h0 : MRel P ⟨fun _ => none, fun _ _ => none⟩ (fun _ => none) w := ⟨fun id o hm => (by cases hm), fun i j o o' hi => (by cases hi), fun b o v hv => (by cases hv), fun b o v i ob hv => (by cases hv)⟩
  refine (h ⟨fun _ => none, fun _ _ => none⟩ w [] (fun _ _ => rfl) .nil h0).mono fun e w' hp => ?_
  obtain ⟨G', u, rfl, h1, h2, h3, h4, h5, h6⟩ := hp
  have hheap : ∀ b, b < w.heap.size → w'.heap[b]? = w.heap[b]? := fun b hb => h5.heap b hb fun id o hm => by cases hm
  refine ⟨⟨G.loc, fun b o => if b < w.heap.size then G.im b o else G'.im b o⟩, u, rfl, Nat.le_refl _, hf, ?_, ⟨fun id o hm => ?_, hM.inj, fun b o v hv' => ?_, fun b o v i ob hv' hi => ?_⟩, ⟨⟨fun _ _ h => h, fun b o v hv' => ?_⟩, h5.size, fun b hb _ => hheap b hb, (Adv.refl hM).own, fun b o v hv' => ?_, h5.tape, h5.os, h5.output⟩, fun _ _ => rfl⟩
  · refine h3.move (n := 0) (fun id hid => absurd hid (Nat.not_lt_zero _)) (fun b o v hv' => ?_) hv
    show (if b < w.heap.size then G.im b o else G'.im b o) = some v
    by_cases hb : b < w.heap.size
    · rcases h5.im b o v hv' with h7 | h7 | ⟨j, oj, hj, _⟩
      · cases h7
      · omega
      · cases hj
    · rw [if_neg hb]; exact hv'
  · refine (hM.obj id o hm).keep ⟨fun _ _ h => h, fun b o v hv' => ?_⟩ fun b hb => ?_
    · show (if b < w.heap.size then G.im b o else G'.im b o) = some v
      have h7 := hM.im b o v hv'
      have hlt : b < w.heap.size := by
        rcases Nat.lt_or_ge b w.heap.size with hlt | hge
        · exact hlt
        · simp [World.cell?, Array.getElem?_eq_none hge] at h7
      rw [if_pos hlt]; exact hv'
    · obtain ⟨b', q1, q2⟩ := (hM.obj id o hm).blk
      rw [hb] at q1; cases q1
      exact hheap b q2
  · show w'.cell? ⟨b, o, none⟩ = some v
    change (if b < w.heap.size then G.im b o else G'.im b o) = some v at hv'
    by_cases hb : b < w.heap.size
    · rw [if_pos hb] at hv'
      have := hM.im b o v hv'
      unfold World.cell? at this ⊢
      rw [hheap b hb]; exact this
    · rw [if_neg hb] at hv'; exact h4.im b o v hv'
  · change (if b < w.heap.size then G.im b o else G'.im b o) = some v at hv'
    by_cases hb : b < w.heap.size
    · rw [if_pos hb] at hv'; exact hM.imd b o v i ob hv' hi
    · obtain ⟨b', q1, q2⟩ := (hM.obj i ob hi).blk
      show G.blk i ≠ some b
      rw [q1]; intro e; cases e; exact hb q2
  · show (if b < w.heap.size then G.im b o else G'.im b o) = some v
    have h7 := hM.im b o v hv'
    have hlt : b < w.heap.size := by
      rcases Nat.lt_or_ge b w.heap.size with hlt | hge
      · exact hlt
      · simp [World.cell?, Array.getElem?_eq_none hge] at h7
    rw [if_pos hlt]; exact hv'
  · change (if b < w.heap.size then G.im b o else G'.im b o) = some v at hv'
    by_cases hb : b < w.heap.size
    · rw [if_pos hb] at hv'; exact .inl hv'
    · exact .inr (.inl (Nat.le_of_not_lt hb))

end Go.NL
