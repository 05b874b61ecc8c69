/-
  slices.Sorted over the keys of a map: what it is to give of the machine, and what it gives of N.
-/
import Derived.Test.YtobpahgkkpmpfaaGreatNnE
import Derived.Test.YtobpahgkkpmpfaaGreatNwA
import Derived.Lib.SlKeysI
import Derived.Below
set_option linter.unusedVariables false
namespace Go.NL
open Go Go.RowKit Go.Maps

/-- What slices.Sorted is to give of the iterator over the keys of a map. -/
structure SortsK (P : Program) (k e fs fk : Nat) : Prop where
  key : P.underlying k = some (.int .i64)
  keys : ∀ (Bm o b nn : Nat) (D0 : DataW Unit) (R : Value → Option (DataW Unit × List MemPlace)) (w : World), Bm < w.heap.size → w.cell? ⟨Bm, o, none⟩ = some (.map (some b)) → w.ownsMap P k R b nn D0 → Maps.size D0 ≤ maxLen → Maps.size D0 * 8 ≤ 140737488355328 →
    Calls P fs #[.func (.func fk) #[] #[.pointer (some ⟨Bm, o, none⟩)]] w fun e w' => ∃ (v : Value) (ss : List Int), e = .returned v ∧ ss.Perm (intKeys D0) ∧
      w'.ownsRow w.heap.size k 1 v ss.length ((ss.mergeSort fun x y => decide (x ≤ y)).map encZ) ∧ (v = .slice none 0 0 ↔ ss = []) ∧ RowKit.Below w.heap.size w w'
  nokeys : ∀ (Bm o : Nat) (w : World), Bm < w.heap.size → w.cell? ⟨Bm, o, none⟩ = some (.map none) →
    Calls P fs #[.func (.func fk) #[] #[.pointer (some ⟨Bm, o, none⟩)]] w fun e w' => e = .returned (.slice none 0 0) ∧ RowKit.Below w.heap.size w w'


/-! ### Sorting -/

def insertI (x : Int) : List Int → List Int
  | [] => [x]
  | y :: l => if x ≤ y then x :: y :: l else y :: insertI x l

def sortI : List Int → List Int
  | [] => []
  | x :: l => insertI x (sortI l)

theorem insertI_perm (x : Int) : ∀ l, (insertI x l).Perm (x :: l)
  | [] => List.Perm.refl _
  | y :: l => by
    unfold insertI
    split
    · exact List.Perm.refl _
    · exact ((insertI_perm x l).cons y).trans (List.Perm.swap x y l)

theorem sortI_perm : ∀ l, (sortI l).Perm l
  | [] => List.Perm.refl _
  | x :: l => (insertI_perm x _).trans ((sortI_perm l).cons x)

theorem insertI_sorted (x : Int) : ∀ l, l.Pairwise (· ≤ ·) → (insertI x l).Pairwise (· ≤ ·)
  | [], _ => by simp [insertI]
  | y :: l, h => by
    unfold insertI
    obtain ⟨h1, h2⟩ := List.pairwise_cons.1 h
    split
    · rename_i hxy
      refine List.pairwise_cons.2 ⟨fun z hz => ?_, h⟩
      rcases List.mem_cons.1 hz with rfl | hz
      · exact hxy
      · exact Int.le_trans hxy (h1 z hz)
    · rename_i hxy
      refine List.pairwise_cons.2 ⟨fun z hz => ?_, insertI_sorted x l h2⟩
      rcases List.mem_cons.1 ((insertI_perm x l).subset hz) with rfl | hz
      · omega
      · exact h1 z hz

theorem sortI_sorted : ∀ l, (sortI l).Pairwise (· ≤ ·)
  | [] => List.Pairwise.nil
  | x :: l => insertI_sorted x _ (sortI_sorted l)

theorem sortI_eq (l : List Int) : l.mergeSort (fun x y => decide (x ≤ y)) = sortI l := by
  have tr : ∀ a b c : Int, leI a b = true → leI b c = true → leI a c = true := fun a b c h1 h2 => by simp only [leI, decide_eq_true_eq] at *; exact Int.le_trans h1 h2
  have to : ∀ a b : Int, (leI a b || leI b a) = true := fun a b => by simp only [leI, Bool.or_eq_true, decide_eq_true_eq]; exact Int.le_total a b
  refine List.Perm.eq_of_pairwise (le := fun a b => leI a b = true) (fun a b _ _ h1 h2 => ?_) (List.pairwise_mergeSort tr to l) ((sortI_sorted l).imp fun h => by simpa [leI] using h) ((List.mergeSort_perm l leI).trans (sortI_perm l).symm)
  simp only [leI, decide_eq_true_eq] at h1 h2
  exact Int.le_antisymm h1 h2

theorem sortI_perm_eq {l l' : List Int} (h : l.Perm l') : sortI l = sortI l' := by
  rw [← sortI_eq, ← sortI_eq]; exact mergeSort_of_perm_i h

/-! ### The contract -/

def sortedV (n : Nat) (ks : List Int) : NV := if ks.isEmpty then .nils else .sl n 0 ks.length false ks.length 1
def sortedM (M : Mem) (n : Nat) (ks : List Int) : Mem := if ks.isEmpty then M else upd M n (some (.cells ((sortI ks).map (NV.i .i64))))
def sortedN (n : Nat) (ks : List Int) : Nat := if ks.isEmpty then n else n + 1

/-- A map's entries are in order: keys that are ints, no two alike, stamps below the clock. -/
structure FitM (es : List (Nat × NV × NV)) (clk : Nat) (ks : List Int) : Prop where
  keys : es.map (·.2.1) = ks.map (NV.i .i64)
  wf : ∀ x ∈ ks, (Lit.int .i64 x).wf = true
  nodup : ks.Nodup
  born : ∀ e ∈ es, e.1 < clk
  bnodup : (es.map (·.1)).Nodup
  small : ks.length ≤ 2 ^ 30

section
variable {P : Program} {G : Gh} {M : Mem} {w w' : World}

theorem below_rel (h : MRel P G M w) (hb : RowKit.Below w.heap.size w w') : MRel P G M w' ∧ Adv G M w G M w' := by
  have hblk : ∀ id o, M id = some o → ∀ b, G.blk id = some b → w'.heap[b]? = w.heap[b]? := fun id o hm b hb' => by
    obtain ⟨b', h1, h2⟩ := (h.obj id o hm).blk
    rw [hb'] at h1; cases h1
    exact hb.block b h2
  refine ⟨⟨fun id o hm => (h.obj id o hm).keep G.le_refl (hblk id o hm), h.inj, fun b o v hv => ?_, h.imd⟩, ⟨G.le_refl, hb.size, fun b hb' _ => hb.block b hb', (Adv.refl h).own, fun _ _ _ h => .inl h, hb.tape, hb.os, hb.output⟩⟩
  have h1 := h.im b o v hv
  have hlt : b < w.heap.size := by
    rcases Nat.lt_or_ge b w.heap.size with hlt | hge
    · exact hlt
    · simp [World.cell?, Array.getElem?_eq_none hge] at h1
  unfold World.cell? at h1 ⊢
  rw [hb.block b hlt]; exact h1

theorem vrs_ints : ∀ {ks : List Int} {vs : List Value}, VRs G (ks.map (NV.i .i64)) vs → vs = ks.map (Value.int .i64)
  | [], vs, h => by cases h; rfl
  | k :: ks, vs, h => by
    cases h with
    | cons h t => cases h; rw [vrs_ints t]; rfl

theorem vrs_ints_mk : ∀ (ks : List Int), VRs G (ks.map (NV.i .i64)) (ks.map (Value.int .i64))
  | [] => .nil
  | k :: ks => .cons (.i _ _) (vrs_ints_mk ks)

def intV : Value → Int
  | .int _ a => a
  | _ => 0

theorem fit_keys {k : TypeId} {E : Array MapEntry} {ks : List Int} (hk : P.underlying k = some (.int .i64)) (he : E.toList.map (·.key) = ks.map (Value.int .i64)) (hw : ∀ x ∈ ks, (Lit.int .i64 x).wf = true) :
    (∀ x ∈ E.toList, Go.WideElems.rd P k (fun _ => some ((.nil : DataW Unit), [])) x = some (.int .i64 (intV x.key), .nil)) := by
  intro x hx
  have : x.key ∈ ks.map (Value.int .i64) := by rw [← he]; exact List.mem_map_of_mem hx
  obtain ⟨a, ha, hxa⟩ := List.mem_map.1 this
  have hkey : keyOf P k x.key = some (.int .i64 a) := by
    rw [← hxa]
    simp [keyOf, mapKey, hk, hw a ha]
  unfold Go.WideElems.rd
  rw [hkey, ← hxa]
  rfl

theorem owns_of {k : TypeId} {b : Nat} {E : Array MapEntry} {clk : Nat} {es : List (Nat × NV × NV)} {ks : List Int} (hk : P.underlying k = some (.int .i64)) (hb : w.heap[b]? = some (.map E clk)) (m3 : VRs G (es.map (·.2.1)) (E.toList.map (·.key)))
    (m5 : es.map (·.1) = E.toList.map (·.born)) (hf : FitM es clk ks) : ∃ D0 : DataW Unit, w.ownsMap P k (fun _ => some ((.nil : DataW Unit), [])) b E.size D0 ∧ (intKeys D0).Perm ks ∧ Maps.size D0 = ks.length := by
  rw [hf.keys] at m3
  have he := vrs_ints m3
  have hrd := fit_keys hk he hf.wf
  have hlen : E.size = ks.length := by have := congrArg List.length he; simpa using this
  have hks : (E.toList.map fun x => intV x.key) = ks := by
    have := congrArg (List.map intV) he
    rw [List.map_map, List.map_map] at this
    have h2 : ks.map (intV ∘ Value.int .i64) = ks := by
      conv => rhs; rw [← List.map_id ks]
      exact List.map_congr_left fun a _ => rfl
    rw [h2] at this; exact this
  refine ⟨_, ⟨E, clk, hb, ⟨?_, ⟨?_, ?_, ?_⟩, fun x hx => ⟨_, hrd x hx⟩⟩, Nat.le_refl _, rfl⟩, ?_, ?_⟩
  · rw [hlen]; exact Nat.le_trans hf.small (by decide)
  · intro x hx
    have : x.born ∈ es.map (·.1) := by rw [m5]; exact List.mem_map_of_mem hx
    obtain ⟨e, h1, h2⟩ := List.mem_map.1 this
    rw [← h2]; exact hf.born e h1
  · rw [← m5]; exact hf.bnodup
  · rw [he]
    exact List.pairwise_map.2 (hf.nodup.imp fun h e => h (by cases e; rfl))
  · show (List.map (fun p => intOf p.1) ((E.toList.map (Go.WideElems.rg P k _)).foldr DataW.insert [])).Perm ks
    refine ((Go.WideShapes.sorted_perm _).map _).trans ?_
    rw [List.map_map]
    have : E.toList.map ((fun p : Lit × DataW Unit => intOf p.1) ∘ Go.WideElems.rg P k (fun _ => some ((.nil : DataW Unit), []))) = E.toList.map fun x => intV x.key := List.map_congr_left fun x hx => by
      simp only [Function.comp, Go.WideElems.rg_of (hrd x hx), intOf]
    rw [this, hks]
  · show (List.foldr DataW.insert [] (E.toList.map (Go.WideElems.rg P k _))).length = _
    rw [(Go.WideShapes.sorted_perm _).length_eq]
    simp [hlen]

/-- **slices.Sorted over the keys of a map.** -/
theorem sorted_callable {k e fs fk : Nat} (hS : SortsK P k e fs fk) {n i id : Nat} {es : List (Nat × NV × NV)} {clk : Nat} {ks : List Int} (hi : M i = some (.cells [.mp id])) (hid : M id = some (.map es clk)) (hf : FitM es clk ks) :
    Callable P fs [.fn fk [] [.ptr i 0]] M n (sortedV n ks) (sortedM M n ks) (sortedN n ks) := by
  intro G w args' hfr hargs hM
  cases hargs with
  | cons h t =>
  cases t
  cases h with
  | fn hp hc =>
  cases hp
  cases hc with
  | cons h1 t1 =>
  cases t1
  cases h1 with
  | @ptr _ _ b sh bs hloc =>
  obtain ⟨b0, sh0, bs0, C, e0, l1, l2, l3, l4, l5⟩ := hM.obj i _ hi
  rw [hloc] at l1; cases l1
  obtain ⟨u, hu, hvu⟩ := l5.get 0 (.mp id) rfl
  generalize hg : u = uu at hvu
  cases hvu with
  | @mp _ b2 x y hloc2 =>
  subst hg
  obtain ⟨b3, x3, y3, E, m1, m2, m3, m4, m5⟩ := hM.obj id _ hid
  rw [hloc2] at m1; cases m1
  have hcell : w.cell? ⟨b, sh + 0, none⟩ = some (.map (some b2)) := by
    rw [cell_of_block l2]
    rw [List.getElem?_take_of_lt (by simp), List.getElem?_drop] at hu
    simpa using hu
  obtain ⟨D0, hown, hperm, hsize⟩ := owns_of (w := w) hS.key m2 m3 m5 hf
  have hsm := hf.small
  refine (hS.keys b (sh + 0) b2 E.size D0 _ w (Array.getElem?_eq_some_iff.1 l2).1 hcell hown (by rw [hsize]; exact Nat.le_trans hsm (by decide)) (by rw [hsize]; omega)).mono fun e w' hp => ?_
  obtain ⟨v, ss, rfl, hss, hrow, hnil, hb⟩ := hp
  have hssk : ss.Perm ks := hss.trans hperm
  rw [sortI_eq, sortI_perm_eq hssk, hssk.length_eq] at hrow
  obtain ⟨hM', hA'⟩ := below_rel hM hb
  by_cases hks : ks = []
  · subst hks
    have : ss = [] := List.Perm.eq_nil hssk
    rw [hnil.2 this]
    exact ⟨G, _, rfl, Nat.le_refl _, hfr, .nils, hM', hA', fun _ _ => rfl⟩
  · have hne : ks.isEmpty = false := by cases ks; exact absurd rfl hks; rfl
    simp only [sortedV, sortedM, sortedN, hne, Bool.false_eq_true, if_false]
    rcases hrow.2 with ⟨_, hz⟩ | ⟨g, cap, cur, rfl, hbase, hgb, r1, r2, r3, r4⟩
    · exact absurd (List.eq_nil_of_length_eq_zero hz) hks
    · have hl : G.loc n = none := hfr n (Nat.le_refl _)
      have hlen : (sortI ks).length = ks.length := (sortI_perm ks).length_eq
      have hO : ORel P (G.set n (g, 0, cur.size)) w' n (.cells ((sortI ks).map (NV.i .i64))) := by
        refine ⟨g, 0, cur.size, cur, k, Gh.set_loc, hgb, rfl, ?_, ?_⟩
        · simp [hlen, r3]; exact r1
        · rw [List.length_map, hlen, List.drop_zero, ← Nat.mul_one ks.length, r4]
          exact vrs_ints_mk _
      refine ⟨G.set n (g, 0, cur.size), _, rfl, Nat.le_succ _, fun id hid => by rw [Gh.set_ne (by omega)]; exact hfr id (by omega), ?_, ⟨fun j o hj => ?_, fun i j oi oj hi' hj hij => ?_, fun b o v hv => ?_, fun b o v i ob hv hi' => ?_⟩, ⟨Gh.set_le hl, hA'.size, hA'.heap, fun j o hj => ?_, fun _ _ _ h => .inl h, hA'.tape, hA'.os, hA'.output⟩, fun j hj => by rw [Gh.set_ne (by omega)]⟩
      · exact .sl Gh.set_loc (fun _ => rfl) (fun _ => by omega) (Nat.le_refl _) r1 (fun h => by cases h)
      · by_cases e1 : j = n
        · subst e1; rw [upd_same] at hj; cases hj; exact hO
        · rw [upd_ne e1] at hj
          exact (hM'.obj j o hj).keep (Gh.set_le hl) fun _ _ => rfl
      · by_cases e1 : i = n
        · by_cases e2 : j = n
          · exact absurd (e1.trans e2.symm) hij
          · subst e1
            rw [upd_ne e2] at hj
            obtain ⟨bb, hb1, _⟩ := (hM.obj j oj hj).blk
            have hb2 := (hM.obj j oj hj).blk
            rw [Gh.set_blk, Gh.set_blk_ne e2, hb1]
            obtain ⟨b', q1, q2⟩ := hb2
            rw [hb1] at q1; cases q1
            intro e; cases e; omega
        · by_cases e2 : j = n
          · subst e2
            rw [upd_ne e1] at hi'
            obtain ⟨b', q1, q2⟩ := (hM.obj i oi hi').blk
            rw [Gh.set_blk, Gh.set_blk_ne e1, q1]
            intro e; cases e; omega
          · rw [upd_ne e1] at hi'
            rw [upd_ne e2] at hj
            rw [Gh.set_blk_ne e1, Gh.set_blk_ne e2]
            exact hM.inj i j oi oj hi' hj hij
      · exact hM'.im b o v hv
      · by_cases e1 : i = n
        · subst e1
          rw [Gh.set_blk]
          intro e; cases e
          have h1 := hM.im g o v hv
          simp [World.cell?, Array.getElem?_eq_none hbase] at h1
        · rw [upd_ne e1] at hi'
          rw [Gh.set_blk_ne e1]
          exact hM.imd b o v i ob hv hi'
      · by_cases e1 : j = n
        · subst e1; exact ⟨g, by rw [Gh.set_blk], .inl hbase⟩
        · rw [upd_ne e1] at hj
          rw [Gh.set_blk_ne e1]
          exact hA'.own j o hj

theorem sorted_none {k e fs fk : Nat} (hS : SortsK P k e fs fk) {n i : Nat} (hi : M i = some (.cells [.nilm])) : Callable P fs [.fn fk [] [.ptr i 0]] M n .nils M n := by
  intro G w args' hfr hargs hM
  cases hargs with
  | cons h t =>
  cases t
  cases h with
  | fn hp hc =>
  cases hp
  cases hc with
  | cons h1 t1 =>
  cases t1
  cases h1 with
  | @ptr _ _ b sh bs hloc =>
  obtain ⟨b0, sh0, bs0, C, e0, l1, l2, l3, l4, l5⟩ := hM.obj i _ hi
  rw [hloc] at l1; cases l1
  obtain ⟨u, hu, hvu⟩ := l5.get 0 .nilm rfl
  cases hvu
  have hcell : w.cell? ⟨b, sh + 0, none⟩ = some (.map none) := by
    rw [cell_of_block l2]
    rw [List.getElem?_take_of_lt (by simp), List.getElem?_drop] at hu
    simpa using hu
  refine (hS.nokeys b (sh + 0) w (Array.getElem?_eq_some_iff.1 l2).1 hcell).mono fun e w' hp => ?_
  obtain ⟨rfl, hb⟩ := hp
  obtain ⟨hM', hA'⟩ := below_rel hM hb
  exact ⟨G, _, rfl, Nat.le_refl _, hfr, .nils, hM', hA', fun _ _ => rfl⟩

end
end Go.NL
