/-
  append, and calls.
-/
import Derived.Test.YtobpahgkkpmpfaaGreatNlW
namespace Go.NL

section
variable {P : Program} {w w' : World} {G : Gh} {M : Mem} {t : List NV} {a : Act}

theorem flat_im {blk sz : Nat} : ∀ (R : List (List Value)) (o : Nat), (∀ row ∈ R, row.length = sz) → (∀ e row j v, R[e]? = some row → row[j]? = some v → G.im blk (o + e * sz + j) = some v) →
    ∀ k v, R.flatten[k]? = some v → G.im blk (o + k) = some v
  | [], o, _, _, k, v, h => by simp at h
  | r :: R, o, hl, hi, k, v, h => by
    rw [List.flatten_cons] at h
    by_cases hk : k < r.length
    · rw [List.getElem?_append_left hk] at h
      have := hi 0 r k v (by simp) h
      simpa using this
    · rw [List.getElem?_append_right (by omega)] at h
      have hr : r.length = sz := hl r (by simp)
      have := flat_im R (o + sz) (fun row hrow => hl row (by simp [hrow])) (fun e row j v h1 h2 => by
        have := hi (e + 1) row j v (by simpa using h1) h2
        rw [Nat.add_mul, Nat.one_mul] at this
        rw [show o + sz + e * sz + j = o + (e * sz + sz) + j from by omega]; exact this) (k - r.length) v h
      rw [show o + sz + (k - r.length) = o + k from by omega] at this
      exact this

theorem flat_length {α : Type} {sz : Nat} : ∀ (R : List (List α)), (∀ row ∈ R, row.length = sz) → R.flatten.length = R.length * sz
  | [], _ => by simp
  | r :: R, h => by
    rw [List.flatten_cons, List.length_append, h r (by simp), flat_length R (fun row hr => h row (by simp [hr])), List.length_cons, Nat.add_mul]; omega

theorem VRss.flatten {x : List (List NV)} {y : List (List Value)} (h : VRss G x y) : VRs G x.flatten y.flatten := by
  induction x generalizing y with
  | nil => cases h; exact .nil
  | cons a x ih => cases h with | cons h t => rw [List.flatten_cons, List.flatten_cons]; exact h.append (ih t)

theorem VRss.take {x : List (List NV)} {y : List (List Value)} (h : VRss G x y) (n : Nat) : VRss G (x.take n) (y.take n) := by
  induction x generalizing y n with
  | nil => cases h; simp; exact .nil
  | cons a x ih =>
    cases h with
    | cons h t => cases n with
      | zero => simp; exact .nil
      | succ n => simpa using .cons h (ih t n)

theorem VRss.drop {x : List (List NV)} {y : List (List Value)} (h : VRss G x y) (n : Nat) : VRss G (x.drop n) (y.drop n) := by
  induction x generalizing y n with
  | nil => cases h; simp; exact .nil
  | cons a x ih =>
    cases h with
    | cons h t => cases n with
      | zero => simpa using .cons h t
      | succ n => simpa using ih t n

theorem VRss.length {x : List (List NV)} {y : List (List Value)} (h : VRss G x y) : x.length = y.length := by
  induction x generalizing y with
  | nil => cases h; rfl
  | cons a x ih => cases h with | cons h t => simp [ih t]

theorem VRss.row {x : List (List NV)} {y : List (List Value)} (h : VRss G x y) {sz : Nat} (hx : ∀ row ∈ x, row.length = sz) : ∀ row ∈ y, row.length = sz := by
  induction x generalizing y with
  | nil => cases h; simp
  | cons a x ih =>
    cases h with
    | cons h t =>
      intro row hr
      simp only [List.mem_cons] at hr
      rcases hr with rfl | hr
      · rw [← h.length]; exact hx a (by simp)
      · exact ih t (fun r hr' => hx r (by simp [hr'])) row hr

theorem src_ok {sz n : Nat} {x : NV} {X : Value} {new : List NV} (h : srcN M sz x = some (n, new)) (hx : VR G x X) (hM : MRel P G M w) :
    (Builtin.lenOf X).run P w = .ok n w ∧ ∃ news : List Value, (Builtin.firstCells sz n X).run P w = .ok ⟨news⟩ w ∧ VRs G new news ∧ new.length = n * sz := by
  unfold srcN at h
  split at h
  · cases h; cases hx
    exact ⟨rfl, [], rfl, .nil, by simp⟩
  · rename_i id off len ex cap sz'
    split at h
    · rename_i hs
      subst hs
      split at h
      · rename_i hl
        subst hl
        cases h
        cases hx with
        | sl hl ha hs h1 h2 h3 =>
          refine ⟨rfl, [], ?_, .nil, by simp⟩
          simp only [Builtin.firstCells, Nat.zero_mul]
          rfl
      · rename_i hl0
        split at h
        · rename_i c hm
          split at h
          · rename_i hle
            cases h
            obtain ⟨b, sh, bs, C, e, l1, l2, l3, l4, l5⟩ := (hM.obj _ _ hm).cell
            cases hx with
            | sl hl ha hs h1 h2 h3 =>
              rename_i cr ad
              rw [l1] at hl; cases hl
              rw [ha (by omega)]
              have hrun := run_loadCells (P := P) (w := w) b (sh + off) ((C.toList.drop (sh + off)).take (n * sz')) (fun j v hj => by
                rw [cell_of_block l2]
                rw [List.getElem?_take] at hj
                split at hj
                · rw [List.getElem?_drop] at hj; simpa using hj
                · cases hj)
              have hlen : ((C.toList.drop (sh + off)).take (n * sz')).length = n * sz' := by simp; omega
              rw [hlen] at hrun
              exact ⟨rfl, _, hrun, l5 off (n * sz') hle, by simp; omega⟩
          · cases h
        · cases h
    · cases h
  · rename_i sz' rows off len
    split at h
    · rename_i hs
      subst hs
      cases h
      cases hx with
      | rs hr hs hb ha hi hc =>
        rename_i cr rv ad
        have hade : ad = ⟨ad.block, ad.off, none⟩ := by cases ad; simp at ha; subst ha; rfl
        have hrows := hr.row hs
        have hlen : ((rv.drop off).take n).flatten.length = n * sz' := by
          rw [flat_length _ (fun row hrow => hrows row (List.mem_of_mem_drop (List.mem_of_mem_take hrow)))]
          rw [List.length_take, List.length_drop, ← hr.length, Nat.min_eq_left (by omega)]
        have hrun := run_loadCells (P := P) (w := w) ad.block ad.off ((rv.drop off).take n).flatten (fun j v hj => by
          refine hM.im _ _ _ (flat_im (sz := sz') ((rv.drop off).take n) ad.off (fun row hrow => hrows row (List.mem_of_mem_drop (List.mem_of_mem_take hrow))) (fun e row j v h1 h2 => ?_) j v hj)
          rw [List.getElem?_take] at h1
          split at h1
          · rename_i hlt
            rw [List.getElem?_drop] at h1
            have := hi (off + e) row j v (by omega) (by omega) h1 h2
            rwa [show off + e - off = e from by omega] at this
          · cases h1)
        rw [hlen] at hrun
        refine ⟨rfl, _, ?_, ((hr.drop off).take n).flatten, ?_⟩
        · simp only [Builtin.firstCells]; rw [hade]; exact hrun
        · rw [(VRss.flatten ((hr.drop off).take n)).length, hlen]
      | rsn => exact ⟨rfl, [], rfl, by simp; exact .nil, by simp⟩
    · cases h
  · rename_i l
    split at h
    · rename_i hs
      subst hs
      cases h
      cases hx
      refine ⟨rfl, l.map fun b => .int .u8 b.toNat, ?_, VRs.map l (fun c _ => .i _ _), by simp⟩
      simp only [Builtin.firstCells]
      have : ((⟨⟨l⟩⟩ : ByteArray).extract 0 l.length).data = ⟨l⟩ := by
        simp [ByteArray.data_extract, List.extract_eq_take_drop]
      rw [this]
      simp
    · cases h
  · cases h

theorem growBy_le (newLen : Nat) : ∀ (r c : Nat), Builtin.growBy newLen r c ≤ max c (2 * newLen + 192)
  | 0, c => by simp [Builtin.growBy]; omega
  | r + 1, c => by
    simp only [Builtin.growBy]
    split
    · omega
    · have := growBy_le newLen r (c + (c + 768) / 4)
      omega

theorem nextcap_le {need old : Nat} (h : old < need) : Builtin.nextslicecap need old ≤ 2 * need + 192 := by
  unfold Builtin.nextslicecap
  split
  · omega
  · split
    · omega
    · have := growBy_le need 4 old
      omega

def drew1 (w : World) : World := { w with drawn := w.drawn + 1 }

/-- A slice that must grow. -/
theorem app_grow {e : TypeId} {sty xty : TypeId} {xd : TypeDesc} {sz bytes n len cr : Nat} {z : List NV} {b : Option Addr} {X : Value} {olds news : List Value} {argTypes : Array TypeId} {ty : TypeId} (hty : argTypes[0]? = some sty) (hty1 : argTypes[1]? = some xty)
    (hu : P.underlying sty = some (.slice e)) (hux : P.underlying xty = some xd) (hxd : ∀ k, xd ≠ .int k) (he : elemT P e = some (z, sz, bytes)) (hb : bytes ≤ 256)
    (hlen : (Builtin.lenOf X).run P w = .ok n w) (hnew : (Builtin.firstCells sz n X).run P (drew1 w) = .ok ⟨news⟩ (drew1 w)) (hold : (Builtin.firstCells sz len (.slice b len cr)).run P (drew1 w) = .ok ⟨olds⟩ (drew1 w))
    (hneed : cr < len + n) (hsmall : len + n ≤ 2 ^ 30) : ∃ c rest, len + n ≤ c ∧ rest.length = (c - (len + n)) * sz ∧
      (Builtin.append_ argTypes ty #[.slice b len cr, X]).run P w = .ok (.slice (some ⟨w.heap.size, 0, none⟩) (len + n) c) (pushW (drew1 w) (.cells ⟨olds ++ news ++ rest⟩ e)) := by
  obtain ⟨i, v, hi, hzv, hs, hbb, hl, hz⟩ := elemT_inv he
  have hvs : v.cells.size = sz := by rw [← hl]; have := (ofVs_vr (G := ⟨fun _ => none, fun _ _ => none⟩) hz).length; simpa using this.symm
  let q := Question.appendCap (len + n) cr e
  refine ⟨q.cut (w.tape w.drawn q), (Builtin.zeroCells v.cells (q.cut (w.tape w.drawn q) - (len + n))).toList, ?_, by simp [Builtin.zeroCells, hvs], ?_⟩
  · show len + n ≤ (len + n) + _ % _; omega
  · unfold Builtin.append_
    simp only [hty, hty1, List.getElem?_toArray, List.getElem?_cons_zero, List.getElem?_cons_succ]
    rw [rb (r_under hu)]
    simp only
    rw [rb (r_size hi), hs]
    rw [rb (r_under hux)]
    cases xd
    case int k => exact absurd rfl (hxd k)
    all_goals
      rw [rb (r_pure _)]
      simp only [Bool.false_eq_true, if_false, Bool.not_false, if_true]
      rw [rb hlen]
      rw [if_neg (by omega)]
      have hmax : ¬ (((len + n : Nat) : Int) > IntKind.i64.max ∧ (False ∨ i.bytes = 0)) := by
        show ¬ (((len + n : Nat) : Int) > 9223372036854775807 ∧ _)
        omega
      have hcap : ¬ (Builtin.nextslicecap (len + n) cr * i.bytes > 2 ^ 48) := by
        have h1 := nextcap_le hneed
        have h2 : Builtin.nextslicecap (len + n) cr * i.bytes ≤ (2 * (len + n) + 192) * 256 := Nat.mul_le_mul h1 (by omega)
        omega
      have hch : (choose q).run P w = .ok (q.cut (w.tape w.drawn q)) (drew1 w) := rfl
      have hask : ∀ k, (askRoom k).run P (drew1 w) = .ok () (drew1 w) := fun k => by unfold askRoom; split <;> rfl
      rw [rb (r_info hi), if_neg hmax, rb (r_info hi), if_neg hcap, rb hch, rb (r_info hi), rb (hask _), rb hold, rb hnew, rb (r_zero hi hzv), rb run_newRow]
      have harr : (⟨olds⟩ ++ ⟨news⟩ ++ Builtin.zeroCells v.cells (q.cut (w.tape w.drawn q) - (len + n)) : Array Value) = ⟨olds ++ news ++ (Builtin.zeroCells v.cells (q.cut (w.tape w.drawn q) - (len + n))).toList⟩ := by
        apply Array.ext'; simp
      rw [harr]
      rfl

/-- A slice that has room. -/
theorem app_in {e : TypeId} {sty xty : TypeId} {xd : TypeDesc} {sz bytes n len cr : Nat} {z : List NV} {b : Option Addr} {X : Value} {news : List Value} {argTypes : Array TypeId} {ty : TypeId} (hty : argTypes[0]? = some sty) (hty1 : argTypes[1]? = some xty)
    (hu : P.underlying sty = some (.slice e)) (hux : P.underlying xty = some xd) (hxd : ∀ k, xd ≠ .int k) (he : elemT P e = some (z, sz, bytes))
    (hlen : (Builtin.lenOf X).run P w = .ok n w) (hnew : (Builtin.firstCells sz n X).run P w = .ok ⟨news⟩ w)
    (hneed : len + n ≤ cr) (hst : ∀ a, b = some a → (storeCells (a.add (len * sz)) news).run P w = .ok () w') (hb0 : b = none → w' = w) :
      (Builtin.append_ argTypes ty #[.slice b len cr, X]).run P w = .ok (.slice b (len + n) cr) w' := by
  obtain ⟨i, v, hi, hzv, hs, hbb, hl, hz⟩ := elemT_inv he
  unfold Builtin.append_
  simp only [hty, hty1, List.getElem?_toArray, List.getElem?_cons_zero, List.getElem?_cons_succ]
  rw [rb (r_under hu)]
  simp only
  rw [rb (r_size hi), hs]
  rw [rb (r_under hux)]
  cases xd
  case int k => exact absurd rfl (hxd k)
  all_goals
    rw [rb (r_pure _)]
    simp only [Bool.false_eq_true, if_false, Bool.not_false, if_true]
    rw [rb hlen]
    rw [if_pos hneed, rb hnew]
    cases b with
    | none => rw [hb0 rfl]; rfl
    | some a => simp only; rw [rb (hst a rfl)]; rfl

theorem move_list {α : Type} (C news : List α) (p q m : Nat) (hn : news.length = m) (h : p + q ≤ C.length) : ((C.take (p + q) ++ news ++ C.drop (p + q + m)).drop p).take (q + m) = (C.drop p).take q ++ news := by
  rw [drop_splice _ _ _ _ _ h]
  exact List.take_left' (by simp; omega)

theorem storeCells_nil {a : Addr} : (storeCells a []).run P w = .ok () w := rfl

/-- **append.** -/
theorem app_ok {e : TypeId} {sty xty : TypeId} {xd : TypeDesc} {sz bytes id' : Nat} {z : List NV} {s x v : NV} {S X : Value} {M' : Mem} {argTypes : Array TypeId} {ty : TypeId} (hty : argTypes[0]? = some sty) (hty1 : argTypes[1]? = some xty)
    (hu : P.underlying sty = some (.slice e)) (hux : P.underlying xty = some xd) (hxd : ∀ k, xd ≠ .int k) (he : elemT P e = some (z, sz, bytes)) (hb : bytes ≤ 256)
    (hM : MRel P G M w) (hl' : G.loc id' = none) (hm' : M id' = none) (hS : VR G s S) (hX : VR G x X) (h : appN M id' sz s x = some (v, M')) :
    ∃ u w' G', (Builtin.append_ argTypes ty #[S, X]).run P w = .ok u w' ∧ VR G' v u ∧ MRel P G' M' w' ∧ Adv G M w G' M' w' ∧ ∀ j, j ≠ id' → G'.loc j = G.loc j := by
  unfold appN at h
  split at h
  · cases h
  rename_i n new hsrc
  obtain ⟨hlen, news, hnew, hnv, hnl⟩ := src_ok hsrc hX hM
  have hnl' : news.length = n * sz := by rw [← hnv.length, hnl]
  split at h
  · -- nothing to append
    rename_i h0
    subst h0
    have hn0 : news = [] := List.length_eq_zero_iff.1 (by simpa using hnl')
    subst hn0
    have fin : ∀ (b : Option Addr) (len c : Nat), S = .slice b len c → len ≤ c → v = s → M' = M → ∃ u w' G', (Builtin.append_ argTypes ty #[S, X]).run P w = .ok u w' ∧ VR G' v u ∧ MRel P G' M' w' ∧ Adv G M w G' M' w' ∧ ∀ j, j ≠ id' → G'.loc j = G.loc j := by
      intro b len c hSe hle hv hMM
      subst hv; subst hMM
      refine ⟨S, w, G, ?_, hS, hM, Adv.refl hM, fun _ _ => rfl⟩
      rw [hSe]
      exact app_in (w' := w) hty hty1 hu hux hxd he hlen hnew (by omega) (fun a _ => storeCells_nil) (fun _ => rfl)
    split at h
    · cases h; cases hS; exact fin _ _ _ rfl (Nat.le_refl _) rfl rfl
    · cases h; cases hS with
      | sl a1 a2 a3 a4 a5 a6 => exact fin _ _ _ rfl (by omega) rfl rfl
    · cases h
      cases hS with
      | rs b1 b2 b3 b4 b5 b6 => exact fin _ _ _ rfl b6 rfl rfl
      | rsn => exact fin _ _ _ rfl (Nat.le_refl _) rfl rfl
    · cases h
  rename_i hn0
  split at h
  · cases h
  rename_i hplain
  have hplain : new.all NV.plain = true := by simpa using hplain
  have hpl := plain_all hnv hplain
  have hMd : MRel P G M (drew1 w) := hM.congr fun _ => rfl
  obtain ⟨hlen1, news1, hnew1, hnv1, hnl1⟩ := src_ok hsrc hX hMd
  -- a new block
  have grow : ∀ (b : Option Addr) (len cr : Nat) (olds : List Value) (oldn : List NV) (M0 : Mem), S = .slice b len cr → (Builtin.firstCells sz len S).run P (drew1 w) = .ok ⟨olds⟩ (drew1 w) → VRs G oldn olds → oldn.length = len * sz →
      cr < len + n → len + n ≤ 2 ^ 30 → (M0 = M ∨ ∃ id, M0 = upd M id none) →
      v = .sl id' 0 (len + n) false (len + n) sz → M' = upd M0 id' (some (.cells (oldn ++ new))) →
      ∃ u w' G', (Builtin.append_ argTypes ty #[S, X]).run P w = .ok u w' ∧ VR G' v u ∧ MRel P G' M' w' ∧ Adv G M w G' M' w' ∧ ∀ j, j ≠ id' → G'.loc j = G.loc j := by
    intro b len cr olds oldn M0 hSe hold hov hol hneed hsmall hM0 hv hMM
    subst hv
    rw [hSe] at hold
    obtain ⟨c, rest, hc1, hc2, hrun⟩ := app_grow (ty := ty) hty hty1 hu hux hxd he hb hlen hnew1 hold hneed hsmall
    have hM0' : MRel P G M0 (drew1 w) ∧ Adv G M w G M0 (drew1 w) := by
      have ha := Adv.same (w' := drew1 w) hM rfl rfl rfl rfl
      rcases hM0 with rfl | ⟨id, rfl⟩
      · exact ⟨hMd, ha⟩
      · have := hMd.del id; exact ⟨this.1, ha.trans this.2⟩
    have hm0 : M0 id' = none := by
      rcases hM0 with rfl | ⟨id, rfl⟩
      · exact hm'
      · unfold upd; split
        · rfl
        · exact hm'
    -- the ghost's size is the block's own: all of it
    let G' := G.set id' (w.heap.size, 0, (olds ++ news1 ++ rest).length)
    have hle : G.le G' := Gh.set_le hl'
    have hcells : ORel P G' (pushW (drew1 w) (.cells ⟨olds ++ news1 ++ rest⟩ e)) id' (.cells (oldn ++ new)) := by
      refine ⟨w.heap.size, 0, _, _, e, Gh.set_loc, pushW_get, rfl, ?_, ?_⟩
      · have h1 := hov.length
        have h2 := hnv1.length
        simp only [List.length_append, h1, h2]; omega
      · show VRs G' _ (((olds ++ news1 ++ rest).drop 0).take _)
        have h1 := hov.length
        have h2 := hnv1.length
        rw [List.drop_zero, List.append_assoc, List.length_append, h1, h2, ← List.append_assoc, List.take_append_of_le_length (by simp), List.take_of_length_le (by simp)]
        exact (hov.append hnv1).mono hle
    have hnew' := hM0'.1.new (x := (w.heap.size, 0, (olds ++ news1 ++ rest).length)) rfl hl' hm0 hcells
    refine ⟨_, _, G', by rw [hSe]; exact hrun, ?_, by rw [hMM]; exact hnew'.1, by rw [hMM]; exact hM0'.2.trans hnew'.2, fun j hj => Gh.set_ne hj⟩
    refine .sl Gh.set_loc (fun _ => rfl) (fun _ => ?_) (Nat.le_refl _) hc1 (fun hf => by cases hf)
    have h1 := hov.length
    have h2 := hnv1.length
    have h3 : (c - (len + n)) * sz + (len + n) * sz = c * sz := by rw [← Nat.add_mul]; congr 1; omega
    have h4 : (len + n) * sz = len * sz + n * sz := Nat.add_mul _ _ _
    simp only [List.length_append]
    omega
  split at h
  · -- onto nil
    split at h
    · rename_i hsm
      cases h
      cases hS
      exact grow none 0 0 [] [] M rfl rfl .nil (by simp) (by omega) (by omega) (.inl rfl) (by simp) (by simp)
    · cases h
  · rename_i id off len ex cap sz'
    split at h
    · cases h
    rename_i hc
    simp only [not_or, ne_eq, Decidable.not_not, Nat.not_lt] at hc
    obtain ⟨rfl, hsm⟩ := hc
    split at h
    · -- there is room
      rename_i hroom
      split at h
      · rename_i c hmid
        split at h
        · rename_i hle
          cases h
          obtain ⟨b, sh, bs, C, el, l1, l2, l3, l4, l5⟩ := hM.obj _ _ hmid
          cases hS with
          | sl hg ha hs q1 q2 q3 =>
            rename_i b' sh' bs' cr ad
            rw [l1] at hg; cases hg
            have hcr : cr ≠ 0 := by omega
            have hrun := run_storeCells (P := P) news w (sh + (off + len * sz')) 0 C l2 (by rw [hnl']; omega) hpl
            rw [hnl', Nat.add_zero] at hrun
            have hw := ORel.write (P := P) (w := w) l1 l2 l3 l4 l5 hnv hnl (off := off + len * sz') hle
            have hmr := hM.write hmid (by simp [Gh.blk, l1]) hw
            refine ⟨_, _, G, app_in hty hty1 hu hux hxd he hlen hnew (by omega) (fun a hae => ?_) (fun hbn => by cases hbn), ?_, hmr.1, hmr.2, fun _ _ => rfl⟩
            · cases hae
              rw [ha hcr, addr_add, Nat.add_assoc]
              exact hrun
            · exact .sl l1 ha hs (by omega) q2 q3
        · cases h
      · cases h
    · rename_i hroom
      split at h
      · rename_i c hmid
        split at h
        · rename_i hle
          cases h
          obtain ⟨b, sh, bs, C, el, l1, l2, l3, l4, l5⟩ := (hM.obj _ _ hmid).cell
          have hcellsof : (Builtin.firstCells sz' len S).run P (drew1 w) = .ok ⟨(C.toList.drop (sh + off)).take (len * sz')⟩ (drew1 w) := by
            cases hS with
            | sl hg ha hs q1 q2 q3 =>
              rename_i b' sh' bs' cr ad
              rw [l1] at hg; cases hg
              by_cases hl0 : len = 0
              · subst hl0
                simp only [Builtin.firstCells, Nat.zero_mul, List.take_zero]
                rfl
              · rw [ha (by omega)]
                have hrun := run_loadCells (P := P) (w := drew1 w) b (sh + off) ((C.toList.drop (sh + off)).take (len * sz')) (fun j v hj => by
                  rw [cell_of_block (w := drew1 w) l2]
                  rw [List.getElem?_take] at hj
                  split at hj
                  · rw [List.getElem?_drop] at hj; simpa using hj
                  · cases hj)
                have hlen' : ((C.toList.drop (sh + off)).take (len * sz')).length = len * sz' := by simp; omega
                rw [hlen'] at hrun
                exact hrun
          have hol : ((c.drop off).take (len * sz')).length = len * sz' := by simp; omega
          cases hS with
          | sl hg ha hs q1 q2 q3 =>
            rename_i b' sh' bs' cr ad
            rw [l1] at hg; cases hg
            by_cases hcr : cr < len + n
            · refine grow (some ad) len cr _ _ (if ex = true then M else upd M id none) rfl hcellsof (l5 off (len * sz') hle) hol hcr hsm ?_ rfl rfl
              cases ex
              · exact .inr ⟨id, rfl⟩
              · exact .inl rfl
            · -- there is room, unknown to us
              have hex : ex = false := by
                cases ex
                · rfl
                · have := q3 rfl; omega
              subst hex
              simp only [Bool.false_eq_true, if_false]
              have hcr0 : cr ≠ 0 := by omega
              obtain ⟨_, _, _, _, _, m1, m2, m3, m4, m5⟩ := hM.obj _ _ hmid
              rw [l1] at m1; cases m1
              rw [l2] at m2; cases m2
              have hmul : (len + n) * sz' ≤ cr * sz' := Nat.mul_le_mul_right _ (by omega)
              have hfit := hs hcr0
              have hrun := run_storeCells (P := P) news w (sh + (off + len * sz')) 0 C l2 (by rw [hnl', l3]; rw [Nat.add_mul] at hmul; omega) hpl
              rw [hnl', Nat.add_zero] at hrun
              have hb : b < w.heap.size := (Array.getElem?_eq_some_iff.1 l2).1
              have hCl : C.toList.length = bs := by simpa using l3
              have hle' := Gh.set_le (G := G) (id := id') (x := (b, sh + off, bs)) hl'
              have hob : ORel P (G.set id' (b, sh + off, bs)) (putW w b (.cells ⟨C.toList.take (sh + (off + len * sz')) ++ news ++ C.toList.drop (sh + (off + len * sz') + n * sz')⟩ el (0, 0))) id' (.cells ((c.drop off).take (len * sz') ++ new)) := by
                refine ⟨b, sh + off, bs, _, el, Gh.set_loc, putW_heap_same hb, ?_, ?_, ?_⟩
                · show (C.toList.take (sh + (off + len * sz')) ++ news ++ C.toList.drop (sh + (off + len * sz') + n * sz')).length = bs
                  rw [Nat.add_mul] at hmul
                  simp only [List.length_append, List.length_take, List.length_drop, hnl', hCl]; omega
                · rw [Nat.add_mul] at hmul
                  simp only [List.length_append, hol, hnl]; omega
                · show VRs _ _ (((C.toList.take (sh + (off + len * sz')) ++ news ++ C.toList.drop (sh + (off + len * sz') + n * sz')).drop (sh + off)).take _)
                  have hll : ((c.drop off).take (len * sz') ++ new).length = len * sz' + n * sz' := by rw [List.length_append, hol, hnl]
                  rw [hll, show sh + (off + len * sz') = (sh + off) + len * sz' from by omega, move_list _ _ _ _ _ hnl' (by rw [Nat.add_mul] at hmul; omega)]
                  exact ((l5 off (len * sz') hle).append hnv).mono hle'
              have hmv := hM.move hmid (by simp [Gh.blk, l1]) (x := (b, sh + off, bs)) rfl hl' hm' hob
              refine ⟨_, _, _, app_in hty hty1 hu hux hxd he hlen hnew (by omega) (fun a hae => ?_) (fun hbn => by cases hbn), ?_, hmv.1, hmv.2, fun j hj => Gh.set_ne hj⟩
              · cases hae
                rw [ha hcr0, addr_add, Nat.add_assoc]
                exact hrun
              · exact .sl Gh.set_loc (fun h => by rw [ha h]; rfl) (fun h => by have := hs h; omega) (Nat.le_refl _) (by omega) (fun hf => by cases hf)
        · cases h
      · cases h
  · cases h

end
end Go.NL
