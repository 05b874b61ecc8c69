/-
  All operations at once.
-/
import Derived.Test.YtobpahgkkpmpfaaGreatNlY
namespace Go.NL

def NR.valOnly : NR → Prop
  | .val _ | .bad => True
  | _ => False

theorem ofOpt_vo (x : Option NV) : (ofOpt x).valOnly := by cases x <;> trivial

section
variable {P : Program} {w w' : World} {G : Gh} {M : Mem} {t : List NV} {a : Act} {o : Oper} {no : NOp}

theorem ok_val {s : Sem Next} {r : NR} (h : r.valOnly) (hv : ∀ v, r = .val v → ValOk P G w s v) : NR.Ok P G M w s r := by
  cases r <;> simp only [NR.valOnly] at h
  · exact hv _ rfl
  · trivial

theorem builtin_ok (hM : MRel P G M w) (ht : VRs G t a.tmps.toList) {c : Call} (hp : prepCall P c = some no) (ho : o.op = .call c) : NR.Ok P G M w (execOp a.eval o) (nop t no) := by
  unfold prepCall at hp
  split at hp
  · -- len
    rename_i hc
    split at hp
    · rename_i x ty hargs hty
      split at hp
      · rename_i y hu hx; cases hp
        refine ok_val ?_ (fun v hv => val_len0 hu ht hx ho hc hargs hty hv)
        simp only [nop]; split <;> trivial
      · rename_i y hu hx; cases hp
        refine ok_val ?_ (fun v hv => val_len1 hu ht hx ho hc hargs hty hv)
        simp only [nop]; split <;> trivial
      · rename_i y hu hx; cases hp
        generalize hr : nop t (.len 2 y) = r
        have hr0 := hr
        simp only [nop] at hr
        split at hr
        · subst hr; exact val_len2 hu ht hx ho hc hargs hty hr0
        · subst hr; exact fun ob v hm hg => rd_len ht hu hx ho hc hargs hty hr0 (hM.obj _ _ hm) hg
        · subst hr; trivial
      · cases hp
    · cases hp
  · -- append
    rename_i hc
    split at hp
    · rename_i x y ty uy hargs hty
      have fin : ∀ {e xd z sz bytes x' y'}, P.underlying ty = some (.slice e) → P.underlying uy = some xd → (∀ k, xd ≠ .int k) → oO x = some x' → oO y = some y' → elemT P e = some (z, sz, bytes) → bytes ≤ 256 →
          NR.Ok P G M w (execOp a.eval o) (nop t (.app z sz bytes x' y')) := by
        intro e xd z sz bytes x' y' hu hux hxd hx hy he hb id' v M' hl hm happ
        have h0 : c.argTypes[0]? = some ty := by rw [← Array.getElem?_toList, hty]; rfl
        have h1 : c.argTypes[1]? = some uy := by rw [← Array.getElem?_toList, hty]; rfl
        obtain ⟨u, w', G', h2, h3⟩ := app_ok (ty := o.type) h0 h1 hu hux hxd he hb hM hl hm (oO_vr ht hx) (oO_vr ht hy) happ
        refine ⟨u, w', G', bi_run ho hc (fun cs => ?_), h3⟩
        rw [args2 hargs]
        simp only [builtin]
        exact r_v h2
      split at hp
      · rename_i hu hux hx hy
        split at hp
        · rename_i z sz bytes he
          split at hp
          · rename_i hb; cases hp; exact fin hu hux (by simp) hx hy he hb.1
          · cases hp
        · cases hp
      · rename_i hu hux hx hy
        split at hp
        · rename_i z sz bytes he
          split at hp
          · rename_i hb; cases hp; exact fin hu hux (by simp) hx hy he hb.1
          · cases hp
        · cases hp
      · cases hp
    · cases hp
  · -- clear
    rename_i hc
    split at hp
    · rename_i x ty hargs hty
      split at hp
      · rename_i e y hu hx
        split at hp
        · rename_i z sz bytes he
          cases hp
          generalize hr : nop t (.clr z sz y) = r
          have hr0 := hr
          simp only [nop] at hr
          split at hr
          · subst hr; exact val_clr hu ht hx ho hc hargs hty hr0
          · split at hr
            · subst hr; exact val_clr hu ht hx ho hc hargs hty hr0
            · split at hr
              · subst hr; exact fun ob ob' v hm hg => wr_clr hu he ht hx ho hc hargs hty hr0 (hM.obj _ _ hm) hg
              · subst hr; trivial
          · subst hr; trivial
        · cases hp
      · cases hp
    · cases hp
  · rename_i hc
    split at hp
    · rename_i xs hx; cases hp
      exact ok_val (by simp only [nop]; exact ofOpt_vo _) (fun v hv => val_mm (mx := false) ht hx ho hc hv)
    · cases hp
  · rename_i hc
    split at hp
    · rename_i xs hx; cases hp
      exact ok_val (by simp only [nop]; exact ofOpt_vo _) (fun v hv => val_mm (mx := true) ht hx ho hc hv)
    · cases hp
  · rename_i f hc
    split at hp
    · rename_i f' xs hf hx; cases hp
      exact call_ok ht hf hx ho hc
    · cases hp
  · cases hp

theorem op_ok (hM : MRel P G M w) (ht : VRs G t a.tmps.toList) (hp : prepOp P o.op = some no) : NR.Ok P G M w (execOp a.eval o) (nop t no) := by
  cases ho : o.op <;> rw [ho] at hp <;> simp only [prepOp, reduceCtorEq] at hp
  case move x =>
    simp only [Option.map_eq_some_iff] at hp
    obtain ⟨x', hx, rfl⟩ := hp
    exact ok_val (by simp only [nop]; trivial) (fun v hv => val_mov ht hx hv (.inl ho))
  case assign x =>
    simp only [Option.map_eq_some_iff] at hp
    obtain ⟨x', hx, rfl⟩ := hp
    exact ok_val (by simp only [nop]; trivial) (fun v hv => val_mov ht hx hv (.inr ho))
  case pick c x y =>
    split at hp
    · rename_i c' x' y' hc hx hy
      cases hp
      refine ok_val ?_ (fun v hv => by simp only [execOp, ho]; exact val_pick ht hc hx hy hv)
      simp only [nop]; split <;> trivial
    · cases hp
  case alloc e =>
    split at hp
    · rename_i z hz
      split at hp
      · cases hp; exact al_alloc (t := t) hz rfl ho
      · cases hp
    · cases hp
  case box e x =>
    simp only [Option.map_eq_some_iff] at hp
    obtain ⟨x', hx, rfl⟩ := hp
    generalize hr : nop t (.box x') = r
    have hr0 := hr
    simp only [nop] at hr
    split at hr
    · subst hr; exact al_box ht hx hr0 ho
    · subst hr; trivial
  case build ty ps =>
    split at hp
    · rename_i fs z hu hz
      split at hp
      · rename_i r hr
        split at hp
        · rename_i hall; cases hp
          exact ok_val (by simp only [nop]; exact ofOpt_vo _) (fun v hv => val_build_struct ht hu hz hr hall hv ho)
        · cases hp
      · cases hp
    · rename_i n e z hu hz
      split at hp
      · rename_i i hi
        split at hp
        · rename_i r hr; cases hp
          exact ok_val (by simp only [nop]; exact ofOpt_vo _) (fun v hv => val_build_array ht hu hz hi hr hv ho)
        · cases hp
      · cases hp
    · cases hp
  case buildSlice ty len ps =>
    split at hp
    · rename_i e hu
      split at hp
      · rename_i z sz bytes r he hr
        split at hp
        · rename_i hle; cases hp
          generalize hq : nop t (.bslice z sz len r) = q
          have hq0 := hq
          simp only [nop] at hq
          split at hq
          · split at hq
            · subst hq; exact al_bslice ht hu he hr hle hq0 ho
            · subst hq; trivial
          · subst hq; trivial
        · cases hp
      · cases hp
    · cases hp
  case load ty x =>
    split at hp
    · rename_i g i x' hg hi hx
      split at hp
      · rename_i hgs; cases hp
        generalize hr : nop t (.load g i.size x') = r
        have hr0 := hr
        simp only [nop] at hr
        split at hr
        · subst hr; exact fun ob v hm hgo => rd_load ht hg hi hgs hx hr0 (hM.obj _ _ hm) hgo ho
        · rename_i rows e off hb
          rw [← hr]
          exact ok_val (ofOpt_vo _) (fun v hv => val_load_rp ht hg hi hgs hx hM.im (by rw [hr0, ← hr]; exact hv) ho)
        · subst hr; trivial
      · cases hp
    · cases hp
  case store ty x y =>
    split at hp
    · rename_i i x' y' hi hx hy
      cases hp
      generalize hr : nop t (.store i.size x' y') = r
      have hr0 := hr
      simp only [nop] at hr
      split at hr
      · subst hr; exact fun ob ob' v hm hg => wr_store ht hi hx hy hr0 (hM.obj _ _ hm) hg ho
      · subst hr; trivial
    · cases hp
  case nilCheck x =>
    simp only [Option.map_eq_some_iff] at hp
    obtain ⟨x', hx, rfl⟩ := hp
    refine ok_val ?_ (fun v hv => val_nilck ht hx hv ho)
    simp only [nop]; split <;> trivial
  case binOp op ty x y ty' =>
    split at hp
    · rename_i x' y' hx hy
      have ar : some (NOp.arith op x' y') = some no → NR.Ok P G M w (execOp a.eval o) (nop t no) := fun h => by
        cases h
        exact ok_val (by simp only [nop]; exact ofOpt_vo _) (fun v hv => val_arith ht hx hy hv ho)
      have eqq : op = .eql ∨ op = .neq → (match P.underlying ty with
          | some (.int _) | some .string => some (NOp.arith op x' y')
          | _ => match eqShape P ty with
            | some sh => if sh.ofArith then none else some (.eq (op == .neq) sh x' y')
            | none => none) = some no → NR.Ok P G M w (execOp a.eval o) (nop t no) := fun hop h => by
        split at h
        · exact ar h
        · exact ar h
        · split at h
          · rename_i sh hs
            split at h
            · cases h
            · rename_i hna
              cases h
              refine ok_val ?_ (fun v hv => val_eq hop ht hs hx hy (fun k e => by subst e; exact hna rfl) (fun e => by subst e; exact hna rfl) hv ho)
              simp only [nop]; split <;> trivial
          · cases h
      cases op <;> first | exact ar hp | exact eqq (.inl rfl) hp | exact eqq (.inr rfl) hp
    · cases hp
  case unOp op ty x =>
    simp only [Option.map_eq_some_iff] at hp
    obtain ⟨x', hx, rfl⟩ := hp
    exact ok_val (by simp only [nop]; exact ofOpt_vo _) (fun v hv => val_un ht hx hv ho)
  case convert s d x =>
    split at hp
    · rename_i sk k x' hs hd hx
      cases hp
      refine ok_val ?_ (fun v hv => val_conv ht hs hd hx hv ho)
      simp only [nop]; split
      · exact ofOpt_vo _
      · trivial
    · cases hp
  case makeFunc f first cap =>
    cases f <;> simp only [reduceCtorEq] at hp
    split at hp
    · rename_i x' y' hx hy
      cases hp
      exact ok_val (by simp only [nop]; trivial) (fun v hv => val_mkfn ht hx hy hv ho)
    · cases hp
  case makeMap ty r =>
    cases r <;> simp only [reduceCtorEq] at hp
    cases hp
    exact al_mkmap (t := t) rfl ho
  case makeSlice ty l c =>
    split at hp
    · rename_i e l' c' hu hl hc
      split at hp
      · rename_i z sz bytes he
        split at hp
        · cases hp
          generalize hr : nop t (.mksl z sz bytes l' c') = r
          have hr0 := hr
          simp only [nop] at hr
          split at hr
          · split at hr
            · subst hr; exact al_mksl ht hu he hl hc hr0 ho
            · subst hr; trivial
          · subst hr; trivial
        · cases hp
      · cases hp
    · cases hp
  case slice ty x lo hi mx =>
    split at hp
    · rename_i x' lo' hi' hu hx hlo hhi hmx
      cases hp
      rcases oOo_inv hmx with ⟨rfl, _⟩ | ⟨_, _, _, h, _⟩
      · refine ok_val ?_ (fun v hv => val_slS ht hu hx hlo hhi hv ho)
        simp only [nop]; split
        · split
          · trivial
          · split <;> trivial
        · trivial
      · cases h
    · rename_i e x' lo' hi' mx' hu hx hlo hhi hmx
      split at hp
      · rename_i i hie
        split at hp
        · cases hp
        · rename_i hmh
          cases hp
          refine ok_val (by simp only [nop]; exact ofOpt_vo _) (fun v hv => val_slL ht hu hie hx hlo hhi hmx ?_ hv ho)
          cases mx' <;> cases hi' <;> simp_all
      · cases hp
    · cases hp
  case fieldAddr s x k =>
    split at hp
    · rename_i off sz g x' hf hx
      split at hp
      · cases hp
      · rename_i hz
        cases hp
        refine ok_val ?_ (fun v hv => val_faddr ht hf hx hz hv ho)
        simp only [nop]; split <;> trivial
    · cases hp
  case field s x k =>
    split at hp
    · rename_i off sz g x' hf hx
      split at hp
      · rename_i hgs; cases hp
        refine ok_val ?_ (fun v hv => val_fld ht hf hx hgs hv ho)
        simp only [nop]; split
        · exact ofOpt_vo _
        · trivial
      · cases hp
    · cases hp
  case indexAddr ty x k =>
    split at hp
    · rename_i e x' k' hu hx hk
      split at hp
      · rename_i i hi; cases hp
        refine ok_val ?_ (fun v hv => val_iaddr ht hu hi hx hk hv ho)
        simp only [nop]; split
        · split <;> trivial
        · split <;> trivial
        · trivial
      · cases hp
    · rename_i n e x' k' hu hx hk
      split at hp
      · rename_i i hi; cases hp
        refine ok_val ?_ (fun v hv => val_iaddrA ht hu hi hx hk hv ho)
        simp only [nop]; split
        · split <;> trivial
        · split <;> trivial
        · trivial
      · cases hp
    · cases hp
  case index ty x k =>
    split at hp
    · rename_i x' k' hu hx hk
      cases hp
      refine ok_val ?_ (fun v hv => val_idxS ht hu hx hk hv ho)
      simp only [nop]; split
      · split
        · split <;> trivial
        · trivial
      · trivial
    · rename_i n e x' k' hu hx hk
      split at hp
      · rename_i g i hg hi
        split at hp
        · rename_i hgs; cases hp
          refine ok_val ?_ (fun v hv => val_idxA ht hu hi hg hgs hx hk hv ho)
          simp only [nop]; split
          · split
            · exact ofOpt_vo _
            · trivial
          · trivial
        · cases hp
      · cases hp
    · cases hp
  case lookup ty x k ok =>
    split at hp
    · rename_i kt et x' k' hu hx hk
      split at hp
      · rename_i sh i hs hi
        split at hp
        · rename_i zv hz
          split at hp
          · rename_i z hzv
            cases hp
            generalize hr : nop t (.look sh z ok x' k') = r
            have hr0 := hr
            simp only [nop] at hr
            split at hr
            · subst hr; exact fun ob v hm hg => rd_look ht hu hs hi hz (ofC_vr hzv) hx hk hr0 (hM.obj _ _ hm) hg ho
            · rw [← hr]
              exact ok_val (ofOpt_vo _) (fun v hv => val_look_nil ht hu hs hi hz (ofC_vr hzv) hx hk (by rw [hr0, ← hr]; exact hv) ho)
            · subst hr; trivial
          · cases hp
        · cases hp
      · cases hp
    · cases hp
  case mapUpdate ty m k y =>
    split at hp
    · rename_i kt et m' k' y' hu hm hk hy
      split at hp
      · rename_i sh hs
        split at hp
        · rename_i hkey; cases hp
          generalize hr : nop t (.mapup sh m' k' y') = r
          have hr0 := hr
          simp only [nop] at hr
          split at hr
          · subst hr; exact fun ob ob' v hmm hg => wr_mapup ht hu hs (by cases sh <;> simp_all [EqS.key]) hm hk hy hr0 (hM.obj _ _ hmm) hg (.inl ho)
          · subst hr; trivial
        · cases hp
      · cases hp
    · cases hp
  case insert ty m k y =>
    split at hp
    · rename_i kt et m' k' y' hu hm hk hy
      split at hp
      · rename_i sh hs
        split at hp
        · rename_i hkey; cases hp
          generalize hr : nop t (.mapup sh m' k' y') = r
          have hr0 := hr
          simp only [nop] at hr
          split at hr
          · subst hr; exact fun ob ob' v hmm hg => wr_mapup ht hu hs (by cases sh <;> simp_all [EqS.key]) hm hk hy hr0 (hM.obj _ _ hmm) hg (.inr ho)
          · subst hr; trivial
        · cases hp
      · cases hp
    · cases hp
  case mapEntry ty m k =>
    split at hp
    · rename_i kt et m' k' hu hm hk
      split at hp
      · rename_i sh i hs hi
        split at hp
        · rename_i zv hz
          split at hp
          · rename_i z hzv
            split at hp
            · rename_i hkey; cases hp
              generalize hr : nop t (.ment sh z m' k') = r
              have hr0 := hr
              simp only [nop] at hr
              split at hr
              · subst hr; exact fun ob ob' v hmm hg => wr_ment ht hu hs hi hz (ofC_vr hzv) (by cases sh <;> simp_all [EqS.key]) hm hk hr0 (hM.obj _ _ hmm) hg ho
              · subst hr; trivial
            · cases hp
          · cases hp
        · cases hp
      · cases hp
    · cases hp
  case entryStore ty m s y =>
    split at hp
    · rename_i m' s' y' hm hs hy
      cases hp
      generalize hr : nop t (.esto m' s' y') = r
      have hr0 := hr
      simp only [nop] at hr
      split at hr
      · subst hr; exact fun ob ob' v hmm hg => wr_esto ht hm hs hy hr0 (hM.obj _ _ hmm) hg ho
      · subst hr; trivial
    · cases hp
  case extract x k =>
    simp only [Option.map_eq_some_iff] at hp
    obtain ⟨x', hx, rfl⟩ := hp
    refine ok_val ?_ (fun v hv => val_extr ht hx hv ho)
    simp only [nop]; split
    · exact ofOpt_vo _
    · trivial
  case call c => exact builtin_ok hM ht hp ho

end
end Go.NL
