/-
  OWN WORK. A second symbolic executor, part K: every operation that 'opRes' takes is sound.
-/
import Derived.Test.YtgdjfclpncpnpaaDynJ
namespace Go.Proofs.Ytgdjfclpncpnpaa.Dyn
open Go Go.RowKit Sym

section
variable {P : Program} {w0 : Base P} {w : World} {β : Env} {st : St} {a : Act} {cs : List (Nat × Bool)} {o : Oper} {r : Res} {K : Act → World → Prop} {Q : Exit → Act → World → Prop}

/-- a call by its contract over plain values -/
theorem callFlat_sound {X : Tabs} (ht : TabsOk P X) {F : Nat} {vs : List Value} {u : Value} {ps : List Prop} (m : M w0 β st a w) (hrun : (execOp a.eval o).run P w = (callFunc F vs.toArray).run P w) (h : X.tb F vs = some (u, ps)) (hf : flat u = true) (hs : allP ps)
    (hK : ∀ β' v w', Post w0 β st.slots st.heap { val := .v u, upd := [], sides := ps } v β' w' → K (a.put o.dst v) w') : o.wp P a w K Q := by
  have hcall := ht.tb F vs u ps h hs w
  have hpost : ∀ w', Below w.heap.size w w' → Post w0 β st.slots st.heap { val := .v u, upd := [], sides := ps } u β w' := fun w' hb =>
    ⟨fun _ _ _ => rfl, (ren_flat hf).symm, fun k hk => (by simp only [names] at hk; rw [refs_flat hf] at hk; cases hk), m.mem.call hb⟩
  unfold Oper.wp
  rw [hrun]
  split at hcall
  · rename_i u' w' hr
    rw [hr]
    obtain ⟨rfl, hb⟩ := hcall
    exact hK β _ w' (hpost w' hb)
  · rename_i f' as w' hr
    rw [hr]
    obtain ⟨rfl, hcs⟩ := hcall
    exact hcs.mono fun e w'' ⟨he, hb⟩ => by subst he; exact hK β _ w'' (hpost w'' hb)
  · exact hcall.elim

theorem opRes_sound {X : Tabs} (ht : TabsOk P X) {fresh : Nat} (m : M w0 β st a w) (hc : holds st.slots cs) (hfr : makes X o = true → fresh < st.heap.length ∧ st.heap.getD fresh none = none)
    {hp : Nat → Option HE} (hhp : ∀ n c, hp n = some c → st.heap.getD n none = some c)
    (h : opRes P X (evS st.slots) hp fresh cs o = some r) (hs : allP r.sides) (hK : ∀ β' u w', Post w0 β st.slots st.heap r u β' w' → K (a.put o.dst u) w') : o.wp P a w K Q := by
  unfold opRes at h
  split at h
  · rename_i c x y ho
    exact pick_sound m hc h ho hK
  · rename_i x ho
    simp only [Option.some.injEq] at h; subst h
    exact wp_value (u := a.eval x) (by simp only [execOp, ho, Sem.run_pure]) (hK β _ w (Post.same m rfl (Den_eval m hc x) (fun k hk => names_ev m hk)))
  · rename_i x ho
    simp only [Option.some.injEq] at h; subst h
    exact wp_value (u := a.eval x) (by simp only [execOp, ho, Sem.run_pure]) (hK β _ w (Post.same m rfl (Den_eval m hc x) (fun k hk => names_ev m hk)))
  · rename_i t ho
    obtain ⟨hf, hn⟩ := hfr (by simp [makes, ho])
    split at h
    · rename_i z hz
      split at h
      · rename_i hfl
        simp only [Option.some.injEq] at h; subst h
        exact alloc_sound m hf hn ho hz hfl hK
      · cases h
    · cases h
  · rename_i t x ho
    obtain ⟨hf, hn⟩ := hfr (by simp [makes, ho])
    split at h
    · rename_i u hu
      split at h
      · rename_i h1
        simp only [Option.some.injEq] at h; subst h
        exact box_sound m hc hf hn ho hu h1 hK
      · cases h
    · cases h
  · rename_i t x ho
    split at h
    · rename_i p hp'
      exact load_sound hhp m hc ho (fun hd => hfr (by simp [makes, ho, hd])) hp' h hK
    · cases h
  · rename_i t x y ho
    split at h
    · rename_i p u hp' hu
      exact store_sound hhp m hc ho hp' hu h hK
    · cases h
  · rename_i s x f ho
    exact field_sound hhp m hc h ho hK
  · rename_i t x y ho
    exact index_sound hhp m hc h hs ho hK
  · rename_i t parts ho
    split at h
    · rename_i vs fields z hv hu hz
      split at h
      · rename_i places hpl
        split at h
        · rename_i hall
          simp only [Bool.and_eq_true] at hall
          split at h
          · rename_i cells hfill
            simp only [Option.some.injEq] at h; subst h
            exact build_sound m hc ho hv hu hz hpl hall.1 hall.2 hfill hK
          · cases h
        · cases h
      · cases h
    · cases h
  · rename_i x i ho
    split at h
    · rename_i vs hx
      split at h
      · cases h
      · rename_i u hnt hi
        simp only [Option.some.injEq] at h; subst h
        exact extract_sound m hc ho hx hi (fun q e => hnt q e) hK
      · cases h
    · exact plainRes_sound m hc h hK
  · rename_i t x f ho
    split at h
    · rename_i vs fd hx hfd
      split at h
      · rename_i u hu
        split at h
        · rename_i h1
          simp only [Option.some.injEq] at h; subst h
          exact fieldV_sound m hc ho hx hfd hu h1 hK
        · cases h
      · cases h
    · cases h
  · rename_i F first caps ho
    split at h
    · rename_i vs hf hv
      split at h
      · rename_i hall
        simp only [Bool.and_eq_true] at hall
        simp only [Option.some.injEq] at h; subst h
        exact makeFunc_sound m hc ho hf hv hall.1 hall.2 hK
      · cases h
    · cases h
  · rename_i t len parts ho
    obtain ⟨hf, hn⟩ := hfr (by simp [makes, ho])
    split at h
    · rename_i e vs he hv
      split at h
      · rename_i size z hsz hz
        split at h
        · cases h
        · rename_i hb
          split at h
          · cases h
          · rename_i hb0
            split at h
            · rename_i hall
              simp only [Bool.and_eq_true] at hall
              split at h
              · rename_i cells hfill
                split at h
                · rename_i ds l hds hl
                  simp only [Option.some.injEq] at h; subst h
                  exact buildSlice_sound hhp m hc hf hn ho he hv hsz hz hb hb0 hall.1 hall.2 hfill hds hl hK
                · cases h
              · cases h
            · cases h
      · cases h
    · cases h
  · rename_i t x y ho
    obtain ⟨hf, hn⟩ := hfr (by simp [makes, ho])
    split at h
    · rename_i e ki i kj j he hx hy
      split at h
      · rename_i size b ds hsz hb hz
        split at h
        · rename_i hl
          simp only [Option.some.injEq] at h; subst h
          exact makeSlice_sound m hc hf hn ho he hx hy hsz hb hz hl hs.1 (fun β' u w' sides hp => hK β' u w' ⟨hp.keep, hp.den, hp.nm, hp.mem⟩)
        · cases h
      · cases h
    · cases h
  · rename_i args argTypes ho
    split at h
    · rename_i x t ha hat
      split at h
      · rename_i ad n c e hx he
        split at h
        · rename_i k f hr
          simp only [Option.some.injEq] at h; subst h
          have hd := Den_eval m hc x
          rw [hx] at hd
          exact len_sound hhp m ho ha hat hd he hr (hK β _ w (Post.same m rfl rfl (fun k hk => by simp [names, refs, refs1, refs0, refsP] at hk)))
        · cases h
      · rename_i e hx he
        simp only [Option.some.injEq] at h; subst h
        have hd := Den_eval m hc x
        rw [hx] at hd
        exact len_sound (u := .slice none 0 0) (k := 0) (f := fun _ => []) hhp m ho ha hat hd he rfl (hK β _ w (Post.same m rfl rfl (fun k hk => by simp [names] at hk)))
      · rename_i e hx he
        simp only [Option.some.injEq] at h; subst h
        have hd := Den_eval m hc x
        rw [hx] at hd
        exact len_sound (u := .slice none 0 0) (k := 0) (f := fun _ => []) hhp m ho ha hat hd he rfl (hK β _ w (Post.same m rfl rfl (fun k hk => by simp [names] at hk)))
      · exact plainRes_sound m hc h hK
    · cases h
  · rename_i args argTypes ho
    obtain ⟨hf, hn⟩ := hfr (by simp [makes, isDeepCall, ho])
    split at h
    · rename_i x y t t' ha hat
      split at h
      · rename_i u v e hx hy he
        split at h
        · rename_i htt
          subst htt
          split at h
          · rename_i n f l k g size b z hown hrow hsz hb hz
            split at h
            · rename_i hall
              split at h
              · rename_i l' hl
                simp only [Option.some.injEq] at h; subst h
                exact append_sound hhp m hc hf hn ho ha hat hx hy he hown hrow hsz hb hz hall.1 hall.2 hl hs.1.1 hs.1.2 (fun β' u w' sides hp => hK β' u w' ⟨hp.keep, hp.den, hp.nm, hp.mem⟩)
              · cases h
            · cases h
          · cases h
        · cases h
      · cases h
    · cases h
  · rename_i F args ts ho
    split at h
    · rename_i u ps hq
      split at h
      · rename_i hfl
        simp only [Option.some.injEq] at h; subst h
        split at hq
        · rename_i vs hvs
          refine callFlat_sound ht m ?_ hq hfl hs hK
          have hargs : args.map a.eval = vs.toArray := by
            obtain ⟨h1, h2⟩ := plains_spec hvs
            apply Array.ext'
            rw [Array.toList_map, h1]
            exact List.map_congr_left fun x hx => eval_plain m hc (h2 x hx)
          simp only [execOp, ho, Go.resolve, Deferred.ofValue, Act.eval, Sem.run_bind, Sem.run_pure, Result.andThen_ok, invoke, hargs]
          simp
        · cases hq
      · cases h
    · split at h
      · rename_i vs hvs
        refine callAll_sound ht hhp m (fun hd => hfr (by simp [makes, isDeepCall, ho, hd])) ?_ h hs hK
        have hargs : args.map a.eval = (vs.map (ren β)).toArray := by
          apply Array.ext'
          rw [Array.toList_map, (nameds_spec m hc hvs).1]
        simp only [execOp, ho, Go.resolve, Deferred.ofValue, Act.eval, Sem.run_bind, Sem.run_pure, Result.andThen_ok, invoke, hargs]
        simp
      · cases h
  · rename_i t args ts ho
    have hd := Den_eval m hc (.tmp t)
    split at h
    · rename_i F fst caps vs hx hvs
      rw [hx] at hd
      split at h
      · rename_i hf hdr
        split at h
        · rename_i hall
          simp only [Bool.and_eq_true] at hall
          have hargs : args.map a.eval = (vs.map (ren β)).toArray := by
            apply Array.ext'
            rw [Array.toList_map, (nameds_spec m hc hvs).1]
          have hcaps : (caps.toList.map (renP β)) = caps.toList.map (ren β) := List.map_congr_left fun v hv => by
            have a1 := List.all_eq_true.1 hall.1 v hv
            have a2 := List.all_eq_true.1 hall.2 v hv
            cases v <;> first | rfl | (simp at a2; done) | (cases a1; done)
          have hfst : fst = #[] := by apply Array.ext'; rw [hf]
          subst hfst
          have hev : a.eval (.tmp t) = .func (.func F) #[] (caps.toList.map (ren β)).toArray := by
            rw [← hcaps]; exact hd
          refine callAll_sound ht hhp m (fun hd' => hfr (by rw [hd'] at hdr; simp [makes, isDeepCall, ho, hdr])) ?_ h hs hK
          simp only [execOp, ho, Go.resolve, Deferred.ofValue, hev, Sem.run_bind, Sem.run_pure, Result.andThen_ok, invoke, hargs]
          simp
        · cases h
      · cases h
    · rename_i F fst caps vs hx hvs
      rw [hx] at hd
      split at h
      · rename_i hf hcp hdr
        have hfst : fst = #[] := by apply Array.ext'; rw [hf]
        have hcap : caps = #[] := by apply Array.ext'; rw [hcp]
        subst hfst; subst hcap
        have hev : a.eval (.tmp t) = .func (.func F) #[] #[] := hd
        split at h
        · rename_i u ps hq
          split at h
          · rename_i hfl
            simp only [Option.some.injEq] at h; subst h
            split at hq
            · rename_i ws hws
              refine callFlat_sound ht m ?_ hq hfl hs hK
              have hargs : args.map a.eval = ws.toArray := by
                obtain ⟨h1, h2⟩ := plains_spec hws
                apply Array.ext'
                rw [Array.toList_map, h1]
                exact List.map_congr_left fun x hx => eval_plain m hc (h2 x hx)
              simp only [execOp, ho, Go.resolve, Deferred.ofValue, hev, Sem.run_bind, Sem.run_pure, Result.andThen_ok, invoke, hargs]
              simp
            · cases hq
          · cases h
        · refine callAny_sound ht hhp m (fun hd' => by rw [hdr] at hd'; cases hd') ?_ h hs hK
          have hargs : args.map a.eval = (vs.map (ren β)).toArray := by
            apply Array.ext'
            rw [Array.toList_map, (nameds_spec m hc hvs).1]
          simp only [execOp, ho, Go.resolve, Deferred.ofValue, hev, Sem.run_bind, Sem.run_pure, Result.andThen_ok, invoke, hargs]
          simp
      · cases h
    · cases h
  · rename_i op t x y ty ho
    have key : ∀ (q : BinOp) (i j : Int) (k k' : IntKind) (u : Value), (q = .quo ∨ q = .rem) → op = q → plain (evS st.slots cs x) = some (.int k i) → plain (evS st.slots cs y) = some (.int k' j) → k = k' → flat u = true →
        (Op.intDiv q k i j).run P w = .ok u w → r = { val := .v u, upd := [], sides := [j ≠ 0] } → o.wp P a w K Q := by
      intro q i j k k' u hq he hx hy hk hfu hrun hr
      subst hr; subst he; subst hk
      refine wp_value (u := u) ?_ (hK β _ w (Post.same m rfl (ren_flat hfu).symm (fun k hk => by simp only [names] at hk; rw [refs_flat hfu] at hk; cases hk)))
      rcases hq with rfl | rfl <;> simp only [execOp, ho, eval_plain m hc hx, eval_plain m hc hy, binOp, eqGuard, Sem.run_bind, Sem.run_pure, ne_eq, not_true_eq_false, if_false] <;> simp [hrun]
    split at h
    · rename_i k i k' j hx hy _
      split at h
      · rename_i hk
        simp only [Option.some.injEq] at h
        refine key .quo i j k k' (.int k (k.wrap (i.tdiv j))) (.inl rfl) rfl hx hy hk rfl ?_ h.symm
        have hj : j ≠ 0 := by subst h; exact hs.1
        simp only [Op.intDiv, hj, if_false, Sem.run_pure]
      · cases h
    · rename_i k i k' j hx hy _
      split at h
      · rename_i hk
        simp only [Option.some.injEq] at h
        refine key .rem i j k k' (.int k (i.tmod j)) (.inr rfl) rfl hx hy hk rfl ?_ h.symm
        have hj : j ≠ 0 := by subst h; exact hs.1
        simp only [Op.intDiv, hj, if_false, Sem.run_pure]
      · cases h
    · rename_i u v hx hy
      split at h
      · rename_i b hb
        simp only [Option.some.injEq] at h; subst h
        refine wp_value (u := .bool b) ?_ (hK β _ w (Post.same m rfl rfl (fun k hk => by simp [names, refs, refs1, refs0, refsP] at hk)))
        simp only [execOp, ho, eval_plain m hc hx, eval_plain m hc hy, Sem.run_bind, eqOf_guard hb, Result.andThen_ok, run_eql_struct, eqOf_run hb, Sem.run_pure]
      · cases h
    · rename_i u v hx hy
      split at h
      · rename_i b hb
        simp only [Option.some.injEq] at h; subst h
        refine wp_value (u := .bool (!b)) ?_ (hK β _ w (Post.same m rfl rfl (fun k hk => by simp [names, refs, refs1, refs0, refsP] at hk)))
        simp only [execOp, ho, eval_plain m hc hx, eval_plain m hc hy, Sem.run_bind, eqOf_guard hb, Result.andThen_ok, run_neq_struct, eqOf_run hb, Sem.run_pure]
      · cases h
    · exact plainRes_sound m hc h hK
  · exact plainRes_sound m hc h hK
end
end Go.Proofs.Ytgdjfclpncpnpaa.Dyn
