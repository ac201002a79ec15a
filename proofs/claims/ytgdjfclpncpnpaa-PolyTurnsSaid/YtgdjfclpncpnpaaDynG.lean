/-
  OWN WORK. A second symbolic executor, part G: stores into rows; what is built; len; append.
-/
import Derived.Test.YtgdjfclpncpnpaaDynF
namespace Go.Proofs.Ytgdjfclpncpnpaa.Dyn
open Go Go.RowKit Sym

theorem heapSet_ne : ∀ (l : List (Nat × HE)) (h : List (Option HE)) {n : Nat}, (∀ c, (n, c) ∉ l) → (heapSet h l).getD n none = h.getD n none
  | [], _, _, _ => rfl
  | (k, e) :: l, h, n, hn => by
    simp only [heapSet]
    rw [heapSet_ne l _ fun c hc => hn c (by simp [hc]), getD_set'', if_neg fun z => hn e (by simp [z.1])]
theorem setMany_get : ∀ (vs cs : List Value) (off j : Nat), off + vs.length ≤ cs.length → (setMany cs off vs)[j]? = if off ≤ j ∧ j < off + vs.length then vs[j - off]? else cs[j]?
  | [], cs, off, j, _ => by simp only [setMany, List.length_nil]; rw [if_neg (by omega)]
  | v :: vs, cs, off, j, h => by
    simp only [List.length_cons] at h
    simp only [setMany, List.length_cons]
    rw [setMany_get vs _ (off + 1) j (by simp; omega)]
    by_cases e : j = off
    · subst e
      rw [if_neg (by omega), if_pos (by omega), List.getElem?_set, if_pos rfl, if_pos (by omega)]
      simp
    · rw [List.getElem?_set, if_neg (Ne.symm e)]
      by_cases k : off + 1 ≤ j ∧ j < off + 1 + vs.length
      · rw [if_pos k, if_pos (by omega)]
        rw [show j - off = (j - (off + 1)) + 1 by omega, List.getElem?_cons_succ]
      · rw [if_neg k, if_neg (by omega)]
theorem setMany'_get : ∀ (vs cs : List DC) (off j : Nat), off + vs.length ≤ cs.length → (setMany' cs off vs)[j]? = if off ≤ j ∧ j < off + vs.length then vs[j - off]? else cs[j]?
  | [], cs, off, j, _ => by simp only [setMany', List.length_nil]; rw [if_neg (by omega)]
  | v :: vs, cs, off, j, h => by
    simp only [List.length_cons] at h
    simp only [setMany', List.length_cons]
    rw [setMany'_get vs _ (off + 1) j (by simp; omega)]
    by_cases e : j = off
    · subst e
      rw [if_neg (by omega), if_pos (by omega), List.getElem?_set, if_pos rfl, if_pos (by omega)]
      simp
    · rw [List.getElem?_set, if_neg (Ne.symm e)]
      by_cases k : off + 1 ≤ j ∧ j < off + 1 + vs.length
      · rw [if_pos k, if_pos (by omega)]
        rw [show j - off = (j - (off + 1)) + 1 by omega, List.getElem?_cons_succ]
      · rw [if_neg k, if_neg (by omega)]
theorem setMany'_length : ∀ (vs cs : List DC) (off : Nat), (setMany' cs off vs).length = cs.length
  | [], _, _ => rfl
  | v :: vs, cs, off => by simp only [setMany']; rw [setMany'_length vs]; simp

section
variable {P : Program} {w0 : Base P} {w : World} {β : Env} {st : St} {a : Act} {cs : List (Nat × Bool)} {o : Oper} {r : Res} {K : Act → World → Prop} {Q : Exit → Act → World → Prop}

/-- a slice of the call's own has other elements: its block has changed, no other -/
theorem Mem.setRow {h : List (Option HE)} (m : Mem w0 β h w) {n : Nat} {t : TypeId} {k : Nat} {f f' : Nat → List DC} (hn : h.getD n none = some (.own t k f)) {w' : World} {g : Nat} (hg : ((β n).2 0).ownBlock = some g)
    (hk : ∀ q, q ≠ g → w'.heap[q]? = w.heap[q]?) (hs : w'.heap.size = w.heap.size) (ho : w'.os = w.os) (ht : w'.tape = w.tape) (hu : w'.output = w.output)
    (hok : (∀ b, NF w0 β h w b → NF w0 β (h.set n (some (.own t k f'))) w' b ∧ w'.heap[b]? = w.heap[b]?) → HeOk w0 β (NF w0 β (h.set n (some (.own t k f'))) w') w' (β n) (.own t k f')) : Mem w0 β (h.set n (some (.own t k f'))) w' := by
  have hl : n < h.length := by
    rcases Nat.lt_or_ge n h.length with z | z
    · exact z
    · rw [List.getD_eq_getElem?_getD, List.getElem?_eq_none z] at hn; cases hn
  have hat : ∀ q, q ≠ n → (h.set n (some (HE.own t k f'))).getD q none = h.getD q none := fun q hq => by rw [getD_set'', if_neg (fun z => hq z.1.symm)]
  have hatn : (h.set n (some (HE.own t k f'))).getD n none = some (.own t k f') := by rw [getD_set'', if_pos ⟨rfl, hl⟩]
  have hlt := m.ownlt hn (b := g) hg
  have hNF : ∀ b, NF w0 β h w b → NF w0 β (h.set n (some (HE.own t k f'))) w' b ∧ w'.heap[b]? = w.heap[b]? := fun b hN => by
    have hne : b ≠ g := by
      rintro rfl
      rcases hN with z | z
      · have := w0.lt _ z; omega
      · exact z.2.2 n _ hn hg
    refine ⟨?_, hk b hne⟩
    rcases hN with z | ⟨k1, k2, k3⟩
    · exact .inl z
    · refine .inr ⟨k1, by omega, fun q c hq hx => ?_⟩
      by_cases eq : q = n
      · subst eq
        rw [hatn] at hq; simp only [Option.some.injEq] at hq; subst hq
        exact k3 q _ hn hx
      · rw [hat q eq] at hq; exact k3 q c hq hx
  refine m.next (fun q => q = n) (fun _ _ _ _ => rfl) (fun _ _ _ _ _ _ _ => rfl) (fun q c hkc hkn => ?_) hNF (by omega) (fun q c hkc hkn => ?_) (fun q z c d b hkc hq hc hd hkn => ?_) (fun q t' cs'' hkc v hv z hz => ?_) m.one ⟨ho.trans m.below.os, ht.trans m.below.tape, hu.trans m.below.output, by have := m.below.size; omega, fun q hq hL => (hk q (by omega)).trans (m.below.block q hq hL)⟩
  · rw [hat q hkn] at hkc
    refine ⟨hkc, fun b hx => hk b fun e => hkn ?_⟩
    subst e
    exact m.inj q n c _ _ hkc hn hx hg
  · subst hkn
    rw [hatn] at hkc; simp only [Option.some.injEq] at hkc; subst hkc
    exact hok hNF
  · subst hkn
    rw [hatn] at hkc; simp only [Option.some.injEq] at hkc; subst hkc
    by_cases e' : z = q
    · exact e'.symm
    · rw [hat z e'] at hq
      exact m.inj q z _ d b hn hq hc hd
  · have hqn : q ≠ n := fun e => by subst e; rw [hatn] at hkc; cases hkc
    rw [hat q hqn] at hkc
    obtain ⟨c, hc⟩ := m.refs q t' cs'' hkc v hv z hz
    by_cases eq : z = n
    · subst eq; exact ⟨_, hatn⟩
    · exact ⟨c, (hat z eq).trans hc⟩

theorem store_sound {hp : Nat → Option HE} (hhp : ∀ n c, hp n = some c → st.heap.getD n none = some c) {t : TypeId} {x y : Operand} {p : Plc} {u : Value} (m : M w0 β st a w) (hc : holds st.slots cs) (ho : o.op = .store t x y)
    (hp' : plcOf (evS st.slots cs x) = some p) (hu : named (evS st.slots cs y) = some u) (h : storeRes P hp t u p = some r) (hK : ∀ β' u w', Post w0 β st.slots st.heap r u β' w' → K (a.put o.dst u) w') : o.wp P a w K Q := by
  have hd := Den_eval m hc x
  cases p with
  | own n off =>
    obtain ⟨hx, _⟩ := plc_own hd hp'
    simp only [storeRes] at h
    split at h
    · rename_i ty c k hn0 hk
      split at h
      · rename_i hall
        simp only [Option.some.injEq] at h; subst h
        exact store_own hhp m hc ho hx hu hn0 hk hall.1 hall.2.1 hall.2.2 hK
      · cases h
    · cases h
  | ix n off i len size =>
    obtain ⟨⟨hx, h0, h1⟩, _⟩ := plc_ix hd hp'
    simp only [storeRes] at h
    split at h
    · rename_i ty c k hn0 hk
      have hn := hhp n _ hn0
      have hok := m.mem.ok n _ hn
      split at h
      · rename_i hall
        simp only [Bool.and_eq_true, decide_eq_true_eq] at hall
        obtain ⟨⟨⟨hf, hfc⟩, hz, hl, h1c⟩, hfs⟩ := hall
        simp only [Option.some.injEq] at h; subst h
        have hy : a.eval y = u := by rw [(eval_named m hc hu).1, ren_flat hf]
        have hc1 := hok.1
        rw [map_id_of fun y hy => ren0_flat (allB_iff.1 hfc y hy)] at hc1
        have hle : i.toNat ≤ len - 1 := by omega
        have hmul : i.toNat * size ≤ (len - 1) * size := Nat.mul_le_mul_right _ hle
        obtain ⟨w', hr, hb, hrest, hs, g1, g2, g3⟩ := storeVar_run (off := off + i.toNat * size) hc1 hk hz (by omega) h1c
        have hst : storeAll i u.cells.toList off size 0 len c = setMany c (off + i.toNat * size) u.cells.toList := by
          rw [storeAll_spec len 0 c (fun q hq => ?_), if_pos (by omega)]
          have hq' : q * size ≤ (len - 1) * size := Nat.mul_le_mul_right _ (by omega)
          rw [Nat.zero_add, Array.length_toList]
          omega
        rw [← hst] at hb
        refine wp_skip' (w' := w') ?_ (hK β undef w' ⟨fun _ _ _ => rfl, rfl, fun k hk => by simp [names] at hk, m.mem.put hn (fun v hv q hq => ?_) (by rw [map_id_of fun y hy => ren0_flat (allB_iff.1 hfs y hy)]; exact hb) hrest hs g1 g2 g3⟩)
        · simp only [execOp, ho, Instr.storeAt, hy, hx, Instr.sureAddr, Sem.run_bind, Sem.run_pure, Result.andThen_ok, hr]
        · rw [refs0_flat (allB_iff.1 hfs v hv)] at hq; cases hq
      · cases h
    · cases h
  | hp n j off => simp only [storeRes] at h; cases h
  | ex n j off size i =>
    obtain ⟨⟨b, q, len, cap, hs0, hx, h0, h1⟩, _⟩ := plc_ex hd hp'
    simp only [storeRes] at h
    split at h
    · rename_i ty k f mm ds hn0 hk hds
      split at h
      · rename_i l hl
        split at h
        · rename_i hall
          obtain ⟨hz, hfl, hoff, h1c⟩ := hall
          simp only [Option.some.injEq] at h; subst h
          have hn := hhp n _ hn0
          obtain ⟨hy, hr⟩ := eval_named m hc hu
          obtain ⟨k1, k2, k3⟩ := cells_ok m.mem.one h1c
          obtain ⟨f1, f2, f3, f4⟩ := frz_sound (refs u) m.mem (hp := setF hp n .gone) (fun q c hq => by
            unfold setF at hq
            cases hb : Nat.beq q n with
            | true => rw [hb] at hq; simp only [cond_true, Option.some.injEq] at hq; exact .inl hq.symm
            | false => rw [hb] at hq; exact .inr (hhp q c hq)) hl
          have hne : ∀ c, (n, c) ∉ l := fun c hc' => by
            have := (f4 n c hc').2.2
            simp [setF, Nat.beq_refl] at this
          have hn1 : (heapSet st.heap l).getD n none = some (.own ty k f) := by rw [heapSet_ne l _ hne]; exact hn
          obtain ⟨size0, xs, s1, s2, s3, s4⟩ := f1.ok n _ hn1
          rcases s3.2 with ⟨hv, _⟩ | ⟨g, cap', cur, hv, hg, hcur, hle, hcap, hsz, htake⟩
          · rw [hv] at hs0; cases hs0
          · rw [hv] at hs0
            simp only [Value.slice.injEq, Option.some.injEq, Addr.mk.injEq] at hs0
            obtain ⟨⟨rfl, rfl, -⟩, rfl, rfl⟩ := hs0
            have hi : i.toNat < k := by omega
            have esz : size0 = size := by rw [← (s4 _ hi).1, hfl]
            subst esz
            have hbd : (i.toNat + 1) * size0 ≤ k * size0 := Nat.mul_le_mul_right _ hi
            have hbk : k * size0 ≤ cap' * size0 := Nat.mul_le_mul_right _ hle
            rw [Nat.add_mul, Nat.one_mul] at hbd
            have hzr : (ren β u).cells.size = mm := by
              have := congrArg List.length k1
              simp only [Array.length_toList, List.length_map] at this
              rw [this, hz]
            have hcur' : w.heap[g]? = some (.cells cur.toList.toArray ty (0, 0)) := by rw [Array.toArray_toList]; exact hcur
            obtain ⟨w', hrun, hb, hrest, hs, g1, g2, g3⟩ := storeVar_run (u := ren β u) (off := i.toNat * size0 + off) hcur' hk hzr (by rw [Array.length_toList, hsz]; omega) (by rw [k1]; exact k3)
            rw [k1] at hb
            have hvl : (u.cells.toList.map (ren0 β)).length = mm := by rw [List.length_map, Array.length_toList, hz]
            have hdl : ds.length = mm := by rw [(mapO_spec hds).1, Array.length_toList, hz]
            refine wp_skip' (w' := w') ?_ (hK β undef w' ⟨fun _ _ _ => rfl, rfl, fun k hk => by simp [names] at hk, ?_⟩)
            · rw [show 0 + i.toNat * size0 + off = i.toNat * size0 + off by omega] at hx
              simp only [execOp, ho, Instr.storeAt, hy, hx, Instr.sureAddr, Sem.run_bind, Sem.run_pure, Result.andThen_ok, hrun]
            · dsimp only
              rw [heapSet_append]
              simp only [heapSet]
              refine f1.setRow hn1 (g := g) (by rw [hv]; rfl) hrest hs g1 g2 g3 (fun hNF => ?_)
              refine ⟨size0, (setMany cur.toList (i.toNat * size0 + off) (u.cells.toList.map (ren0 β))).take (k * size0), s1, s2, ⟨?_, .inr ⟨g, cap', _, hv, hg, hb, hle, hcap, ?_, ?_⟩⟩, fun j hj => ?_⟩
              · rw [List.length_take, setMany_length, Array.length_toList, hsz]; omega
              · rw [List.size_toArray, setMany_length, Array.length_toList, hsz]
              · rfl
              · have hlj : (updF f i.toNat off ds j).length = size0 := by
                  unfold updF
                  cases Nat.beq j i.toNat with
                  | true => simp only [cond_true]; rw [setMany'_length, (s4 j hj).1]
                  | false => exact (s4 j hj).1
                refine ⟨hlj, fun z hz' => ?_⟩
                have hjk : (j + 1) * size0 ≤ k * size0 := Nat.mul_le_mul_right _ hj
                rw [Nat.add_mul, Nat.one_mul] at hjk
                obtain ⟨v0, v1, v2⟩ := (s4 j hj).2 z hz'
                have v1' : cur.toList[j * size0 + z]? = some v0 := by
                  rw [← htake, List.getElem?_take] at v1
                  split at v1
                  · exact v1
                  · cases v1
                have hget : ((setMany cur.toList (i.toNat * size0 + off) (u.cells.toList.map (ren0 β))).take (k * size0))[j * size0 + z]? = if i.toNat * size0 + off ≤ j * size0 + z ∧ j * size0 + z < i.toNat * size0 + off + mm then (u.cells.toList.map (ren0 β))[j * size0 + z - (i.toNat * size0 + off)]? else some v0 := by
                  rw [List.getElem?_take, if_pos (by omega), setMany_get _ _ _ _ (by rw [hvl, Array.length_toList, hsz]; omega), hvl, v1']
                rw [hget]
                by_cases e : j = i.toNat
                · subst e
                  have hu' : updF f i.toNat off ds i.toNat = setMany' (f i.toNat) off ds := by unfold updF; rw [Nat.beq_refl]; rfl
                  rw [hu', List.getD_eq_getElem?_getD, setMany'_get _ _ _ _ (by rw [hdl, (s4 _ hj).1]; exact hoff), hdl]
                  by_cases e2 : off ≤ z ∧ z < off + mm
                  · rw [if_pos (by omega), if_pos e2]
                    rw [show i.toNat * size0 + z - (i.toNat * size0 + off) = z - off by omega]
                    have hden := toDCs_den (w0 := w0) (β := β) m.mem (hp := hp) (fun q c hq => .inr (hhp q c hq)) (F := NF w0 β (heapSet st.heap l) w) f2 hds (fun c hc' q hq t k f hhe b hbb => (f3 q (k2 c hc' q hq) _ hhe).2 b hbb)
                    obtain ⟨d, hd1⟩ : ∃ d, ds[z - off]? = some d := ⟨_, List.getElem?_eq_getElem (by omega)⟩
                    obtain ⟨v, hv1, hv2⟩ := hden.at_ _ d hd1
                    refine ⟨v, hv1, ?_⟩
                    rw [hd1]
                    exact hv2.mono hNF
                  · rw [if_neg (by omega), if_neg e2]
                    refine ⟨v0, rfl, ?_⟩
                    rw [← List.getD_eq_getElem?_getD]
                    exact v2.mono hNF
                · have hne' : ¬ (i.toNat * size0 + off ≤ j * size0 + z ∧ j * size0 + z < i.toNat * size0 + off + mm) := by
                    rcases Nat.lt_or_gt_of_ne e with lt | lt
                    · have : (j + 1) * size0 ≤ i.toNat * size0 := Nat.mul_le_mul_right _ lt
                      rw [Nat.add_mul, Nat.one_mul] at this
                      omega
                    · have : (i.toNat + 1) * size0 ≤ j * size0 := Nat.mul_le_mul_right _ lt
                      rw [Nat.add_mul, Nat.one_mul] at this
                      omega
                  rw [if_neg hne']
                  refine ⟨v0, rfl, ?_⟩
                  have hu' : updF f i.toNat off ds j = f j := by
                    unfold updF
                    cases hb' : Nat.beq j i.toNat with
                    | true => exact absurd (Nat.eq_of_beq_eq_true hb') e
                    | false => rfl
                  rw [hu']
                  exact v2.mono hNF
        · cases h
      · cases h
    · cases h
end
end Go.Proofs.Ytgdjfclpncpnpaa.Dyn
