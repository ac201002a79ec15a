/-
  OWN WORK. A second symbolic executor, part D: what one operation gives is what it does: reading, writing, making.
-/
import Derived.Test.YtgdjfclpncpnpaaDynC
namespace Go.Proofs.Ytgdjfclpncpnpaa.Dyn
open Go Go.RowKit Sym

section
variable {P : Program} {w0 : Base P} {w : World} {β : Env} {h : List (Option HE)}

/-! ### cells that are told -/
theorem instC_length (fresh : Nat) : ∀ (ds : List DC) (j : Nat), (instC fresh j ds).length = ds.length
  | [], _ => rfl
  | .p _ :: l, j => by simp only [instC, List.length_cons]; rw [instC_length fresh l]
  | .row _ _ :: l, j => by simp only [instC, List.length_cons]; rw [instC_length fresh l]
  | .ptr _ :: l, j => by simp only [instC, List.length_cons]; rw [instC_length fresh l]
theorem inst_ren {N : Nat → Prop} {fresh : Nat} {β : Env} : ∀ (ds : List DC) (us : List Value) (j : Nat), DenL w N ds us → pOk ds = true → (∀ i u, us[i]? = some u → (β fresh).2 (j + i) = u) → (instC fresh j ds).map (ren0 β) = us
  | [], [], _, _, _, _ => rfl
  | [], _ :: _, _, k, _, _ => k.elim
  | _ :: _, [], _, k, _, _ => k.elim
  | d :: ds, u :: us, j, k, hp, hr => by
    have h0 : (β fresh).2 j = u := hr 0 u rfl
    have ih := fun hp => inst_ren (β := β) (fresh := fresh) ds us (j + 1) k.2 hp fun i v hv => by have := hr (i + 1) v (by simpa using hv); rwa [show j + 1 + i = j + (i + 1) by omega]
    cases d with
    | p x =>
      simp only [pOk] at hp
      split at hp
      · rename_i hf
        simp only [instC, List.map_cons]
        rw [ih hp, ren0_flat hf]
        cases k.1; rfl
      · cases hp
    | row n f =>
      simp only [instC, List.map_cons]
      rw [ih hp]
      show (β fresh).2 j :: us = _
      rw [h0]
    | ptr cs =>
      simp only [instC, List.map_cons]
      rw [ih hp]
      show (β fresh).2 j :: us = _
      rw [h0]
theorem inst_refs {fresh : Nat} : ∀ (ds : List DC) (j : Nat), pOk ds = true → ∀ y ∈ instC fresh j ds, ∀ k ∈ refs0 y, k = fresh ∧ flatD ds = false
  | [], _, _, y, hy, _, _ => by cases hy
  | d :: ds, j, hp, y, hy, k, hk => by
    have ih := fun hp => inst_refs (fresh := fresh) ds (j + 1) hp y
    cases d with
    | p x =>
      simp only [pOk] at hp
      split at hp
      · rename_i hf
        simp only [instC, List.mem_cons] at hy
        rcases hy with rfl | hy
        · rw [refs0_flat hf] at hk; cases hk
        · exact ih hp hy k hk
      · cases hp
    | row n f =>
      simp only [instC, List.mem_cons] at hy
      rcases hy with rfl | hy
      · simp only [refs0, refsP, List.mem_singleton] at hk; exact ⟨hk, rfl⟩
      · exact ⟨(ih hp hy k hk).1, rfl⟩
    | ptr cs =>
      simp only [instC, List.mem_cons] at hy
      rcases hy with rfl | hy
      · simp only [refs0, refsP, List.mem_singleton] at hk; exact ⟨hk, rfl⟩
      · exact ⟨(ih hp hy k hk).1, rfl⟩
theorem inst_flat {N : Nat → Prop} {fresh : Nat} {β : Env} : ∀ (ds : List DC) (us : List Value) (j : Nat), DenL w N ds us → pOk ds = true → flatD ds = true → (instC fresh j ds).map (ren0 β) = us
  | [], [], _, _, _, _ => rfl
  | [], _ :: _, _, k, _, _ => k.elim
  | _ :: _, [], _, k, _, _ => k.elim
  | d :: ds, u :: us, j, k, hp, hf => by
    cases d with
    | p x =>
      simp only [pOk] at hp
      split at hp
      · rename_i hx
        simp only [instC, List.map_cons]
        rw [inst_flat ds us (j + 1) k.2 hp hf, ren0_flat hx]
        cases k.1; rfl
      · cases hp
    | row n f => cases hf
    | ptr cs => cases hf

theorem heapSet_append : ∀ (a b : List (Nat × HE)) (h : List (Option HE)), heapSet h (a ++ b) = heapSet (heapSet h a) b
  | [], _, _ => rfl
  | _ :: a, b, _ => heapSet_append a b _
theorem heapSet_length : ∀ (a : List (Nat × HE)) (h : List (Option HE)), (heapSet h a).length = h.length
  | [], _ => rfl
  | (n, c) :: a, h => by simp only [heapSet]; rw [heapSet_length a]; simp
theorem heapSet_some : ∀ (a : List (Nat × HE)) (h : List (Option HE)) {n : Nat} {c : HE}, h.getD n none = some c → ∃ d, (heapSet h a).getD n none = some d
  | [], _, _, c, hn => ⟨c, hn⟩
  | (k, e) :: a, h, n, c, hn => by
    simp only [heapSet]
    by_cases hk : k = n ∧ k < h.length
    · exact heapSet_some a _ (c := e) (by rw [getD_set'', if_pos hk])
    · exact heapSet_some a _ (c := c) (by rw [getD_set'', if_neg hk]; exact hn)
theorem heapSet_none : ∀ (a : List (Nat × HE)) (h : List (Option HE)) {n : Nat}, h.getD n none = none → (∀ c, (n, c) ∉ a) → (heapSet h a).getD n none = none
  | [], _, _, hn, _ => hn
  | (k, e) :: a, h, n, hn, hq => by
    simp only [heapSet]
    refine heapSet_none a _ ?_ fun c hc => hq c (by simp [hc])
    rw [getD_set'', if_neg fun z => hq e (by simp [z.1])]; exact hn

/-- cells that are told, at a fresh name if there is a need for one -/
theorem inst_mem (m : Mem w0 β h w) {fresh : Nat} {ds : List DC} {us : List Value} (hfr : flatD ds = false → fresh < h.length ∧ h.getD fresh none = none) (hd : DenL w (NF w0 β h w) ds us) (hp : pOk ds = true) :
    ∃ β', (∀ n c, h.getD n none = some c → β' n = β n) ∧ Mem w0 β' (heapSet h (updD fresh ds)) w ∧ (∀ j, (j = 0) → (instC fresh j ds).map (ren0 β') = us) ∧ (∀ y ∈ instC fresh 0 ds, ∀ k ∈ refs0 y, ∃ c, (heapSet h (updD fresh ds)).getD k none = some c) ∧ (flatD ds = false → ∀ i u, us[i]? = some u → (β' fresh).2 i = u) := by
  cases hf : flatD ds with
  | true =>
    simp only [updD, hf]
    exact ⟨β, fun _ _ _ => rfl, m, fun j _ => inst_flat ds us j hd hp hf, fun y hy k hk => (by have := (inst_refs ds 0 hp y hy k hk).2; rw [hf] at this; cases this), fun z => by cases z⟩
  | false =>
    obtain ⟨hl, hn⟩ := hfr hf
    simp only [updD, hf]
    have hat : ∀ i u, us[i]? = some u → (bump β fresh (0, fun j => us.getD j (.bool false)) fresh).2 i = u := fun i u hu => by
      rw [bump_at]; show us.getD i _ = u; rw [List.getD_eq_getElem?_getD, hu]; rfl
    refine ⟨bump β fresh (0, fun j => us.getD j (.bool false)), fun n c hc => bump_ne fun e => ?_, ?_, ?_, fun y hy k hk => ?_, fun _ => hat⟩
    · rw [e, hn] at hc; cases hc
    · refine m.view hl hn ds _ (fun j => ?_) (fun j d hj => ?_)
      · rw [List.getD_eq_getElem?_getD]
        cases hu : us[j]? with
        | none => rfl
        | some u =>
          have hlt : j < ds.length := by rw [← hd.length]; exact (List.getElem?_eq_some_iff.1 hu).1
          obtain ⟨u', h1, h2⟩ := hd.at_ j _ (List.getElem?_eq_getElem hlt)
          rw [hu] at h1; simp only [Option.some.injEq] at h1; subst h1
          exact h2.one
      · obtain ⟨u, h1, h2⟩ := hd.at_ j d hj
        rw [List.getD_eq_getElem?_getD, h1]; exact h2
    · intro j hj
      subst hj
      exact inst_ren ds us 0 hd hp fun i u hu => by rw [Nat.zero_add]; exact hat i u hu
    · obtain ⟨rfl, _⟩ := inst_refs ds 0 hp y hy k hk
      exact ⟨_, by simp only [heapSet]; rw [getD_set'', if_pos ⟨rfl, hl⟩]⟩

/-! ### rows -/
/-- an element of a row -/
theorem row_elem (m : Mem w0 β h w) {hp : Nat → Option HE} (hhp : ∀ n c, hp n = some c → h.getD n none = some c) {n j k : Nat} {f : Nat → List DC} (hr : rowAt hp n j = some (k, f)) :
    ((∃ oa cap, (β n).2 j = .slice oa 0 cap) ∧ k = 0) ∨ ∃ b o cap size, (β n).2 j = .slice (some ⟨b, o, none⟩) k cap ∧ ∀ i, i < k → (f i).length = size ∧ ∃ us, DenL w (NF w0 β h w) (f i) us ∧ ∀ q u, us[q]? = some u → w.cell? ⟨b, o + i * size + q, none⟩ = some u := by
  unfold rowAt at hr
  split at hr
  · rename_i ds hn
    have hk := m.ok n _ (hhp n _ hn)
    split at hr
    · rename_i k' f' hj
      simp only [Option.some.injEq, Prod.mk.injEq] at hr
      obtain ⟨rfl, rfl⟩ := hr
      have hd := hk j _ hj
      generalize (β n).2 j = u at hd
      cases hd with
      | nil f oa cap => exact .inl ⟨⟨oa, cap, rfl⟩, rfl⟩
      | row n f b off cap size g hF hc hg =>
        refine .inr ⟨b, off, cap, size, rfl, fun i hi => ⟨(hc i hi).1, (List.range size).map (g i), DenL.of (by simp [(hc i hi).1]) (fun q d hq => ?_), fun q u hq => ?_⟩⟩
        · have hlt : q < size := by rw [← (hc i hi).1]; exact (List.getElem?_eq_some_iff.1 hq).1
          refine ⟨g i q, by simp [hlt], ?_⟩
          have := hg i q hi hlt
          rw [List.getD_eq_getElem?_getD, hq] at this
          exact this
        · rw [List.getElem?_map] at hq
          have hlt : q < size := by
            rcases Nat.lt_or_ge q size with z | z
            · exact z
            · rw [List.getElem?_eq_none (by simpa using z)] at hq; cases hq
          rw [List.getElem?_range hlt] at hq
          simp only [Option.map_some, Option.some.injEq] at hq; subst hq
          exact (hc i hi).2 q hlt
    · cases hr
  · rename_i t k' f' hn
    have hk := m.ok n _ (hhp n _ hn)
    split at hr
    · simp only [Option.some.injEq, Prod.mk.injEq] at hr
      obtain ⟨rfl, rfl⟩ := hr
      obtain ⟨size, xs, h1, h2, h3, h4⟩ := hk
      rcases h3.2 with ⟨hv, hz⟩ | ⟨g, cap, cur, hv, hg, hc, hle, hcap, hsz, htake⟩
      · exact .inl ⟨⟨none, 0, hv⟩, hz⟩
      · refine .inr ⟨g, 0, cap, size, hv, fun i hi => ⟨(h4 i hi).1, (xs.drop (i * size)).take size, ?_, fun q u hq => ?_⟩⟩
        · refine DenL.of ?_ fun q d hq => ?_
          · rw [(h4 i hi).1, List.length_take, List.length_drop, h3.1]
            have : (i + 1) * size ≤ k' * size := Nat.mul_le_mul_right _ hi
            rw [Nat.add_mul] at this
            omega
          · have hlt : q < size := by rw [← (h4 i hi).1]; exact (List.getElem?_eq_some_iff.1 hq).1
            obtain ⟨v, hv', hd⟩ := (h4 i hi).2 q hlt
            refine ⟨v, by rw [List.getElem?_take, if_pos hlt, List.getElem?_drop]; exact hv', ?_⟩
            rw [List.getD_eq_getElem?_getD, hq] at hd
            exact hd
        · rw [List.getElem?_take] at hq
          split at hq
          · rw [List.getElem?_drop, ← htake, List.getElem?_take] at hq
            split at hq
            · rw [show 0 + i * size + q = i * size + q by omega]
              simpa [World.cell?, hc] using hq
            · cases hq
          · cases hq
    · cases hr
  · cases hr

theorem loadL_run {t : TypeId} {b o : Nat} {us : List Value} (hc : ∀ q u, us[q]? = some u → w.cell? ⟨b, o + q, none⟩ = some u) {off : Nat} {v : Value} (hl : loadOf P t us off = some v) : (loadVar t ⟨b, o + off, none⟩).run P w = .ok v w := by
  unfold loadOf at hl
  split at hl
  · rename_i n ha hs
    split at hl
    · rename_i hle
      simp only [Option.some.injEq] at hl; subst hl
      have hlen : ((us.drop off).take n).length = n := by rw [List.length_take, List.length_drop]; omega
      have := run_loadCells_list (P := P) w ⟨b, o + off, none⟩ ((us.drop off).take n) (fun j u hu => by
        rw [List.getElem?_take] at hu
        split at hu
        · rw [List.getElem?_drop] at hu
          rw [add_off, show o + off + j = o + (off + j) by omega]
          exact hc _ _ hu
        · cases hu)
      rw [hlen] at this
      unfold loadVar
      simp only [Sem.run_bind, isAgg_run ha, Result.andThen_ok, if_true, sizeOf_run hs, this, Sem.run_pure]
    · cases hl
  · rename_i m ha hs
    unfold loadVar
    simp only [Sem.run_bind, isAgg_run ha, Result.andThen_ok, Bool.false_eq_true, if_false, run_load, hc _ _ hl]
  · cases hl

theorem loadOf_ren {t : TypeId} {cs : List Value} {off : Nat} {u : Value} (hl : loadOf P t cs off = some u) (h1 : isAggB P t = some true ∨ oneCellB u = true) : loadOf P t (cs.map (ren0 β)) off = some (ren β u) := by
  unfold loadOf at hl ⊢
  split at hl
  · split at hl
    · rename_i hle
      simp only [Option.some.injEq] at hl; subst hl
      simp only [List.length_map]
      rw [if_pos hle]
      simp [ren, ren1, List.map_drop, List.map_take]
    · cases hl
  · rename_i ha hs
    rw [List.getElem?_map, hl, ren_one (h1.resolve_left (by rw [ha]; simp))]; rfl
  · cases hl
theorem loadOf_refs {t : TypeId} {cs : List Value} {off : Nat} {u : Value} (hl : loadOf P t cs off = some u) (h1 : isAggB P t = some true ∨ oneCellB u = true) {n : Nat} (hn : n ∈ refs u) : ∃ v ∈ cs, n ∈ refs0 v := by
  unfold loadOf at hl
  split at hl
  · split at hl
    · simp only [Option.some.injEq] at hl; subst hl
      simp only [refs, refs1] at hn
      obtain ⟨v, hv, hk⟩ := refsL_mem.1 hn
      exact ⟨v, List.mem_of_mem_drop (List.mem_of_mem_take hv), hk⟩
    · cases hl
  · rename_i ha hs
    rw [refs_one (h1.resolve_left (by rw [ha]; simp))] at hn
    exact ⟨u, List.mem_of_getElem? hl, hn⟩
  · cases hl
end
end Go.Proofs.Ytgdjfclpncpnpaa.Dyn
