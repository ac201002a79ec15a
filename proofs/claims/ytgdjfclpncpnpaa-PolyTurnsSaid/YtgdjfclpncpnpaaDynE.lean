/-
  OWN WORK. A second symbolic executor, part E: loads, stores, blocks, choices are what they say.
-/
import Derived.Test.YtgdjfclpncpnpaaDynD
namespace Go.Proofs.Ytgdjfclpncpnpaa.Dyn
open Go Go.RowKit Sym

section
variable {P : Program}

structure Post (w0 : Base P) (β : Env) (l : List SV) (h : List (Option HE)) (r : Res) (u : Value) (β' : Env) (w' : World) : Prop where
  keep : ∀ n c, h.getD n none = some c → β' n = β n
  den : Den β' l r.val u
  nm : ∀ n ∈ names r.val, ∃ c, (heapSet h r.upd).getD n none = some c
  mem : Mem w0 β' (heapSet h r.upd) w'

variable {w0 : Base P} {w : World} {β : Env} {st : St} {a : Act} {cs : List (Nat × Bool)} {o : Oper} {r : Res} {K : Act → World → Prop} {Q : Exit → Act → World → Prop}

theorem eval_plain (m : M w0 β st a w) (hc : holds st.slots cs) {x : Operand} {v : Value} (h : plain (evS st.slots cs x) = some v) : a.eval x = v := plain_eval (Den_eval m hc x) h
theorem eval_named (m : M w0 β st a w) (hc : holds st.slots cs) {x : Operand} {v : Value} (h : named (evS st.slots cs x) = some v) : a.eval x = ren β v ∧ ∀ n ∈ refs v, ∃ c, st.heap.getD n none = some c :=
  ⟨named_eval (Den_eval m hc x) h, fun n hn => names_ev m (named_refs h hn)⟩

theorem Post.same (m : M w0 β st a w) {r : Res} {u : Value} (hu : r.upd = []) (hd : Den β st.slots r.val u) (hn : ∀ n ∈ names r.val, ∃ c, st.heap.getD n none = some c) : Post w0 β st.slots st.heap r u β w :=
  ⟨fun _ _ _ => rfl, hd, by rw [hu]; exact hn, by rw [hu]; exact m.mem⟩

theorem plains_spec {ev : Operand → SV} : ∀ {xs : List Operand} {vs : List Value}, plains ev xs = some vs → vs = xs.map (fun x => plainD (ev x)) ∧ ∀ x ∈ xs, plain (ev x) = some (plainD (ev x))
  | [], vs, h => by simp only [plains, Option.some.injEq] at h; subst h; exact ⟨rfl, fun _ hx => (by cases hx)⟩
  | x :: xs, vs, h => by
    simp only [plains] at h
    split at h
    · rename_i v vs' hv hvs
      simp only [Option.some.injEq] at h; subst h
      obtain ⟨h1, h2⟩ := plains_spec hvs
      have e : plainD (ev x) = v := by simp [plainD, hv]
      refine ⟨by rw [List.map_cons, e, h1], fun y hy => ?_⟩
      rcases List.mem_cons.1 hy with rfl | hy
      · rw [hv, e]
      · exact h2 y hy
    · cases h
theorem nameds_spec (m : M w0 β st a w) (hc : holds st.slots cs) : ∀ {xs : List Operand} {vs : List Value}, nameds (evS st.slots cs) xs = some vs → xs.map a.eval = vs.map (ren β) ∧ ∀ v ∈ vs, ∀ n ∈ refs v, ∃ c, st.heap.getD n none = some c
  | [], vs, h => by simp only [nameds, Option.some.injEq] at h; subst h; exact ⟨rfl, fun _ hx => (by cases hx)⟩
  | x :: xs, vs, h => by
    simp only [nameds] at h
    split at h
    · rename_i v vs' hv hvs
      simp only [Option.some.injEq] at h; subst h
      obtain ⟨h1, h2⟩ := nameds_spec m hc hvs
      obtain ⟨h3, h4⟩ := eval_named m hc hv
      refine ⟨by rw [List.map_cons, List.map_cons, h1, h3], fun y hy => ?_⟩
      rcases List.mem_cons.1 hy with rfl | hy
      · exact h4
      · exact h2 y hy
    · cases h
theorem nameds_length {ev : Operand → SV} : ∀ {xs : List Operand} {vs : List Value}, nameds ev xs = some vs → vs.length = xs.length
  | [], vs, h => by simp only [nameds, Option.some.injEq] at h; subst h; rfl
  | x :: xs, vs, h => by
    simp only [nameds] at h
    split at h
    · rename_i v vs' hv hvs
      simp only [Option.some.injEq] at h; subst h
      simp [nameds_length hvs]
    · cases h

theorem plainRes_sound (m : M w0 β st a w) (hc : holds st.slots cs) (h : plainRes P (evS st.slots cs) o = some r) (hK : ∀ β' u w', Post w0 β st.slots st.heap r u β' w' → K (a.put o.dst u) w') : o.wp P a w K Q := by
  unfold plainRes at h
  split at h
  · cases h
  · rename_i vs _ hvs hsel
    split at h
    · rename_i u hu
      split at h
      · rename_i hf
        simp only [Option.some.injEq] at h; subst h
        have hev : execOp a.eval o = execOp (fun x => plainD (evS st.slots cs x)) o := execOp_congr o hsel fun x hx => by
          have := (plains_spec hvs).2 x (Array.mem_toList_iff.2 hx)
          exact eval_plain m hc this
        have hrun := pureRun_run _ hu w
        rw [← hev] at hrun
        refine wp_value hrun (hK β u w (Post.same m rfl ?_ ?_))
        · dsimp only; split
          · rfl
          · exact (ren_flat hf).symm
        · intro n hn; dsimp only at hn; split at hn
          · simp [names] at hn
          · simp only [names] at hn; rw [refs_flat hf] at hn; cases hn
      · cases h
    · cases h
  · cases h

/-! ### places -/
theorem plc_own {s : SV} {l : List SV} {u : Value} {n off : Nat} (hd : Den β l s u) (h : plcOf s = some (.own n off)) : u = .pointer (some ⟨(β n).1, off, none⟩) ∧ n ∈ names s := by
  cases s with
  | v x =>
    cases x with
    | pointer ad => cases ad with
      | none => cases h
      | some ad =>
        obtain ⟨b, q, sp⟩ := ad
        simp only [plcOf] at h
        cases sp with
        | none =>
          simp only [Option.some.injEq, Plc.own.injEq] at h
          obtain ⟨rfl, rfl⟩ := h
          exact ⟨hd, by simp [names, refs, refs1, refs0, refsP]⟩
        | some _ => cases h
    | _ => cases h
  | _ => cases h
theorem plc_ix {s : SV} {l : List SV} {u : Value} {n off len size : Nat} {i : Int} (hd : Den β l s u) (h : plcOf s = some (.ix n off i len size)) : (u = .pointer (some ⟨(β n).1, off + i.toNat * size, none⟩) ∧ 0 ≤ i ∧ i < len) ∧ n ∈ names s := by
  cases s with
  | v x =>
    cases x with
    | pointer ad => cases ad with
      | none => cases h
      | some ad => obtain ⟨b, q, sp⟩ := ad; simp only [plcOf] at h; cases sp <;> cases h
    | _ => cases h
  | ix n' off' i' len' size' =>
    simp only [plcOf, Option.some.injEq, Plc.ix.injEq] at h
    obtain ⟨rfl, rfl, rfl, rfl, rfl⟩ := h
    exact ⟨hd, by simp [names]⟩
  | _ => cases h
theorem plc_ex {s : SV} {l : List SV} {u : Value} {n j off size : Nat} {i : Int} (hd : Den β l s u) (h : plcOf s = some (.ex n j off size i)) : (∃ b o len cap, (β n).2 j = .slice (some ⟨b, o, none⟩) len cap ∧ u = .pointer (some ⟨b, o + i.toNat * size + off, none⟩) ∧ 0 ≤ i ∧ i < len) ∧ n ∈ names s := by
  cases s with
  | v x =>
    cases x with
    | pointer ad => cases ad with
      | none => cases h
      | some ad => obtain ⟨b, q, sp⟩ := ad; simp only [plcOf] at h; cases sp <;> cases h
    | _ => cases h
  | ex n' j' off' size' i' =>
    simp only [plcOf, Option.some.injEq, Plc.ex.injEq] at h
    obtain ⟨rfl, rfl, rfl, rfl, rfl⟩ := h
    exact ⟨hd, by simp [names]⟩
  | _ => cases h
theorem plc_hp (m : Mem w0 β st.heap w) {s : SV} {u : Value} {n j off : Nat} (hd : Den β st.slots s u) (h : plcOf s = some (.hp n j off)) : (off = 0 ∧ u = (β n).2 j ∨ ∃ b o, (β n).2 j = .pointer (some ⟨b, o, none⟩) ∧ u = .pointer (some ⟨b, o + off, none⟩)) ∧ n ∈ names s := by
  cases s with
  | v x =>
    cases x with
    | pointer ad => cases ad with
      | none => cases h
      | some ad =>
        obtain ⟨b, q, sp⟩ := ad
        simp only [plcOf] at h
        cases sp with
        | none => cases h
        | some _ =>
          simp only [Option.some.injEq, Plc.hp.injEq] at h
          obtain ⟨rfl, rfl, rfl⟩ := h
          exact ⟨.inl ⟨rfl, hd⟩, by simp [names, refs, refs1, refs0, refsP]⟩
    | _ => cases h
  | hp n' j' off' =>
    simp only [plcOf, Option.some.injEq, Plc.hp.injEq] at h
    obtain ⟨rfl, rfl, rfl⟩ := h
    exact ⟨.inr hd, by simp [names]⟩
  | _ => cases h

/-! ### loads -/
/-- a value out of cells that are told -/
theorem loadD_sound {t : TypeId} {x : Operand} {fresh : Nat} {deep : Bool} {ds : List DC} {us : List Value} {b p off : Nat} (m : M w0 β st a w) (ho : o.op = .load t x) (hfr : deep = true → fresh < st.heap.length ∧ st.heap.getD fresh none = none)
    (hx : a.eval x = .pointer (some ⟨b, p + off, none⟩)) (hd : DenL w (NF w0 β st.heap w) ds us) (hc : ∀ q u, us[q]? = some u → w.cell? ⟨b, p + q, none⟩ = some u)
    (h : loadD P t fresh deep ds off = some r) (hK : ∀ β' u w', Post w0 β st.slots st.heap r u β' w' → K (a.put o.dst u) w') : o.wp P a w K Q := by
  have sub : ∀ (n : Nat), DenL w (NF w0 β st.heap w) ((ds.drop off).take n) ((us.drop off).take n) := fun n => DenL.of (by simp [hd.length]) fun j d hj => by
    rw [List.getElem?_take] at hj ⊢
    split at hj
    · rename_i hlt
      rw [List.getElem?_drop] at hj
      obtain ⟨u, h1, h2⟩ := hd.at_ _ d hj
      exact ⟨u, by rw [if_pos hlt, List.getElem?_drop]; exact h1, h2⟩
    · cases hj
  unfold loadD at h
  split at h
  · rename_i n ha hs
    split at h
    · rename_i hall
      obtain ⟨hle, hp, hdeep⟩ := hall
      simp only [Option.some.injEq] at h; subst h
      obtain ⟨β', k1, k2, k3, k4, _⟩ := inst_mem m.mem (fresh := fresh) (fun hf => hfr (by rw [hf] at hdeep; simpa using hdeep)) (sub n) hp
      have hl : loadOf P t us off = some (.agg ((us.drop off).take n).toArray) := by
        unfold loadOf; rw [ha, hs]; dsimp only; rw [if_pos (by rw [hd.length]; exact hle)]
      refine wp_value (load_run ho hx (loadL_run hc hl)) (hK β' _ w ⟨k1, ?_, fun k hk => ?_, k2⟩)
      · show _ = ren β' _
        simp only [ren, ren1]
        rw [k3 0 rfl]
      · simp only [names, refs, refs1] at hk
        obtain ⟨y, hy, hk⟩ := refsL_mem.1 hk
        exact k4 y (by simpa using hy) k hk
    · cases h
  · rename_i n ha hs
    split at h
    · rename_i d hdo
      split at h
      · rename_i hall
        obtain ⟨hp, hdeep⟩ := hall
        simp only [Option.some.injEq] at h; subst h
        obtain ⟨u, h1, h2⟩ := hd.at_ off d hdo
        obtain ⟨β', k1, k2, k3, k4, _⟩ := inst_mem m.mem (fresh := fresh) (ds := [d]) (us := [u]) (fun hf => hfr (by rw [hf] at hdeep; simpa using hdeep)) ⟨h2, trivial⟩ hp
        have hl : loadOf P t us off = some u := by unfold loadOf; rw [ha, hs]; exact h1
        have k3' := k3 0 rfl
        have hlen := instC_length fresh [d] 0
        refine wp_value (load_run ho hx (loadL_run hc hl)) (hK β' u w ⟨k1, ?_, fun k hk => ?_, k2⟩)
        · show u = ren β' ((instC fresh 0 [d]).headD undef)
          cases hi : instC fresh 0 [d] with
          | nil => rw [hi] at hlen; cases hlen
          | cons y l =>
            rw [hi] at k3'
            simp only [List.map_cons, List.cons.injEq] at k3'
            show u = ren β' y
            have hy1 : oneCellB y = true := by
              cases d with
              | p z => simp only [instC, List.cons.injEq] at hi; rw [← hi.1]; cases h2; assumption
              | row n f => simp only [instC, List.cons.injEq] at hi; rw [← hi.1]; rfl
              | ptr c => simp only [instC, List.cons.injEq] at hi; rw [← hi.1]; rfl
            rw [ren_one hy1, k3'.1]
        · have hk' : k ∈ refs ((instC fresh 0 [d]).headD undef) := hk
          cases hi : instC fresh 0 [d] with
          | nil => rw [hi] at hlen; cases hlen
          | cons y l =>
            rw [hi] at hk' k4
            have hk' : k ∈ refs y := hk'
            have hy1 : oneCellB y = true := by
              cases d with
              | p z => simp only [instC, List.cons.injEq] at hi; rw [← hi.1]; cases h2; assumption
              | row n f => simp only [instC, List.cons.injEq] at hi; rw [← hi.1]; rfl
              | ptr c => simp only [instC, List.cons.injEq] at hi; rw [← hi.1]; rfl
            rw [refs_one hy1] at hk'
            exact k4 y (by simp) k hk'
      · cases h
    · cases h
  · cases h

theorem load_sound {hp : Nat → Option HE} (hhp : ∀ n c, hp n = some c → st.heap.getD n none = some c) {t : TypeId} {x : Operand} {fresh : Nat} {deep : Bool} {p : Plc} (m : M w0 β st a w) (hc : holds st.slots cs) (ho : o.op = .load t x) (hfr : deep = true → fresh < st.heap.length ∧ st.heap.getD fresh none = none)
    (hp' : plcOf (evS st.slots cs x) = some p) (h : loadRes P hp fresh deep t p = some r) (hK : ∀ β' u w', Post w0 β st.slots st.heap r u β' w' → K (a.put o.dst u) w') : o.wp P a w K Q := by
  have hd := Den_eval m hc x
  cases p with
  | own n off =>
    obtain ⟨hx, _⟩ := plc_own hd hp'
    simp only [loadRes] at h
    split at h
    · rename_i ty c hn0
      have hn := hhp n _ hn0
      have hk := m.mem.ok n _ hn
      split at h
      · rename_i u hu
        split at h
        · rename_i h1
          simp only [Option.some.injEq] at h; subst h
          refine wp_value (load_run ho hx (loadVar_run hk.1 (loadOf_ren hu h1))) (hK β _ w (Post.same m rfl rfl fun k hk' => ?_))
          obtain ⟨v, hv, hr⟩ := loadOf_refs hu h1 hk'
          exact m.mem.refs n _ _ hn v hv k hr
        · cases h
      · cases h
    · cases h
  | ix n off i len size =>
    obtain ⟨⟨hx, h0, h1⟩, _⟩ := plc_ix hd hp'
    simp only [loadRes] at h
    split at h
    · rename_i ty c hn0
      have hn := hhp n _ hn0
      have hk := m.mem.ok n _ hn
      split at h
      · rename_i us hus
        split at h
        · rename_i u hu
          split at h
          · rename_i hf
            simp only [Bool.and_eq_true] at hf
            simp only [Option.some.injEq] at h; subst h
            obtain ⟨hl, hk'⟩ := loadAll_at len 0 hus
            have hp := pickAt_eq us 0 hu (by simpa using h0) (by rw [hl]; simpa using h1)
            have := hk' _ u hp
            simp only [Nat.sub_zero, Nat.zero_add] at this
            have hc1 := hk.1
            rw [map_id_of fun y hy => ren0_flat (allB_iff.1 hf.1 y hy)] at hc1
            refine wp_value (load_run ho hx (loadVar_run hc1 this)) (hK β u w (Post.same m rfl (ren_flat hf.2).symm fun k hk'' => ?_))
            simp only [names] at hk''; rw [refs_flat hf.2] at hk''; cases hk''
          · cases h
        · cases h
      · cases h
    · cases h
  | ex n j off size i =>
    obtain ⟨⟨b, q, len, cap, hs, hx, h0, h1⟩, _⟩ := plc_ex hd hp'
    simp only [loadRes] at h
    split at h
    · rename_i k f hr
      split at h
      · rename_i hsz
        rcases row_elem m.mem hhp hr with ⟨⟨oa, cp, hz⟩, _⟩ | ⟨b', q', cap', size', hv, hel⟩
        · rw [hs] at hz; simp only [Value.slice.injEq] at hz; omega
        · rw [hs] at hv
          simp only [Value.slice.injEq, Option.some.injEq, Addr.mk.injEq] at hv
          obtain ⟨⟨rfl, rfl, -⟩, rfl, -⟩ := hv
          obtain ⟨hl, us, hdl, hcl⟩ := hel i.toNat (by omega)
          have e : size' = size := by rw [← hl, hsz]
          subst e
          exact loadD_sound m ho hfr hx hdl hcl h hK
      · cases h
    · cases h
  | hp n j off =>
    obtain ⟨hx, _⟩ := plc_hp m.mem hd hp'
    simp only [loadRes] at h
    split at h
    · rename_i vs hv
      unfold viewAt at hv
      split at hv
      · rename_i ds hn
        have hk := m.mem.ok n _ (hhp n _ hn)
        split at hv
        · rename_i vs' hj
          simp only [Option.some.injEq] at hv; subst hv
          have hdd := hk j _ hj
          have key : ∃ b q, (β n).2 j = .pointer (some ⟨b, q, none⟩) ∧ ∃ us, DenL w (NF w0 β st.heap w) vs' us ∧ ∀ z u, us[z]? = some u → w.cell? ⟨b, q + z, none⟩ = some u := by
            generalize (β n).2 j = u at hdd
            cases hdd with
            | ptr _ b q g hF hc1 hg =>
              refine ⟨b, q, rfl, (List.range vs'.length).map g, DenL.of (by simp) (fun z d hz => ?_), fun z u hz => ?_⟩
              · have hlt : z < vs'.length := (List.getElem?_eq_some_iff.1 hz).1
                refine ⟨g z, by simp [hlt], ?_⟩
                have := hg z hlt
                rw [List.getD_eq_getElem?_getD, hz] at this
                exact this
              · rw [List.getElem?_map] at hz
                have hlt : z < vs'.length := by
                  rcases Nat.lt_or_ge z vs'.length with y | y
                  · exact y
                  · rw [List.getElem?_eq_none (by simpa using y)] at hz; cases hz
                rw [List.getElem?_range hlt] at hz
                simp only [Option.map_some, Option.some.injEq] at hz; subst hz
                exact hc1 z hlt
          obtain ⟨b, q, hb, us, hdl, hcl⟩ := key
          have hx' : a.eval x = .pointer (some ⟨b, q + off, none⟩) := by
            rcases hx with ⟨rfl, hx⟩ | ⟨b', q', h1, h2⟩
            · rw [hx, hb]; rfl
            · rw [hb] at h1
              simp only [Value.pointer.injEq, Option.some.injEq, Addr.mk.injEq] at h1
              obtain ⟨rfl, rfl, -⟩ := h1
              exact h2
          exact loadD_sound m ho hfr hx' hdl hcl h hK
        · cases hv
      · cases hv
    · cases h

/-! ### blocks -/
theorem new_post (m : M w0 β st a w) {fresh : Nat} (hf : fresh < st.heap.length) (hn : st.heap.getD fresh none = none) (t : TypeId) (cells : List Value) (hr : ∀ v ∈ cells, ∀ k ∈ refs0 v, ∃ c, st.heap.getD k none = some c) :
    Post w0 β st.slots st.heap { val := .v (.pointer (some ⟨fresh, 0, none⟩)), upd := [(fresh, .cells t cells)], sides := [] } (.pointer (some ⟨w.heap.size, 0, none⟩)) (bump β fresh (w.heap.size, fun _ => .bool false)) (push w (.cells (cells.map (ren0 β)).toArray t)) where
  keep n c hc := bump_ne fun e => by rw [e, hn] at hc; cases hc
  den := by
    show _ = ren _ _
    simp only [ren, ren1, ren0, renP]
    rw [bump_at]
  nm n hn' := by
    simp only [names, refs, refs1, refs0, refsP, List.mem_singleton] at hn'; subst hn'
    exact ⟨.cells t cells, by simp only [heapSet]; rw [getD_set'', if_pos ⟨rfl, hf⟩]⟩
  mem := m.mem.new hf hn t cells hr

theorem alloc_sound {t : TypeId} {fresh : Nat} (m : M w0 β st a w) (hf : fresh < st.heap.length) (hn : st.heap.getD fresh none = none) (ho : o.op = .alloc t) {z : Value} (hz : (P.info? t).bind (·.zero) = some z) (hfl : allB flat0 z.cells.toList = true)
    (hK : ∀ β' u w', Post w0 β st.slots st.heap { val := .v (.pointer (some ⟨fresh, 0, none⟩)), upd := [(fresh, .cells t z.cells.toList)], sides := [] } u β' w' → K (a.put o.dst u) w') : o.wp P a w K Q := by
  refine wp_value (u := .pointer (some ⟨w.heap.size, 0, none⟩)) ?_ (hK _ _ _ (new_post m hf hn t z.cells.toList fun v hv k hk => ?_))
  · rw [map_id_of fun y hy => ren0_flat (allB_iff.1 hfl y hy)]
    simp only [execOp, ho, Instr.alloc, Sem.run_bind, zero_run hz, Result.andThen_ok, newVar, newRow, run_newObj, Sem.run_pure, Array.toArray_toList]
    rfl
  · rw [refs0_flat (allB_iff.1 hfl v hv)] at hk; cases hk

/-- a value of cells of one cell each -/
theorem cells_ok (hone : ∀ n j, oneCellB ((β n).2 j) = true) {u : Value} (h1 : u.cells.toList.all oneCellB = true) : (ren β u).cells.toList = u.cells.toList.map (ren0 β) ∧ (∀ v ∈ u.cells.toList, ∀ k ∈ refs0 v, k ∈ refs u) ∧ (u.cells.toList.map (ren0 β)).all oneCellB = true := by
  have ho : oneCellB u = true ∨ ∃ cs, u = .agg cs := by
    cases u with
    | agg cs => exact .inr ⟨cs, rfl⟩
    | tuple vs => simp [Value.cells, oneCellB] at h1
    | _ => exact .inl rfl
  refine ⟨ren_cells ho hone, fun v hv k hk => ?_, ?_⟩
  · rcases ho with ho | ⟨cs, rfl⟩
    · rw [refs_one ho]
      have : u.cells.toList = [u] := by cases u <;> first | rfl | cases ho
      rw [this, List.mem_singleton] at hv; subst hv; exact hk
    · exact refsL_mem.2 ⟨v, hv, hk⟩
  · rw [List.all_eq_true]
    intro y hy
    obtain ⟨v, hv, rfl⟩ := List.mem_map.1 hy
    exact ren0_one (List.all_eq_true.1 h1 v hv) hone

theorem box_sound {t : TypeId} {x : Operand} {fresh : Nat} {u : Value} (m : M w0 β st a w) (hc : holds st.slots cs) (hf : fresh < st.heap.length) (hn : st.heap.getD fresh none = none) (ho : o.op = .box t x) (hu : named (evS st.slots cs x) = some u) (h1 : u.cells.toList.all oneCellB = true)
    (hK : ∀ β' v w', Post w0 β st.slots st.heap { val := .v (.pointer (some ⟨fresh, 0, none⟩)), upd := [(fresh, .cells t u.cells.toList)], sides := [] } v β' w' → K (a.put o.dst v) w') : o.wp P a w K Q := by
  obtain ⟨hx, hr⟩ := eval_named m hc hu
  obtain ⟨k1, k2, _⟩ := cells_ok m.mem.one h1
  refine wp_value (u := .pointer (some ⟨w.heap.size, 0, none⟩)) ?_ (hK _ _ _ (new_post m hf hn t u.cells.toList fun v hv k hk => hr k (k2 v hv k hk)))
  rw [← k1]
  simp only [execOp, ho, hx, Instr.box, Sem.run_bind, Result.andThen_ok, newVar, newRow, run_newObj, Sem.run_pure, Array.toArray_toList]
  rfl

theorem setMany_map (f : Value → Value) : ∀ (vs cs : List Value) (off : Nat), (setMany cs off vs).map f = setMany (cs.map f) off (vs.map f)
  | [], _, _ => rfl
  | v :: vs, cs, off => by simp only [setMany, List.map_cons]; rw [setMany_map f vs, List.map_set]
theorem setMany_mem : ∀ (vs cs : List Value) (off : Nat) {x : Value}, x ∈ setMany cs off vs → x ∈ cs ∨ x ∈ vs
  | [], _, _, _, h => .inl h
  | v :: vs, cs, off, x, h => by
    rcases setMany_mem vs _ _ h with h | h
    · rcases List.mem_or_eq_of_mem_set h with h | h
      · exact .inl h
      · exact .inr (by simp [h])
    · exact .inr (by simp [h])

/-- a store into a block of the call's own -/
theorem store_own {hp : Nat → Option HE} (hhp : ∀ n c, hp n = some c → st.heap.getD n none = some c) {t ty : TypeId} {x y : Operand} {n off k : Nat} {u : Value} {c : List Value} (m : M w0 β st a w) (hc : holds st.slots cs) (ho : o.op = .store t x y)
    (hx : a.eval x = .pointer (some ⟨(β n).1, off, none⟩)) (hu : named (evS st.slots cs y) = some u) (hn0 : hp n = some (.cells ty c)) (hk : sizeO P t = some k) (h1 : u.cells.size = k) (h2 : off + k ≤ c.length) (h3 : u.cells.toList.all oneCellB = true)
    (hK : ∀ β' v w', Post w0 β st.slots st.heap { val := .k undef, upd := [(n, .cells ty (setMany c off u.cells.toList))], sides := [] } v β' w' → K (a.put o.dst v) w') : o.wp P a w K Q := by
  have hn := hhp n _ hn0
  obtain ⟨hy, hr⟩ := eval_named m hc hu
  obtain ⟨k1, k2, k3⟩ := cells_ok m.mem.one h3
  have hok := m.mem.ok n _ hn
  have hz : (ren β u).cells.size = k := by
    have := congrArg List.length k1
    simp only [Array.length_toList, List.length_map] at this
    rw [this, h1]
  obtain ⟨w', hrun, hb, hrest, hs, g1, g2, g3⟩ := storeVar_run (u := ren β u) hok.1 hk hz (by rw [List.length_map]; exact h2) (by rw [k1]; exact k3)
  rw [k1, ← setMany_map] at hb
  refine wp_skip' (w' := w') ?_ (hK β undef w' ⟨fun _ _ _ => rfl, rfl, fun q hq => by simp [names] at hq, m.mem.put hn (fun v hv q hq => ?_) hb hrest hs g1 g2 g3⟩)
  · simp only [execOp, ho, Instr.storeAt, hy, hx, Instr.sureAddr, Sem.run_bind, Sem.run_pure, Result.andThen_ok, hrun]
  · rcases setMany_mem _ _ _ hv with hv | hv
    · exact m.mem.refs n _ _ hn v hv q hq
    · exact hr q (k2 v hv q hq)

theorem boolAt_ev {l : List SV} {cs : List (Nat × Bool)} {t : Nat} {b : Bool} (h : evS l cs (.tmp t) = .k (.bool b) ∨ evS l cs (.tmp t) = .v (.bool b)) : boolAt l t = some b := by
  simp only [evS] at h
  unfold boolAt
  rw [List.getD_eq_getElem?_getD] at h
  cases hs : l[t]? with
  | none => simp [hs, resolve] at h
  | some s =>
    simp only [hs, Option.getD_some] at h
    cases s with
    | g cs' z =>
      simp only [resolve] at h
      split at h
      · rcases h with h | h <;> (subst h; rfl)
      · rcases h with h | h <;> cases h
    | _ => simp only [resolve] at h <;> rcases h with h | h <;> first | (cases h; rfl) | cases h
theorem holds_withC {l : List SV} {cs : List (Nat × Bool)} {c : Operand} {b : Bool} (hc : holds l cs) (h : evS l cs c = .k (.bool b) ∨ evS l cs c = .v (.bool b)) : holds l (withC cs c b) := by
  cases c with
  | tmp t =>
    have hb := boolAt_ev h
    intro z hz
    rcases List.mem_append.1 hz with hz | hz
    · exact hc z hz
    · simp only [List.mem_singleton] at hz; subst hz; exact hb
  | _ => exact hc
theorem pick_sound {c x y : Operand} (m : M w0 β st a w) (hc : holds st.slots cs)
    (h : (match evS st.slots cs c, c with
    | .k (.bool b), _ => match named (evS st.slots (withC cs c b) (if b then x else y)) with
      | some u => some ({ val := .v u, upd := [], sides := [] } : Res)
      | none => none
    | .v (.bool b), .tmp t => match plain (evS st.slots (cs ++ [(t, true)]) x), plain (evS st.slots (cs ++ [(t, false)]) y) with
      | some u, some v => if flat (mergeN 3 b u v) then some { val := .v (mergeN 3 b u v), upd := [], sides := [] } else none
      | _, _ => none
    | _, _ => none) = some r) (ho : o.op = .pick c x y) (hK : ∀ β' u w', Post w0 β st.slots st.heap r u β' w' → K (a.put o.dst u) w') : o.wp P a w K Q := by
  have hd := Den_eval m hc c
  have hrun : ∀ b, a.eval c = .bool b → (execOp a.eval o).run P w = .ok (.value (if b then a.eval x else a.eval y)) w := fun b hb => by
    simp only [execOp, ho, hb, asBool, Sem.run_bind, Sem.run_pure, Result.andThen_ok]
  split at h
  · rename_i b hev
    rw [hev] at hd
    split at h
    · rename_i u hu
      simp only [Option.some.injEq] at h; subst h
      obtain ⟨hx, hn⟩ := eval_named m (holds_withC hc (.inl hev)) hu
      refine wp_value (u := ren β u) ?_ (hK β _ w (Post.same m rfl rfl hn))
      rw [hrun b hd]; cases b
      · exact congrArg (fun z => Result.ok (Next.value z) w) hx
      · exact congrArg (fun z => Result.ok (Next.value z) w) hx
    · cases h
  · rename_i b t hev
    have hev' := hev
    rw [hev] at hd
    split at h
    · rename_i u v hu hv
      split at h
      · rename_i hf
        simp only [Option.some.injEq] at h; subst h
        have hb : boolAt st.slots t = some b := boolAt_ev (.inr hev')
        have hcc : ∀ q, boolAt st.slots t = some q → holds st.slots (cs ++ [(t, q)]) := fun q hq z hz => by
          rcases List.mem_append.1 hz with hz | hz
          · exact hc z hz
          · simp only [List.mem_singleton] at hz; subst hz; exact hq
        refine wp_value (u := mergeN 3 b u v) ?_ (hK β _ w (Post.same m rfl (ren_flat hf).symm (fun k hk => by simp only [names] at hk; rw [refs_flat hf] at hk; cases hk)))
        have hd' : a.eval (.tmp t) = .bool b := hd
        rw [hrun b hd', mergeN_eq]
        cases b
        · rw [if_neg (by simp), if_neg (by simp), eval_plain m (hcc false hb) hv]
        · rw [if_pos rfl, if_pos rfl, eval_plain m (hcc true hb) hu]
      · cases h
    · cases h
  · cases h
end
end Go.Proofs.Ytgdjfclpncpnpaa.Dyn
