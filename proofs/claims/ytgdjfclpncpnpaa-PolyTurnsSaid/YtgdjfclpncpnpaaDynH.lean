/-
  OWN WORK. A second symbolic executor, part H: what is built, made, appended.
-/
import Derived.Test.YtgdjfclpncpnpaaDynG
namespace Go.Proofs.Ytgdjfclpncpnpaa.Dyn
open Go Go.RowKit Sym

/-! ### structs and slices that are built -/
theorem fold_setMany (off : Nat) : ∀ (l : List Value) (k : Nat) (cells : Array Value), ((l.zipIdx k).foldl (fun cs p => cs.setIfInBounds (off + p.2) p.1) cells).toList = setMany cells.toList (off + k) l
  | [], _, _ => rfl
  | v :: l, k, cells => by
    simp only [List.zipIdx_cons, List.foldl_cons]
    rw [fold_setMany off l (k + 1)]
    simp only [setMany, Array.toList_setIfInBounds]
    rw [show off + (k + 1) = off + k + 1 by omega]
theorem fold_arr (off : Nat) (vs cells : Array Value) : (vs.zipIdx.foldl (fun cs (p : Value × Nat) => cs.setIfInBounds (off + p.2) p.1) cells) = (setMany cells.toList off vs.toList).toArray := by
  apply Array.ext'
  rw [← Array.foldl_toList, Array.toList_zipIdx, fold_setMany]
  rfl
theorem fill_ren {β : Env} (hone : ∀ n j, oneCellB ((β n).2 j) = true) {place : Nat → Option (Nat × Nat)} : ∀ (ps : List (Nat × Value)) (cells c : Array Value), (∀ p ∈ ps, p.2.cells.toList.all oneCellB = true) → Instr.fill place cells ps = some c →
    Instr.fill place (cells.toList.map (ren0 β)).toArray (ps.map fun p => (p.1, ren β p.2)) = some (c.toList.map (ren0 β)).toArray ∧ c.size = cells.size ∧ ∀ y ∈ c.toList, y ∈ cells.toList ∨ ∃ p ∈ ps, y ∈ p.2.cells.toList
  | [], cells, c, _, h => by
    simp only [Instr.fill, Option.some.injEq] at h; subst h
    exact ⟨rfl, rfl, fun y hy => .inl hy⟩
  | (i, v) :: ps, cells, c, h1, h => by
    obtain ⟨k1, _, _⟩ := cells_ok hone (h1 (i, v) (by simp))
    dsimp only at k1
    have hz : (ren β v).cells.size = v.cells.size := by
      have := congrArg List.length k1
      simpa using this
    simp only [Instr.fill] at h
    simp only [List.map_cons, Instr.fill]
    split at h
    · cases h
    · rename_i off size hp
      split at h
      · cases h
      · rename_i hno
        have hsz : (List.map (ren0 β) cells.toList).toArray.size = cells.size := by simp
        rw [hz, hsz, if_neg hno]
        rw [fold_arr] at h ⊢
        obtain ⟨i1, i2, i3⟩ := fill_ren hone ps _ c (fun p hp => h1 p (by simp [hp])) h
        refine ⟨?_, ?_, fun y hy => ?_⟩
        · rw [k1]
          simp only [] at i1 ⊢
          rw [← setMany_map]
          exact i1
        · rw [i2, List.size_toArray, setMany_length, Array.length_toList]
        · rcases i3 y hy with hy | ⟨p, hp, hy⟩
          · rcases setMany_mem _ _ _ hy with hy | hy
            · exact .inl hy
            · exact .inr ⟨_, List.mem_cons_self .., hy⟩
          · exact .inr ⟨p, List.mem_cons_of_mem _ hp, hy⟩

section
variable {P : Program} {w0 : Base P} {w : World} {β : Env} {st : St} {a : Act} {cs : List (Nat × Bool)} {o : Oper} {r : Res} {K : Act → World → Prop} {Q : Exit → Act → World → Prop}

theorem mapM_run {α γ : Type} {g : α → Sem γ} {g' : α → Option γ} (h : ∀ x y, g' x = some y → (g x).run P w = .ok y w) : ∀ (l : List α) (ys : List γ), l.mapM g' = some ys → (l.mapM g).run P w = .ok ys w
  | [], ys, hl => by simp at hl; subst hl; rfl
  | x :: l, ys, hl => by
    rw [List.mapM_cons] at hl ⊢
    cases hx : g' x with
    | none => rw [hx] at hl; cases hl
    | some y =>
      rw [hx] at hl
      cases hm : l.mapM g' with
      | none => rw [hm] at hl; cases hl
      | some ys' =>
        rw [hm] at hl
        have : y :: ys' = ys := by simpa using hl
        subst this
        simp only [Sem.run_bind, h x y hx, Result.andThen_ok, mapM_run h l ys' hm, Sem.run_pure]

theorem parts_eval (m : M w0 β st a w) (hc : holds st.slots cs) {parts : Array (Nat × Operand)} {vs : List Value} (hv : nameds (evS st.slots cs) (parts.toList.map (·.2)) = some vs) :
    (parts.map fun (i, x) => (i, a.eval x)).toList = ((parts.toList.map (·.1)).zip vs).map fun p => (p.1, ren β p.2) := by
  have h1 := (nameds_spec m hc hv).1
  rw [Array.toList_map]
  generalize parts.toList = l at *
  clear hv
  induction l generalizing vs with
  | nil => rfl
  | cons p l ih =>
    cases vs with
    | nil => simp at h1
    | cons v vs =>
      simp only [List.map_cons, List.cons.injEq] at h1
      simp only [List.map_cons, List.zip_cons_cons, List.cons.injEq]
      exact ⟨by rw [h1.1], ih h1.2⟩

theorem build_sound {t : TypeId} {parts : Array (Nat × Operand)} {vs : List Value} {fields : Array Field} {z : Value} {places : List (Nat × Nat)} {cells : Array Value} (m : M w0 β st a w) (hc : holds st.slots cs) (ho : o.op = .build t parts)
    (hv : nameds (evS st.slots cs) (parts.toList.map (·.2)) = some vs) (hu : P.underlying t = some (.struct fields)) (hz : (P.info? t).bind (·.zero) = some z) (hp : fields.toList.mapM (fun f => (sizeO P f.type).map fun s => (f.offset, s)) = some places)
    (hf : allB flat0 z.cells.toList = true) (h1 : vs.all (fun v => v.cells.toList.all oneCellB) = true) (hfill : Instr.fill (places[·]?) z.cells ((parts.toList.map (·.1)).zip vs) = some cells)
    (hK : ∀ β' u w', Post w0 β st.slots st.heap { val := .v (.agg cells), upd := [], sides := [] } u β' w' → K (a.put o.dst u) w') : o.wp P a w K Q := by
  have hone := m.mem.one
  obtain ⟨i1, i2, i3⟩ := fill_ren (β := β) hone _ _ _ (fun p hp => List.all_eq_true.1 h1 p.2 (List.of_mem_zip hp).2) hfill
  rw [map_id_of (f := ren0 β) (l := z.cells.toList) fun y hy => ren0_flat (allB_iff.1 hf y hy)] at i1
  have hpl : (fields.mapM (m := Sem) fun f => do pure (f.offset, ← sizeOf f.type)).run P w = .ok places.toArray w := by
    rw [Array.mapM_eq_mapM_toList]
    have := mapM_run (P := P) (w := w) (g := fun f : Field => (do pure (f.offset, ← sizeOf f.type) : Sem (Nat × Nat))) (fun f y hy => by
      cases hs : sizeO P f.type with
      | none => rw [hs] at hy; cases hy
      | some s =>
        rw [hs] at hy
        simp only [Option.map_some, Option.some.injEq] at hy; subst hy
        simp only [Sem.run_bind, sizeOf_run hs, Result.andThen_ok, Sem.run_pure]) fields.toList places hp
    rw [map_eq_pure_bind]
    simp only [Sem.run_bind, this, Result.andThen_ok, Sem.run_pure]
  have hpa := parts_eval m hc hv
  refine wp_value (u := .agg (cells.toList.map (ren0 β)).toArray) ?_ (hK β _ w (Post.same m rfl rfl fun k hk => ?_))
  · simp only [execOp, ho, Instr.build, Sem.run_bind, zero_run hz, Result.andThen_ok, underlying, run_program, hu, Sem.run_pure, hpl, hpa]
    simp only [List.getElem?_toArray, Array.toArray_toList] at i1 ⊢
    rw [i1]
    rfl
  · simp only [names, refs, refs1] at hk
    obtain ⟨y, hy, hk⟩ := refsL_mem.1 hk
    rcases i3 y hy with hy | ⟨p, hp, hy⟩
    · rw [refs0_flat (allB_iff.1 hf y hy)] at hk; cases hk
    · have hpv := (List.of_mem_zip hp).2
      obtain ⟨_, k2, _⟩ := cells_ok hone (List.all_eq_true.1 h1 p.2 hpv)
      exact (nameds_spec m hc hv).2 p.2 hpv k (k2 y hy k hk)

theorem extract_sound {x : Operand} {i : Nat} {vs : Array Value} {u : Value} (m : M w0 β st a w) (hc : holds st.slots cs) (ho : o.op = .extract x i) (hx : evS st.slots cs x = .v (.tuple vs)) (hi : vs.toList[i]? = some u) (hu : ∀ q, u ≠ .tuple q)
    (hK : ∀ β' v w', Post w0 β st.slots st.heap { val := .v u, upd := [], sides := [] } v β' w' → K (a.put o.dst v) w') : o.wp P a w K Q := by
  have hd := Den_eval m hc x
  rw [hx] at hd
  have hd' : a.eval x = .tuple (vs.toList.map (ren1 β)).toArray := hd
  have e : ren β u = ren1 β u := by cases u <;> first | rfl | exact (hu _ rfl).elim
  refine wp_value (u := ren β u) ?_ (hK β _ w (Post.same m rfl rfl fun k hk => ?_))
  · have hg : ((vs.toList.map (ren1 β)).toArray)[i]? = some (ren1 β u) := by
      rw [List.getElem?_toArray, List.getElem?_map, hi]; rfl
    simp only [execOp, ho, hd', Instr.extract, hg, Sem.run_bind, Sem.run_pure, Result.andThen_ok, e]
  · refine names_ev (cs := cs) m (x := x) ?_
    rw [hx]
    have hk' : k ∈ refs u := hk
    have e2 : refs u = refs1 u := by cases u <;> first | rfl | exact (hu _ rfl).elim
    rw [e2] at hk'
    exact refsL_mem.2 ⟨u, List.mem_of_getElem? hi, hk'⟩

theorem fieldV_sound {t : TypeId} {x : Operand} {f : Nat} {vs : Array Value} {fd : Field} {u : Value} (m : M w0 β st a w) (hc : holds st.slots cs) (ho : o.op = .field t x f) (hx : evS st.slots cs x = .v (.agg vs)) (hfd : fieldOf P t f = some fd) (hp : partOf P fd.type vs.toList fd.offset = some u)
    (h1 : isAggB P fd.type = some true ∨ oneCellB u = true) (hK : ∀ β' v w', Post w0 β st.slots st.heap { val := .v u, upd := [], sides := [] } v β' w' → K (a.put o.dst v) w') : o.wp P a w K Q := by
  have hd := Den_eval m hc x
  rw [hx] at hd
  have hd' : a.eval x = .agg (vs.toList.map (ren0 β)).toArray := hd
  have hpr : partOf P fd.type (vs.toList.map (ren0 β)) fd.offset = some (ren β u) := by
    unfold partOf at hp ⊢
    split at hp
    · simp only [Option.some.injEq] at hp; subst hp
      simp [ren, ren1, List.map_drop, List.map_take]
    · rename_i ha
      rw [List.getElem?_map, hp, ren_one (h1.resolve_left (by rw [ha]; simp))]; rfl
    · cases hp
  refine wp_value (u := ren β u) ?_ (hK β _ w (Post.same m rfl rfl fun k hk => ?_))
  · unfold fieldOf at hfd
    split at hfd
    · rename_i fs hs
      have := part_run (P := P) (w := w) (t := fd.type) (xs := (vs.toList.map (ren0 β)).toArray) (off := fd.offset) (u := ren β u) hpr
      simp only [execOp, ho, hd', Instr.field, asAgg, Sem.run_bind, underlying, run_program, hs, hfd, Sem.run_pure, Result.andThen_ok, this]
    · cases hfd
  · refine names_ev (cs := cs) m (x := x) ?_
    rw [hx]
    have hk' : k ∈ refs u := hk
    unfold partOf at hp
    split at hp
    · simp only [Option.some.injEq] at hp; subst hp
      simp only [refs, refs1] at hk'
      obtain ⟨v, hv, hk'⟩ := refsL_mem.1 hk'
      exact refsL_mem.2 ⟨v, List.mem_of_mem_drop (List.mem_of_mem_take hv), hk'⟩
    · rename_i ha
      rw [refs_one (h1.resolve_left (by rw [ha]; simp))] at hk'
      exact refsL_mem.2 ⟨u, List.mem_of_getElem? hp, hk'⟩
    · cases hp

theorem makeFunc_sound {F : FuncId} {first caps : Array Operand} {vs : List Value} (m : M w0 β st a w) (hc : holds st.slots cs) (ho : o.op = .makeFunc (.func F) first caps) (hf : first.toList = []) (hv : nameds (evS st.slots cs) caps.toList = some vs)
    (h1 : vs.all oneCellB = true) (h2 : vs.all (fun v => match v with | .func _ _ _ => false | _ => true) = true)
    (hK : ∀ β' v w', Post w0 β st.slots st.heap { val := .v (.func (.func F) #[] vs.toArray), upd := [], sides := [] } v β' w' → K (a.put o.dst v) w') : o.wp P a w K Q := by
  obtain ⟨k1, k2⟩ := nameds_spec m hc hv
  have e : ∀ v ∈ vs, ren β v = renP β v ∧ refs v = refsP v := fun v hv => by
    have a1 := List.all_eq_true.1 h1 v hv
    have a2 := List.all_eq_true.1 h2 v hv
    cases v <;> first | exact ⟨rfl, rfl⟩ | (simp at a2; done) | (cases a1; done)
  refine wp_value (u := .func (.func F) #[] (vs.map (renP β)).toArray) ?_ (hK β _ w (Post.same m rfl ?_ fun k hk => ?_))
  · have h3 : caps.map a.eval = (vs.map (renP β)).toArray := by
      apply Array.ext'
      rw [Array.toList_map, k1]
      exact List.map_congr_left fun v hv => (e v hv).1
    have h4 : first.map a.eval = #[] := by
      apply Array.ext'
      rw [Array.toList_map, hf]; rfl
    simp only [execOp, ho, Instr.makeFunc, Sem.run_bind, Sem.run_pure, Result.andThen_ok, h3, h4]
  · show _ = ren β _
    simp [ren, ren1, ren0]
  · simp only [names, refs, refs1, refs0] at hk
    obtain ⟨v, hv', hk⟩ := refsL_mem.1 hk
    have hv' : v ∈ vs := by simpa using hv'
    exact k2 v hv' k (by rw [(e v hv').2]; exact hk)

/-! ### slices that are made -/
theorem mergeDC_true (x y : DC) : mergeDC true x y = x := by
  cases x <;> cases y <;> first | rfl | (simp only [mergeDC]; rw [mergeN_true])
theorem mergeDC_false (x y : DC) : mergeDC false x y = y := by
  cases x <;> cases y <;> first | rfl | (simp only [mergeDC]; rw [mergeN_false])
theorem zipDC_left : ∀ (xs ys : List DC), xs.length = ys.length → List.zipWith (mergeDC true) xs ys = xs
  | [], [], _ => rfl
  | x :: xs, y :: ys, h => by simp only [List.zipWith_cons_cons]; rw [mergeDC_true, zipDC_left xs ys (by simpa using h)]
  | [], _ :: _, h => by simp at h
  | _ :: _, [], h => by simp at h
theorem zipDC_right : ∀ (xs ys : List DC), xs.length = ys.length → List.zipWith (mergeDC false) xs ys = ys
  | [], [], _ => rfl
  | x :: xs, y :: ys, h => by simp only [List.zipWith_cons_cons]; rw [mergeDC_false, zipDC_right xs ys (by simpa using h)]
  | [], _ :: _, h => by simp at h
  | _ :: _, [], h => by simp at h
theorem pickL_spec {size : Nat} : ∀ (l : List (List DC)) (k i : Nat), (∀ c ∈ l, c.length = size) → k ≤ i → i < k + l.length → l[i - k]? = some (pickL k l i)
  | [], k, i, _, h1, h2 => by simp at h2; omega
  | [c], k, i, _, h1, h2 => by
    simp only [List.length_cons, List.length_nil] at h2
    have : i - k = 0 := by omega
    rw [this]; rfl
  | c :: d :: l, k, i, hl, h1, h2 => by
    have hlen : ∀ x ∈ (d :: l), x.length = size := fun x hx => hl x (by simp [hx])
    have hc := hl c (by simp)
    simp only [pickL]
    by_cases e : i = k
    · subst e
      have hp : (pickL (i + 1) (d :: l) i).length = size := by
        have : ∀ (l : List (List DC)) (k i : Nat), l ≠ [] → (∀ c ∈ l, c.length = size) → (pickL k l i).length = size := by
          intro l
          induction l with
          | nil => intro k i h _; exact absurd rfl h
          | cons c l ih =>
            intro k i _ h
            cases l with
            | nil => exact h c (by simp)
            | cons d l =>
              simp only [pickL, List.length_zipWith]
              rw [ih (k + 1) i (by simp) fun x hx => h x (by simp [hx]), h c (by simp)]
              omega
        exact this _ _ _ (by simp) hlen
      rw [Nat.beq_refl, zipDC_left _ _ (by rw [hc, hp])]
      simp
    · have ih := pickL_spec (d :: l) (k + 1) i hlen (by omega) (by simp only [List.length_cons] at h2 ⊢; omega)
      have hm := List.mem_of_getElem? ih
      have hb : Nat.beq i k = false := by
        cases hb : Nat.beq i k with
        | false => rfl
        | true => exact absurd (Nat.eq_of_beq_eq_true hb) e
      rw [hb, zipDC_right _ _ (by rw [hc, hlen _ hm]), show i - k = (i - (k + 1)) + 1 by omega, List.getElem?_cons_succ]
      exact ih
theorem chunks_spec {size : Nat} : ∀ (n : Nat) (l : List DC), n * size ≤ l.length → (chunks size n l).length = n ∧ (∀ c ∈ chunks size n l, c.length = size) ∧ ∀ i, i < n → (chunks size n l)[i]? = some ((l.drop (i * size)).take size)
  | 0, l, _ => ⟨rfl, fun c hc => (by cases hc), fun i hi => by omega⟩
  | n + 1, l, h => by
    rw [Nat.add_mul, Nat.one_mul] at h
    obtain ⟨h1, h2, h3⟩ := chunks_spec (size := size) n (l.drop size) (by rw [List.length_drop]; omega)
    simp only [chunks]
    refine ⟨by simp [h1], fun c hc => ?_, fun i hi => ?_⟩
    · rcases List.mem_cons.1 hc with rfl | hc
      · rw [List.length_take]; omega
      · exact h2 c hc
    · cases i with
      | zero => simp
      | succ i =>
        rw [List.getElem?_cons_succ, h3 i (by omega), List.drop_drop]
        rw [show size + i * size = (i + 1) * size by rw [Nat.add_mul, Nat.one_mul, Nat.add_comm]]

/-- a new slice of the call's own -/
theorem own_post {h : List (Option HE)} {upd : List (Nat × HE)} {fresh len cap size : Nat} {t : TypeId} {f : Nat → List DC} {cells : List Value} {sides : List Prop} (m1 : Mem w0 β (heapSet h upd) w) (hkeep : True) (hf : fresh < h.length) (hn : (heapSet h upd).getD fresh none = none)
    (hn0 : h.getD fresh none = none) (hs : sizeO P t = some size) (h0 : 0 < size) (hlen : cells.length = cap * size) (hle : len ≤ cap) (hcap : cap ≤ maxLen)
    (hel : ∀ i, i < len → (f i).length = size ∧ ∀ j, j < size → ∃ v, cells[i * size + j]? = some v ∧ DenC w (NF w0 β (heapSet h upd) w) ((f i).getD j default) v) :
    ∃ β', Post w0 β st.slots h { val := .v (.slice (some ⟨fresh, 0, some 0⟩) len 0), upd := upd ++ [(fresh, .own t len f)], sides } (.slice (some ⟨w.heap.size, 0, none⟩) len cap) β' (push w (.cells cells.toArray t)) := by
  refine ⟨bump β fresh (w.heap.size, fun _ => .slice (some ⟨w.heap.size, 0, none⟩) len cap), fun n c hc => bump_ne fun e => ?_, ?_, fun n hn' => ?_, ?_⟩
  · rw [e, hn0] at hc; cases hc
  · show _ = ren _ _
    simp only [ren, ren1, ren0, renP]
    rw [bump_at]
  · simp only [names, refs, refs1, refs0, refsP, List.mem_singleton] at hn'; subst hn'
    rw [heapSet_append]
    exact ⟨.own t len f, by simp only [heapSet]; rw [getD_set'', if_pos ⟨rfl, by rw [heapSet_length]; exact hf⟩]⟩
  · dsimp only
    rw [heapSet_append]
    refine m1.add (by rw [heapSet_length]; exact hf) hn _ _ (push_below _ _) (fun b hb => ?_) (fun _ => rfl) (fun t' cs' e => by cases e) (fun hNF => ?_)
    · simp only [blkOf, Value.ownBlock, Option.some.injEq] at hb; omega
    · refine ⟨size, cells.take (len * size), hs, h0, ⟨?_, .inr ⟨w.heap.size, cap, cells.toArray, rfl, m1.below.size, push_new, hle, hcap, by simp [hlen], by simp⟩⟩, fun i hi => ⟨(hel i hi).1, fun j hj => ?_⟩⟩
      · rw [List.length_take, hlen]
        have : len * size ≤ cap * size := Nat.mul_le_mul_right _ hle
        omega
      · obtain ⟨v, hv, hd⟩ := (hel i hi).2 j hj
        refine ⟨v, ?_, hd.mono hNF⟩
        rw [List.getElem?_take, if_pos]
        · exact hv
        · have : (i + 1) * size ≤ len * size := Nat.mul_le_mul_right _ hi
          rw [Nat.add_mul, Nat.one_mul] at this
          omega

theorem buildSlice_sound {hp : Nat → Option HE} (hhp : ∀ n c, hp n = some c → st.heap.getD n none = some c) {t len fresh : Nat} {parts : Array (Nat × Operand)} {e : TypeId} {vs : List Value} {size : Nat} {z : Value} {cells : Array Value} {ds : List DC} {l : List (Nat × HE)} (m : M w0 β st a w) (hc : holds st.slots cs)
    (hf : fresh < st.heap.length) (hn : st.heap.getD fresh none = none) (ho : o.op = .buildSlice t len parts) (he : sliceOf P t = some e) (hv : nameds (evS st.slots cs) (parts.toList.map (·.2)) = some vs) (hs : sizeO P e = some size) (hz : (P.info? e).bind (·.zero) = some z)
    (hb : ¬ len * size > 2 ^ 24) (hb0 : ¬ len * size = 0) (h1 : vs.all (fun v => v.cells.toList.all oneCellB) = true) (hfl : allB flat0 ((Array.range (len * size)).map (z.cells[· % z.cells.size]!)).toList = true)
    (hfill : Instr.fill (fun i => some (i * size, size)) ((Array.range (len * size)).map (z.cells[· % z.cells.size]!)) ((parts.toList.map (·.1)).zip vs) = some cells) (hds : mapO (toDC0 hp) cells.toList = some ds) (hl : frz hp (refsL refs vs) = some l)
    (hK : ∀ β' u w', Post w0 β st.slots st.heap { val := .v (.slice (some ⟨fresh, 0, some 0⟩) len 0), upd := l ++ [(fresh, .own e len (pickL 0 (chunks size len ds)))], sides := [] } u β' w' → K (a.put o.dst u) w') : o.wp P a w K Q := by
  have hone := m.mem.one
  have hhp' : ∀ n c, hp n = some c → c = .gone ∨ st.heap.getD n none = some c := fun n c h => .inr (hhp n c h)
  obtain ⟨i1, i2, i3⟩ := fill_ren (β := β) hone _ _ _ (fun p hp => List.all_eq_true.1 h1 p.2 (List.of_mem_zip hp).2) hfill
  rw [map_id_of (f := ren0 β) (l := Array.toList _) fun y hy => ren0_flat (allB_iff.1 hfl y hy)] at i1
  obtain ⟨f1, f2, f3, f4⟩ := frz_sound (refsL refs vs) m.mem hhp' hl
  have hpa := parts_eval m hc hv
  have hcz : cells.size = len * size := by rw [i2]; simp
  have hsz0 : 0 < size := by
    rcases Nat.eq_zero_or_pos size with h | h
    · rw [h, Nat.mul_zero] at hb0; exact absurd rfl hb0
    · exact h
  have hfn : ∀ c, (fresh, c) ∉ l := fun c h => by
    obtain ⟨_, ⟨t', k, f, h2⟩, _⟩ := f4 fresh c h
    rw [hn] at h2; cases h2
  have hden := toDCs_den (w0 := w0) (β := β) m.mem hhp' (F := NF w0 β (heapSet st.heap l) w) f2 hds (fun c hcm q hq t k f hhe b hbb => by
    rcases i3 c hcm with hc' | ⟨p, hp', hc'⟩
    · rw [refs0_flat (allB_iff.1 hfl c hc')] at hq; cases hq
    · have hpv := (List.of_mem_zip hp').2
      obtain ⟨_, k2, _⟩ := cells_ok hone (List.all_eq_true.1 h1 p.2 hpv)
      exact (f3 q (refsL_mem.2 ⟨p.2, hpv, k2 c hc' q hq⟩) _ hhe).2 b hbb)
  have hdl : ds.length = len * size := by rw [(mapO_spec hds).1, Array.length_toList, hcz]
  obtain ⟨c1, c2, c3⟩ := chunks_spec (size := size) len ds (by omega)
  have hpick : ∀ i, i < len → pickL 0 (chunks size len ds) i = (ds.drop (i * size)).take size := fun i hi => by
    have := pickL_spec (chunks size len ds) 0 i c2 (by omega) (by omega)
    rw [Nat.sub_zero, c3 i hi] at this
    exact (Option.some.inj this).symm
  obtain ⟨β', hpost⟩ := own_post (w0 := w0) (st := st) (h := st.heap) (upd := l) (fresh := fresh) (len := len) (cap := len) (t := e) (f := pickL 0 (chunks size len ds)) (cells := cells.toList.map (ren0 β)) (sides := []) f1 trivial hf (by rw [heapSet_ne l _ hfn]; exact hn) hn hs hsz0 (by rw [List.length_map, Array.length_toList, hcz]) (Nat.le_refl _)
    (by
      have : len * 1 ≤ len * size := Nat.mul_le_mul_left _ hsz0
      unfold maxLen; omega)
    (fun i hi => by
      have hb' : (i + 1) * size ≤ len * size := Nat.mul_le_mul_right _ hi
      rw [Nat.add_mul, Nat.one_mul] at hb'
      rw [hpick i hi]
      refine ⟨by rw [List.length_take, List.length_drop]; omega, fun j hj => ?_⟩
      obtain ⟨d, hd⟩ : ∃ d, ds[i * size + j]? = some d := ⟨_, List.getElem?_eq_getElem (by omega)⟩
      obtain ⟨v, hv1, hv2⟩ := hden.at_ _ d hd
      refine ⟨v, hv1, ?_⟩
      have e' : ((ds.drop (i * size)).take size).getD j default = d := by
        rw [List.getD_eq_getElem?_getD, List.getElem?_take, if_pos hj, List.getElem?_drop, hd]; rfl
      rw [e']; exact hv2)
  refine wp_value (u := .slice (some ⟨w.heap.size, 0, none⟩) len len) ?_ (hK β' _ _ hpost)
  unfold sliceOf at he
  split at he
  · rename_i e' hu
    simp only [Option.some.injEq] at he; subst he
    simp only [Array.toArray_toList] at i1
    simp only [execOp, ho, Instr.buildSlice, Sem.run_bind, underlying, run_program, hu, Sem.run_pure, Result.andThen_ok, sizeOf_run hs, hb, hb0, if_false, zero_run hz, hpa, i1, newRow, run_newObj]
    rfl
  · cases he
end
end Go.Proofs.Ytgdjfclpncpnpaa.Dyn
