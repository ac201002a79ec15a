/-
  OWN WORK. A second symbolic executor, part I: make, len, append, calls.
-/
import Derived.Test.YtgdjfclpncpnpaaDynH
namespace Go.Proofs.Ytgdjfclpncpnpaa.Dyn
open Go Go.RowKit Sym

section
variable {P : Program} {w0 : Base P} {w : World} {β : Env} {st : St} {a : Act} {cs : List (Nat × Bool)} {o : Oper} {r : Res} {K : Act → World → Prop} {Q : Exit → Act → World → Prop}

theorem mod_lt_get {size : Nat} (i j : Nat) (h : j < size) : (i * size + j) % size = j := by
  rw [Nat.mul_comm, Nat.mul_add_mod, Nat.mod_eq_of_lt h]

theorem makeSlice_sound {t fresh size b : Nat} {x y : Operand} {e : TypeId} {ki kj : IntKind} {i j : Int} {ds : List DC} (m : M w0 β st a w) (hc : holds st.slots cs) (hf : fresh < st.heap.length) (hn : st.heap.getD fresh none = none) (ho : o.op = .makeSlice t x y)
    (he : sliceOf P t = some e) (hx : plain (evS st.slots cs x) = some (.int ki i)) (hy : plain (evS st.slots cs y) = some (.int kj j)) (hs : sizeO P e = some (size + 1)) (hb : bytesO P e = some b) (hz : zeroDC P e = some ds) (hdl : ds.length = size + 1)
    (hside : 0 ≤ i ∧ i ≤ j ∧ j ≤ 9223372036854775807 ∧ (b : Int) * j ≤ 281474976710656)
    (hK : ∀ β' u w' sides, Post w0 β st.slots st.heap { val := .v (.slice (some ⟨fresh, 0, some 0⟩) i.toNat 0), upd := [(fresh, .own e i.toNat fun _ => ds)], sides } u β' w' → K (a.put o.dst u) w') : o.wp P a w K Q := by
  obtain ⟨h0, h1, h2, h3⟩ := hside
  have hx' := eval_plain m hc hx
  have hy' := eval_plain m hc hy
  unfold zeroDC at hz
  split at hz
  · rename_i z hzz
    split at hz
    · rename_i hzf
      simp only [Bool.and_eq_true] at hzf
      have hzl : z.cells.size = size + 1 := by rw [← hdl, (mapO_spec hz).1, Array.length_toList]
      have hden := toDCs_den (w0 := w0) (β := β) m.mem (hp := fun _ => none) (fun n c h => by cases h) (F := NF w0 β st.heap w) (fun b hb => hb) hz (fun c hcm q hq => by rw [refs0_flat (allB_iff.1 hzf.1 c hcm)] at hq; cases hq)
      rw [map_id_of (f := ren0 β) fun y hy => ren0_flat (allB_iff.1 hzf.1 y hy)] at hden
      have hcell : ∀ q, q < j.toNat * (size + 1) → (((Array.range (j.toNat * (size + 1))).map (z.cells[· % z.cells.size]!)).toList)[q]? = some (z.cells[q % (size + 1)]!) := fun q hq => by
        rw [Array.getElem?_toList, Array.getElem?_map, Array.getElem?_range, if_pos hq, hzl]; rfl
      obtain ⟨β', hpost⟩ := own_post (w0 := w0) (st := st) (h := st.heap) (upd := []) (fresh := fresh) (len := i.toNat) (cap := j.toNat) (t := e) (f := fun _ => ds) (cells := ((Array.range (j.toNat * (size + 1))).map (z.cells[· % z.cells.size]!)).toList) (sides := []) m.mem trivial hf hn hn hs (by omega) (by simp) (by omega)
        (by unfold maxLen; omega)
        (fun q hq => ⟨hdl, fun p hp => by
          have hq' : (q + 1) * (size + 1) ≤ j.toNat * (size + 1) := Nat.mul_le_mul_right _ (by omega)
          rw [Nat.add_mul, Nat.one_mul] at hq'
          obtain ⟨d, hd⟩ : ∃ d, ds[p]? = some d := ⟨_, List.getElem?_eq_getElem (by omega)⟩
          obtain ⟨v, hv1, hv2⟩ := hden.at_ p d hd
          refine ⟨v, ?_, by rw [List.getD_eq_getElem?_getD, hd]; exact hv2⟩
          rw [hcell _ (by omega), mod_lt_get _ _ hp]
          rw [Array.getElem?_toList] at hv1
          rw [getElem!_def, hv1]⟩)
      refine wp_value (u := .slice (some ⟨w.heap.size, 0, none⟩) i.toNat j.toNat) ?_ (hK β' _ _ [] hpost)
      unfold sliceOf at he
      split at he
      · rename_i e' hu
        simp only [Option.some.injEq] at he; subst he
        have hinfo : ∃ inf, P.info? e' = some inf ∧ inf.bytes = b := by
          unfold bytesO at hb
          cases hi : P.info? e' with
          | none => rw [hi] at hb; cases hb
          | some inf => rw [hi] at hb; exact ⟨inf, rfl, by simpa using hb⟩
        obtain ⟨inf, hi1, hi2⟩ := hinfo
        have wi : IntKind.i64.wrap i = i := by rw [IntKind.wrap_i64]; omega
        have wj : IntKind.i64.wrap j = j := by rw [IntKind.wrap_i64]; omega
        have t1 : (decide (j < 0) || decide ((b : Int) * j > 2 ^ 48)) = false := by
          rw [decide_eq_false (by omega), decide_eq_false (by have : (2 : Int) ^ 48 = 281474976710656 := by decide
                                                              omega)]; rfl
        have cond : ((decide (j < 0) || decide ((b : Int) * j > 2 ^ 48)) || decide (i < 0) || decide (i > j)) = false := by
          rw [t1, decide_eq_false (by omega), decide_eq_false (by omega)]; rfl
        simp only [execOp, ho, hx', hy', Instr.makeSlice, Sem.run_bind, underlying, run_program, hu, Sem.run_pure, Result.andThen_ok, asInt, asIntOf, typeInfo, hi1, hi2, wi, wj, cond, Bool.false_eq_true, if_false, run_askRoom, sizeOf_run hs]
        by_cases hj0 : j.toNat * (size + 1) = 0
        · rw [if_pos hj0]
          simp only [Sem.run_pure, Result.andThen_ok, newRow, run_newObj, Sem.run_bind]
          rw [hj0]
          have e0 : ∀ g : Nat → Value, (Array.range 0).map g = #[] := fun g => by apply Array.ext'; simp
          rw [e0, e0]
          rfl
        · rw [if_neg hj0]
          simp only [Sem.run_pure, Result.andThen_ok, newRow, run_newObj, Sem.run_bind, zero_run hzz]
          rfl
      · cases he
    · cases hz
  · cases hz

/-! ### len -/
theorem asRow_spec {hp : Nat → Option HE} (hhp : ∀ n c, hp n = some c → st.heap.getD n none = some c) (m : M w0 β st a w) {u : Value} {k : Nat} {f : Nat → List DC} (h : asRow hp u = some (k, f)) :
    ((∃ oa cap, ren β u = .slice oa 0 cap) ∧ k = 0) ∨ ∃ b o cap size, ren β u = .slice (some ⟨b, o, none⟩) k cap ∧ ∀ i, i < k → (f i).length = size ∧ ∃ us, DenL w (NF w0 β st.heap w) (f i) us ∧ ∀ q u, us[q]? = some u → w.cell? ⟨b, o + i * size + q, none⟩ = some u := by
  unfold asRow at h
  split at h
  · simp only [Option.some.injEq, Prod.mk.injEq] at h
    exact .inl ⟨⟨none, 0, rfl⟩, h.1.symm⟩
  · rename_i ad n c
    obtain ⟨b, q, sp⟩ := ad
    dsimp only at h
    split at h
    · exact row_elem m.mem hhp h
    · cases h
  · cases h

theorem len_sound {hp : Nat → Option HE} (hhp : ∀ n c, hp n = some c → st.heap.getD n none = some c) {args : Array Operand} {argTypes : Array TypeId} {x : Operand} {t e : TypeId} {u : Value} {k : Nat} {f : Nat → List DC} (m : M w0 β st a w) (ho : o.op = .call { callee := .builtin .len, args, argTypes })
    (ha : args.toList = [x]) (hat : argTypes.toList = [t]) (hx : a.eval x = ren β u) (he : sliceOf P t = some e) (hr : asRow hp u = some (k, f))
    (hK : K (a.put o.dst (.int .i64 (k : Int))) w) : o.wp P a w K Q := by
  have e1 : args = #[x] := by apply Array.ext'; rw [ha]
  have e2 : argTypes = #[t] := by apply Array.ext'; rw [hat]
  subst e1; subst e2
  unfold sliceOf at he
  split at he
  · rename_i e' hu
    have key : ∃ oa cap, a.eval x = .slice oa k cap := by
      rcases asRow_spec hhp m hr with ⟨⟨oa, cap, h1⟩, rfl⟩ | ⟨b, q, cap, size, h1, _⟩
      · exact ⟨oa, cap, by rw [hx, h1]⟩
      · exact ⟨_, cap, by rw [hx, h1]⟩
    obtain ⟨oa, cap, hx'⟩ := key
    refine wp_value (u := .int .i64 (k : Int)) ?_ hK
    simp only [execOp, ho, Go.resolve, invoke, builtin, Builtin.len_, Sem.run_bind, Sem.run_pure, Result.andThen_ok, List.map_toArray, List.map_cons, List.map_nil, hx', underlying, run_program, hu]
    simp [goInt, underlying, hu]
  · cases he

/-! ### append -/
theorem run_append_zero (t ty e : TypeId) (ht : P.underlying t = some (.slice e)) {size : Nat} (hs : sizeO P e = some size) (base : Option Addr) (n c : Nat) (hle : n ≤ c) (oa : Option Addr) (cap : Nat) :
    (Builtin.append_ #[t, t] ty #[.slice base n c, .slice oa 0 cap]).run P w = .ok (.slice base n c) w := by
  have hf : (Builtin.firstCells size 0 (.slice oa 0 cap)).run P w = .ok #[] w := by
    cases oa <;> simp [Builtin.firstCells, loadCells, loadCellsFrom]
  cases base <;> simp [Builtin.append_, run_underlying ht, sizeOf_run hs, Builtin.lenOf, hle, hf, storeCells]

/-- what is appended: the old elements, the new ones; its block is the old one, or new -/
theorem append_run {base : Nat} (hb : base ≤ w.heap.size) (t ty e : TypeId) (ht : P.underlying t = some (.slice e)) {size by_ : Nat} {z : Value} (hs : sizeO P e = some size) (hsz : 0 < size) (hby : bytesO P e = some by_) (hz : (P.info? e).bind (·.zero) = some z) (hzl : z.cells.size = size)
    {v y : Value} {n m : Nat} {xs news : List Value} (hown : w.ownsRow base e size v n xs) (hy : ((∃ oa cap, y = .slice oa 0 cap) ∧ m = 0) ∨ ∃ b o cap, y = .slice (some ⟨b, o, none⟩) m cap ∧ ∀ j u, news[j]? = some u → w.cell? ⟨b, o + j, none⟩ = some u)
    (hl : news.length = m * size) (h1 : ∀ u ∈ news, oneCellB u = true) (h63 : n + m ≤ maxLen) (hbytes : (n + m) * by_ ≤ 140737488355328) :
    ∃ v' w', (Builtin.append_ #[t, t] ty #[v, y]).run P w = .ok v' w' ∧ w'.ownsRow base e size v' (n + m) (xs ++ news) ∧ w.grownBy w' v.ownBlock ∧ (v'.ownBlock = v.ownBlock ∨ v'.ownBlock = some w.heap.size) := by
  have hinfo : ∃ inf, P.info? e = some inf ∧ inf.size = size ∧ inf.bytes = by_ ∧ inf.zero = some z := by
    unfold bytesO at hby; unfold sizeO at hs
    cases hi : P.info? e with
    | none => rw [hi] at hby; cases hby
    | some inf => rw [hi] at hby hs hz; exact ⟨inf, rfl, by simpa using hs, by simpa using hby, by simpa using hz⟩
  obtain ⟨inf, hi, rfl, rfl, hzz⟩ := hinfo
  have h1' : ∀ u ∈ news, u.oneCell' = true := fun u hu => by have := h1 u hu; cases u <;> simp_all [oneCellB, Value.oneCell']
  have hlen : (xs ++ news).length = (n + m) * inf.size := by rw [List.length_append, hown.1, hl, Nat.add_mul]
  by_cases hm : m = 0
  · subst hm
    have hn : news = [] := List.eq_nil_of_length_eq_zero (by simpa using hl)
    subst hn
    have hy' : ∃ oa cap, y = .slice oa 0 cap := by
      rcases hy with ⟨⟨oa, cap, rfl⟩, _⟩ | ⟨b, q, cap, rfl, _⟩
      · exact ⟨oa, cap, rfl⟩
      · exact ⟨_, cap, rfl⟩
    obtain ⟨oa, cap, rfl⟩ := hy'
    refine ⟨v, w, ?_, by simpa using hown, ⟨rfl, rfl, rfl, Nat.le_refl _, fun _ _ _ => rfl⟩, .inl rfl⟩
    rcases hown.2 with ⟨rfl, rfl⟩ | ⟨g, c, cur, rfl, _, _, hnc, _⟩
    · exact run_append_zero t ty e ht hs none 0 0 (Nat.le_refl _) oa cap
    · exact run_append_zero t ty e ht hs _ n c hnc oa cap
  · obtain ⟨b, q, cap, rfl, hnews⟩ := hy.resolve_left (fun z => hm z.2)
    have hnews' : ∀ j u, news[j]? = some u → w.cell? ((⟨b, q, none⟩ : Addr).add j) = some u := fun j u hu => by rw [add_off]; exact hnews j u hu
    have hsmall : n + m ≤ 9223372036854775807 := by unfold maxLen at h63; omega
    have grown : ∀ (old : Nat), (w.drew.alloc (.cells (xs.toArray ++ news.toArray ++ Builtin.zeroCells z.cells (grownCap w (n + m) old e - (n + m))) e)).ownsRow base e inf.size
        (.slice (some ⟨w.heap.size, 0, none⟩) (n + m) (grownCap w (n + m) old e)) (n + m) (xs ++ news) := fun old => by
      have hge := grownCap_ge w (n + m) old e
      refine ⟨hlen, .inr ⟨w.heap.size, _, _, rfl, hb, heap_alloc_new w.drew _, hge, grownCap_le_maxLen w (n + m) old e h63, ?_, ?_⟩⟩
      · simp only [Array.size_append, List.size_toArray, size_zeroCells, hzl, hown.1, hl, ← Nat.add_mul]
        congr 1; omega
      · simp only [Array.toList_append, List.append_assoc]
        rw [← List.append_assoc, ← hlen]
        exact List.take_left
    have grownBy : ∀ (old : Nat) (row : Option Nat), w.grownBy (w.drew.alloc (.cells (xs.toArray ++ news.toArray ++ Builtin.zeroCells z.cells (grownCap w (n + m) old e - (n + m))) e)) row := fun old row =>
      ⟨rfl, rfl, rfl, by simp, fun k hk _ => heap_alloc_old w.drew _ k hk⟩
    rcases hown.2 with ⟨rfl, rfl⟩ | ⟨g, c, cur, rfl, hbg, hg, hnc, hcm, hcs, htake⟩
    · have hx : xs = [] := List.eq_nil_of_length_eq_zero (by simpa using hown.1)
      subst hx
      have hr := run_append_nil (P := P) w t ty e inf z ht hi hzz ⟨b, q, none⟩ m cap news hl hnews' (by omega) (by omega) (by simp only [Nat.zero_add] at hbytes; omega)
      have g1 := grown 0; have g2 := grownBy 0 (Value.ownBlock (.slice none 0 0))
      simp only [Nat.zero_add, List.nil_append, Array.empty_append] at g1 g2 ⊢
      exact ⟨_, _, hr, g1, g2, .inr rfl⟩
    · by_cases hroom : n + m ≤ c
      · have hfit : n * inf.size + news.length ≤ cur.size := by rw [hl, hcs, ← Nat.add_mul]; exact Nat.mul_le_mul_right _ hroom
        have hr := run_append_room (P := P) w t ty e inf ht hi g n c cur hg ⟨b, q, none⟩ m cap news hl hnews' h1' hroom hfit
        refine ⟨_, _, hr, ⟨hlen, .inr ⟨g, c, _, rfl, hbg, setRow_heap w g cur _ e _ hg, hroom, hcm, ?_, ?_⟩⟩, ⟨rfl, rfl, rfl, by simp, fun k _ hk => setRow_other w g k _ (fun e => hk (by simp [Value.ownBlock, e]))⟩, .inl rfl⟩
        · simp only [List.size_toArray, List.length_append, List.length_take, List.length_drop, Array.length_toList]
          omega
        · rw [htake, ← hlen]
          exact List.take_left
      · have hold : ∀ j u, xs[j]? = some u → w.cell? ((⟨g, 0, none⟩ : Addr).add j) = some u := hown.cells (g := g) rfl
        have hr := run_append_grow (P := P) w t ty e inf z ht hi hzz ⟨g, 0, none⟩ n c xs hown.1 hold ⟨b, q, none⟩ m cap news hl hnews' (by omega) (by omega) (growslice_fits (by omega) hbytes)
        exact ⟨_, _, hr, grown c, grownBy c _, .inr rfl⟩

/-- memory after an append: the old name is gone, the new one is there -/
theorem append_mem {h : List (Option HE)} (m : Mem w0 β h w) {w' : World} {fresh : Nat} (hf : fresh < h.length) (hn : h.getD fresh none = none) {old : List (Nat × HE)} {row : Option Nat} (hold : (old = [] ∧ row = none) ∨ ∃ N t k f, old = [(N, .gone)] ∧ h.getD N none = some (.own t k f) ∧ row = ((β N).2 0).ownBlock)
    {v' : Value} (hv1 : oneCellB v' = true) (hv : v'.ownBlock = row ∨ v'.ownBlock = some w.heap.size) (hg : w.grownBy w' row) {e : TypeId} {n : Nat} {f : Nat → List DC}
    (hok : (∀ b, NF w0 β h w b → NF w0 (bump β fresh (0, fun _ => v')) (heapSet h (old ++ [(fresh, .own e n f)])) w' b ∧ w'.heap[b]? = w.heap[b]?) → HeOk w0 (bump β fresh (0, fun _ => v')) (NF w0 (bump β fresh (0, fun _ => v')) (heapSet h (old ++ [(fresh, .own e n f)])) w') w' (0, fun _ => v') (.own e n f)) :
    Mem w0 (bump β fresh (0, fun _ => v')) (heapSet h (old ++ [(fresh, .own e n f)])) w' := by
  -- what stands at a name now
  have hNlt : ∀ N t k f, h.getD N none = some (HE.own t k f) → N < h.length ∧ N ≠ fresh := fun N t k f hN => by
    refine ⟨?_, fun e => by rw [e, hn] at hN; cases hN⟩
    rcases Nat.lt_or_ge N h.length with z | z
    · exact z
    · rw [List.getD_eq_getElem?_getD, List.getElem?_eq_none z] at hN; cases hN
  have hatn : (heapSet h (old ++ [(fresh, .own e n f)])).getD fresh none = some (.own e n f) := by
    rw [heapSet_append]; simp only [heapSet]; rw [getD_set'', if_pos ⟨rfl, by rw [heapSet_length]; exact hf⟩]
  have hat : ∀ q he, (heapSet h (old ++ [(fresh, .own e n f)])).getD q none = some he → q ≠ fresh → he = .gone ∨ (h.getD q none = some he ∧ ∀ b, blkOf he (β q) = some b → some b ≠ row) := fun q he hq hqf => by
    rw [heapSet_append] at hq
    simp only [heapSet] at hq
    rw [getD_set'', if_neg (fun z => hqf z.1.symm)] at hq
    rcases hold with ⟨rfl, rfl⟩ | ⟨N, t, k, f', rfl, hN, rfl⟩
    · exact .inr ⟨hq, fun b _ => by simp⟩
    · simp only [heapSet] at hq
      rw [getD_set''] at hq
      split at hq
      · simp only [Option.some.injEq] at hq; exact .inl hq.symm
      · rename_i hne
        refine .inr ⟨hq, fun b hb hr => hne ⟨?_, (hNlt N t k f' hN).1⟩⟩
        exact m.inj N q _ he b hN hq hr.symm hb
  have hsome : ∀ q c, h.getD q none = some c → ∃ d, (heapSet h (old ++ [(fresh, .own e n f)])).getD q none = some d := fun q c hq => heapSet_some _ _ hq
  have hrow : ∀ b, NF w0 β h w b → some b ≠ row := fun b hN hr => by
    rcases hold with ⟨rfl, rfl⟩ | ⟨N, t, k, f', rfl, hNN, rfl⟩
    · cases hr
    · have hlt := m.ownlt hNN hr.symm
      rcases hN with z | z
      · have := w0.lt b z; omega
      · exact z.2.2 N _ hNN hr.symm
  have hNF : ∀ b, NF w0 β h w b → NF w0 (bump β fresh (0, fun _ => v')) (heapSet h (old ++ [(fresh, .own e n f)])) w' b ∧ w'.heap[b]? = w.heap[b]? := fun b hN => by
    have hlt := NF_lt m.below hN
    refine ⟨?_, hg.block b hlt (hrow b hN)⟩
    rcases hN with z | ⟨k1, k2, k3⟩
    · exact .inl z
    · refine .inr ⟨k1, Nat.lt_of_lt_of_le k2 hg.size, fun q c hq hx => ?_⟩
      by_cases eq : q = fresh
      · subst eq
        rw [hatn] at hq; simp only [Option.some.injEq] at hq; subst hq
        rw [bump_at] at hx
        have hx' : v'.ownBlock = some b := hx
        rcases hv with hv | hv
        · exact hrow b (.inr ⟨k1, k2, k3⟩) (by rw [← hx', hv])
        · rw [hv] at hx'; simp only [Option.some.injEq] at hx'; omega
      · rw [bump_ne eq] at hx
        rcases hat q c hq eq with rfl | ⟨h1, _⟩
        · cases hx
        · exact k3 q c h1 hx
  refine m.next (fun q => q = fresh ∨ (heapSet h (old ++ [(fresh, .own e n f)])).getD q none = some .gone) (fun q c hq hnq => bump_ne fun z => hnq (.inl z)) (fun q t cs hq hnq v hv => ?_) (fun q he hq hnq => ?_) hNF hg.size (fun q he hq hnq => ?_) (fun q p c d b hq hp hc hd hnq => ?_) (fun q t cs hq v hv p hp => ?_) (fun q j => ?_) ⟨hg.os.trans m.below.os, hg.tape.trans m.below.tape, hg.output.trans m.below.output, Nat.le_trans m.below.size hg.size, fun b hb hL => ?_⟩
  · have hqf : q ≠ fresh := fun z => hnq (.inl z)
    rcases hat q _ hq hqf with z | ⟨h1, _⟩
    · cases z
    · exact ren0_bump m hn _ h1 hv
  · have hqf : q ≠ fresh := fun z => hnq (.inl z)
    rcases hat q _ hq hqf with z | ⟨h1, h2⟩
    · subst z; exact absurd (.inr hq) hnq
    · exact ⟨h1, fun b hb => hg.block b (m.lt h1 hb).2 (h2 b hb)⟩
  · by_cases hqf : q = fresh
    · subst hqf
      rw [hatn] at hq; simp only [Option.some.injEq] at hq; subst hq
      rw [bump_at]; exact hok hNF
    · rcases hnq with z | z
      · exact absurd z hqf
      · rw [z] at hq; simp only [Option.some.injEq] at hq; subst hq; trivial
  · by_cases hqf : q = fresh
    · subst hqf
      rw [hatn] at hq; simp only [Option.some.injEq] at hq; subst hq
      rw [bump_at] at hc
      have hc' : v'.ownBlock = some b := hc
      by_cases e' : p = q
      · exact e'.symm
      · rw [bump_ne e'] at hd
        rcases hat p d hp e' with rfl | ⟨h1, h2⟩
        · cases hd
        · rcases hv with hv | hv
          · exact absurd (by rw [← hc', hv]) (h2 b hd)
          · rw [hv] at hc'; simp only [Option.some.injEq] at hc'
            have := (m.lt h1 hd).2; omega
    · rcases hnq with z | z
      · exact absurd z hqf
      · rw [z] at hq; simp only [Option.some.injEq] at hq; subst hq; cases hc
  · by_cases hqf : q = fresh
    · subst hqf; rw [hatn] at hq; cases hq
    · rcases hat q _ hq hqf with z | ⟨h1, _⟩
      · cases z
      · obtain ⟨c, hc⟩ := m.refs q t cs h1 v hv p hp
        exact hsome p c hc
  · by_cases hqf : q = fresh
    · subst hqf; rw [bump_at]; exact hv1
    · rw [bump_ne hqf]; exact m.one q j
  · have hb' : b < w.heap.size := Nat.lt_of_lt_of_le hb m.below.size
    rw [hg.block b hb' fun hr => ?_]
    · exact m.below.block b hb hL
    · rcases hold with ⟨rfl, rfl⟩ | ⟨N, t, k, f', rfl, hNN, rfl⟩
      · cases hr
      · have := (m.ownlt hNN hr.symm).1; omega
end
end Go.Proofs.Ytgdjfclpncpnpaa.Dyn
