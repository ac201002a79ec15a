/-
  OWN WORK. A second symbolic executor, part J: appends and calls are what they say; so is every operation.
-/
import Derived.Test.YtgdjfclpncpnpaaDynI
namespace Go.Proofs.Ytgdjfclpncpnpaa.Dyn
open Go Go.RowKit Sym

section
variable {P : Program} {w0 : Base P} {w : World} {β : Env} {st : St} {a : Act} {cs : List (Nat × Bool)} {o : Oper} {r : Res} {K : Act → World → Prop} {Q : Exit → Act → World → Prop}

theorem append_sound {hp : Nat → Option HE} (hhp : ∀ n c, hp n = some c → st.heap.getD n none = some c) {args : Array Operand} {argTypes : Array TypeId} {x y : Operand} {t e : TypeId} {u v : Value} {n k fresh size by_ : Nat} {f g : Nat → List DC} {l l' : List (Nat × HE)} {z : Value} (m : M w0 β st a w) (hc : holds st.slots cs)
    (hf : fresh < st.heap.length) (hn : st.heap.getD fresh none = none) (ho : o.op = .call { callee := .builtin .append, args, argTypes }) (ha : args.toList = [x, y]) (hat : argTypes.toList = [t, t]) (hx : named (evS st.slots cs x) = some u) (hy : named (evS st.slots cs y) = some v) (he : sliceOf P t = some e)
    (hown : asOwn hp e u = some ((n, f), l)) (hrow : asRow hp v = some (k, g)) (hs : sizeO P e = some (size + 1)) (hby : bytesO P e = some by_) (hz : (P.info? e).bind (·.zero) = some z) (hzl : z.cells.size = size + 1) (hgl : (g 0).length = size + 1 ∨ k = 0)
    (hfr : frz (fun k => bif l.any (fun q => Nat.beq q.1 k) then none else hp k) (refs v) = some l') (h1 : ((n + k : Nat) : Int) * by_ ≤ 140737488355328) (h2 : ((n + k : Nat) : Int) ≤ 9223372036854775807)
    (hK : ∀ β' q w' sides, Post w0 β st.slots st.heap { val := .v (.slice (some ⟨fresh, 0, some 0⟩) (n + k) 0), upd := l' ++ l ++ [(fresh, .own e (n + k) (appF n f g))], sides } q β' w' → K (a.put o.dst q) w') : o.wp P a w K Q := by
  obtain ⟨hx', hxr⟩ := eval_named m hc hx
  obtain ⟨hy', hyr⟩ := eval_named m hc hy
  have e1 : args = #[x, y] := by apply Array.ext'; rw [ha]
  have e2 : argTypes = #[t, t] := by apply Array.ext'; rw [hat]
  subst e1; subst e2
  obtain ⟨f1, f2, f3, f4⟩ := frz_sound (refs v) m.mem (hp := fun k => bif l.any (fun q => Nat.beq q.1 k) then none else hp k) (fun q c hq => by
    cases hb : l.any (fun p => Nat.beq p.1 q) with
    | true => simp only [hb, cond_true] at hq; cases hq
    | false => simp only [hb, cond_false] at hq; exact .inr (hhp q c hq)) hfr
  have hne : ∀ q, (∃ c, hp q = some c ∧ (∀ t k f, c ≠ HE.own t k f)) ∨ st.heap.getD q none = none → ∀ c, (q, c) ∈ l' → False := fun q hq c hc' => by
    obtain ⟨_, ⟨t', k', f', h3⟩, _⟩ := f4 q c hc'
    rcases hq with ⟨c', hq, hno⟩ | hq
    · have := hhp q c' hq; rw [h3] at this; simp only [Option.some.injEq] at this; exact hno _ _ _ this.symm
    · rw [h3] at hq; cases hq
  -- the slice that is appended to
  have hold : ∃ xs, w.ownsRow w0.w.heap.size e (size + 1) (ren β u) n xs ∧ (∀ i, i < n → (f i).length = size + 1 ∧ ∀ j, j < size + 1 → ∃ v, xs[i * (size + 1) + j]? = some v ∧ DenC w (NF w0 β (heapSet st.heap l') w) ((f i).getD j default) v) ∧
      ((l = [] ∧ (ren β u).ownBlock = none) ∨ ∃ N t k f, l = [(N, .gone)] ∧ (heapSet st.heap l').getD N none = some (.own t k f) ∧ (ren β u).ownBlock = ((β N).2 0).ownBlock) := by
    unfold asOwn at hown
    split at hown
    · simp only [Option.some.injEq, Prod.mk.injEq] at hown
      obtain ⟨⟨rfl, rfl⟩, rfl⟩ := hown
      exact ⟨[], World.ownsRow_nil w _ e _, fun i hi => by omega, .inl ⟨rfl, rfl⟩⟩
    · rename_i ad nn cc
      obtain ⟨N, q, sp⟩ := ad
      dsimp only at hown
      split at hown
      · rename_i s0 t' n' f' hN
        split at hown
        · rename_i ht
          subst ht
          simp only [Option.some.injEq, Prod.mk.injEq] at hown
          obtain ⟨⟨rfl, rfl⟩, rfl⟩ := hown
          have hNN := hhp N _ hN
          have hnot : ∀ c, (N, c) ∉ l' := fun c hc' => by
            have := f4 N c hc'
            have hm := this.1
            -- the frozen ones are not the old name
            have key : ∀ (l : List Nat) (hp' : Nat → Option HE) (u : List (Nat × HE)), hp' N = none → frz hp' l = some u → N ∉ l := by
              intro l
              induction l with
              | nil => intro _ _ _ _ h; cases h
              | cons q l ih =>
                intro hp' u h0 hu hmem
                simp only [frz] at hu
                split at hu
                · rename_i t'' k'' f'' hq
                  split at hu
                  · rename_i u' hu'
                    rcases List.mem_cons.1 hmem with rfl | hmem
                    · rw [h0] at hq; cases hq
                    · refine ih _ _ ?_ hu' hmem
                      unfold setF
                      cases hb : Nat.beq N q with
                      | true => have := Nat.eq_of_beq_eq_true hb; subst this; rw [h0] at hq; cases hq
                      | false => exact h0
                  · cases hu
                · rename_i ds hq
                  rcases List.mem_cons.1 hmem with rfl | hmem
                  · rw [h0] at hq; cases hq
                  · exact ih _ _ h0 hu hmem
                · cases hu
            exact key _ _ _ (by simp [Nat.beq_refl]) hfr hm
          have hN1 : (heapSet st.heap l').getD N none = some (.own t' n' f') := by rw [heapSet_ne l' _ hnot]; exact hNN
          obtain ⟨size', xs, s1, s2, s3, s4⟩ := f1.ok N _ hN1
          have : size' = size + 1 := by rw [s1] at hs; exact Option.some.inj hs
          subst this
          exact ⟨xs, s3, s4, .inr ⟨N, t', n', f', rfl, hN1, rfl⟩⟩
        · cases hown
      · cases hown
    · cases hown
  obtain ⟨xs, ho1, ho2, ho3⟩ := hold
  have hsz : 0 < size + 1 := by omega
  -- what is appended
  have hnew : ∃ news : List Value, (((∃ oa cap, ren β v = .slice oa 0 cap) ∧ k = 0) ∨ ∃ b o cap, ren β v = .slice (some ⟨b, o, none⟩) k cap ∧ ∀ (j : Nat) u, news[j]? = some u → w.cell? ⟨b, o + j, none⟩ = some u) ∧ news.length = k * (size + 1) ∧ (∀ u ∈ news, oneCellB u = true) ∧
      ∀ i, i < k → (g i).length = size + 1 ∧ ∀ j, j < size + 1 → ∃ v, news[i * (size + 1) + j]? = some v ∧ DenC w (NF w0 β (heapSet st.heap l') w) ((g i).getD j default) v := by
    rcases asRow_spec hhp m hrow with ⟨q1, rfl⟩ | ⟨b, q, cap, size', q1, q2⟩
    · exact ⟨[], .inl ⟨q1, rfl⟩, by simp, fun u hu => (by cases hu), fun i hi => by omega⟩
    · by_cases hk0 : k = 0
      · subst hk0
        exact ⟨[], .inr ⟨b, q, cap, q1, fun j u hu => by simp at hu⟩, by simp, fun u hu => (by cases hu), fun i hi => by omega⟩
      · -- the elements have the size of the type
        have hel : size' = size + 1 := by
          rw [← (q2 0 (by omega)).1]; exact hgl.resolve_right hk0
        subst hel
        have hcell : ∀ i, i < k → ∀ j, j < size + 1 → ∃ v, w.cell? ⟨b, q + (i * (size + 1) + j), none⟩ = some v ∧ DenC w (NF w0 β st.heap w) ((g i).getD j default) v := fun i hi j hj => by
          obtain ⟨hl, us, hd, hcl⟩ := q2 i hi
          obtain ⟨d, hd'⟩ : ∃ d, (g i)[j]? = some d := ⟨_, List.getElem?_eq_getElem (by omega)⟩
          obtain ⟨v, v1, v2⟩ := hd.at_ j d hd'
          refine ⟨v, ?_, by rw [List.getD_eq_getElem?_getD, hd']; exact v2⟩
          have := hcl j v v1
          rwa [show q + i * (size + 1) + j = q + (i * (size + 1) + j) by omega] at this
        have hget : ∀ j, j < k * (size + 1) → ((List.range (k * (size + 1))).map fun j => (w.cell? ⟨b, q + j, none⟩).getD (.bool false))[j]? = some ((w.cell? ⟨b, q + j, none⟩).getD (.bool false)) := fun j hj => by
          rw [List.getElem?_map, List.getElem?_range hj]; rfl
        have hdiv : ∀ j, j < k * (size + 1) → j / (size + 1) < k ∧ j % (size + 1) < size + 1 ∧ j = j / (size + 1) * (size + 1) + j % (size + 1) := fun j hj =>
          ⟨Nat.div_lt_of_lt_mul (by rw [Nat.mul_comm]; exact hj), Nat.mod_lt _ hsz, by rw [Nat.mul_comm]; exact (Nat.div_add_mod j (size + 1)).symm⟩
        refine ⟨(List.range (k * (size + 1))).map fun j => (w.cell? ⟨b, q + j, none⟩).getD (.bool false), .inr ⟨b, q, cap, q1, fun j u hu => ?_⟩, by simp, fun u hu => ?_, fun i hi => ⟨(q2 i hi).1, fun j hj => ?_⟩⟩
        · have hj : j < k * (size + 1) := by
            rcases Nat.lt_or_ge j (k * (size + 1)) with h | h
            · exact h
            · rw [List.getElem?_eq_none (by simpa using h)] at hu; cases hu
          rw [hget j hj] at hu
          simp only [Option.some.injEq] at hu
          obtain ⟨d1, d2, d3⟩ := hdiv j hj
          obtain ⟨v', c1, _⟩ := hcell _ d1 _ d2
          rw [← d3] at c1
          rw [c1] at hu ⊢
          simpa using hu
        · obtain ⟨j, hj, rfl⟩ := List.mem_map.1 hu
          have hj := List.mem_range.1 hj
          obtain ⟨d1, d2, d3⟩ := hdiv j hj
          obtain ⟨v', c1, c2⟩ := hcell _ d1 _ d2
          rw [← d3] at c1
          rw [c1]
          exact c2.one
        · obtain ⟨v', c1, c2⟩ := hcell i hi j hj
          have hb' : (i + 1) * (size + 1) ≤ k * (size + 1) := Nat.mul_le_mul_right _ hi
          rw [Nat.add_mul, Nat.one_mul] at hb'
          refine ⟨v', ?_, c2.mono fun b hb => ⟨f2 b hb, rfl⟩⟩
          rw [hget _ (by omega), c1]; rfl
  obtain ⟨news, n1, n2, n3, n4⟩ := hnew
  have hu : ∃ e', P.underlying t = some (.slice e') ∧ e' = e := by
    unfold sliceOf at he
    split at he
    · rename_i e' hu; exact ⟨e', hu, by simpa using he⟩
    · cases he
  obtain ⟨e', hu1, rfl⟩ := hu
  have hmul : (n + k) * by_ ≤ 140737488355328 := by
    have : (((n + k) * by_ : Nat) : Int) ≤ 140737488355328 := by rw [Int.natCast_mul]; exact h1
    omega
  obtain ⟨v', w', hrun, hown', hgrown, hblk⟩ := append_run (P := P) m.mem.below.size t o.type e' hu1 hs hsz hby hz hzl ho1 n1 n2 n3 (by unfold maxLen; omega) hmul
  have hv1 : oneCellB v' = true := by
    rcases hown'.2 with ⟨rfl, _⟩ | ⟨_, _, _, rfl, _⟩ <;> rfl
  have hfn : (heapSet st.heap l').getD fresh none = none := by rw [heapSet_ne l' _ fun c hc' => hne fresh (.inr hn) c hc']; exact hn
  have hmem := append_mem (w0 := w0) (β := β) f1 (fresh := fresh) (by rw [heapSet_length]; exact hf) hfn (old := l) (row := (ren β u).ownBlock) ho3 (v' := v') hv1 hblk hgrown (e := e') (n := n + k) (f := appF n f g) (fun hNF => by
    refine ⟨size + 1, xs ++ news, hs, hsz, hown', fun i hi => ?_⟩
    by_cases hin : i < n
    · have ea : appF n f g i = f i := by unfold appF; rw [show Nat.blt i n = true from by rw [Nat.blt_eq]; exact hin]; rfl
      rw [ea]
      refine ⟨(ho2 i hin).1, fun j hj => ?_⟩
      obtain ⟨v0, c1, c2⟩ := (ho2 i hin).2 j hj
      refine ⟨v0, ?_, c2.mono hNF⟩
      rw [List.getElem?_append_left]
      · exact c1
      · exact (List.getElem?_eq_some_iff.1 c1).1
    · have ea : appF n f g i = g (i - n) := by unfold appF; rw [show Nat.blt i n = false from by rw [Bool.eq_false_iff]; intro h; rw [Nat.blt_eq] at h; exact hin h]; rfl
      rw [ea]
      refine ⟨(n4 (i - n) (by omega)).1, fun j hj => ?_⟩
      obtain ⟨v0, c1, c2⟩ := (n4 (i - n) (by omega)).2 j hj
      refine ⟨v0, ?_, c2.mono hNF⟩
      have hmul : i * (size + 1) = n * (size + 1) + (i - n) * (size + 1) := by rw [← Nat.add_mul]; congr 1; omega
      rw [List.getElem?_append_right (by rw [ho1.1]; omega), ho1.1, show i * (size + 1) + j - n * (size + 1) = (i - n) * (size + 1) + j by omega]
      exact c1)
  refine wp_value (u := v') (w' := w') ?_ (hK (bump β fresh (0, fun _ => v')) v' w' [] ⟨fun q c hq => bump_ne fun e => (by rw [e, hn] at hq; cases hq), ?_, fun q hq => ?_, ?_⟩)
  · simp only [execOp, ho, Go.resolve, invoke, builtin, Sem.run_bind, Sem.run_pure, Result.andThen_ok, List.map_toArray, List.map_cons, List.map_nil, hx', hy', hrun]
  · show v' = ren _ _
    simp only [ren, ren1, ren0, renP]
    rw [bump_at]
  · simp only [names, refs, refs1, refs0, refsP, List.mem_singleton] at hq; subst hq
    rw [heapSet_append]
    exact ⟨_, by simp only [heapSet]; rw [getD_set'', if_pos ⟨rfl, by rw [heapSet_length]; exact hf⟩]⟩
  · dsimp only
    rw [List.append_assoc, heapSet_append]
    exact hmem

/-! ### calls -/
/-- what a call of function K gives: what its arguments' memory shows decides; nothing that was there changes -/
def CallD (P : Program) (K : Nat) (args : List DV) (res : RV) : Prop := ∀ (w : World) (F : Nat → Prop) (us : List Value), (∀ b, F b → b < w.heap.size) → DenVs w F args us →
  match (callFunc K us.toArray).run P w with
  | .ok (.value u) w' => DenR w' (fun b => F b ∨ (w.heap.size ≤ b ∧ b < w'.heap.size)) res u ∧ Below w.heap.size w w'
  | .ok (.enter f as) w' => w' = w ∧ Calls P f as w (fun e w'' => ∃ u, e = .returned u ∧ DenR w'' (fun b => F b ∨ (w.heap.size ≤ b ∧ b < w''.heap.size)) res u ∧ Below w.heap.size w w'')
  | _ => False

/-- blocks that hold what is lent -/
def LentAt (w : World) : List Nat → Lent → Prop
  | [], [] => True
  | b :: bs, (t, cs) :: l => w.heap[b]? = some (.cells cs.toArray t (0, 0)) ∧ LentAt w bs l
  | _, _ => False
def zipL : Lent → List (List Value) → Lent
  | (t, _) :: l, o :: os => (t, o) :: zipL l os
  | _, _ => []
def capsAt (bs : List Nat) : List (Nat × Nat) → List Value → Prop
  | [], [] => True
  | c :: cs, v :: vs => (∃ b, bs[c.1]? = some b ∧ v = .pointer (some ⟨b, c.2, none⟩)) ∧ capsAt bs cs vs
  | _, _ => False
def DenLA (w : World) (F : Nat → Prop) (bs : List Nat) : LA → Value → Prop
  | .d v, u => DenV w F v u
  | .lp i off, u => ∃ b, bs[i]? = some b ∧ u = .pointer (some ⟨b, off, none⟩)
  | .fn K cs, u => ∃ vs, u = .func (.func K) #[] vs.toArray ∧ capsAt bs cs vs
def DenLAs (w : World) (F : Nat → Prop) (bs : List Nat) : List LA → List Value → Prop
  | [], [] => True
  | a :: l, u :: us => DenLA w F bs a u ∧ DenLAs w F bs l us
  | _, _ => False
/-- nothing that was there has changed but the lent blocks -/
structure LentPost (w w' : World) (bs : List Nat) (l : Lent) : Prop where
  os : w'.os = w.os
  tape : w'.tape = w.tape
  output : w'.output = w.output
  size : w.heap.size ≤ w'.heap.size
  block : ∀ k, k < w.heap.size → k ∉ bs → w'.heap[k]? = w.heap[k]?
  lent : LentAt w' bs l
/-- what a call of function K gives that is lent cells: it may write them -/
def CallX (P : Program) (K : Nat) (as : List LA) (lent : Lent) (u : Value) (out : List (List Value)) : Prop := ∀ (w : World) (F : Nat → Prop) (bs : List Nat) (us : List Value), (∀ b, F b → b < w.heap.size) → bs.Nodup → (∀ b, b ∈ bs → ¬ F b) → LentAt w bs lent → DenLAs w F bs as us →
  match (callFunc K us.toArray).run P w with
  | .ok (.value u') w' => u' = u ∧ LentPost w w' bs (zipL lent out)
  | .ok (.enter f as) w' => w' = w ∧ Calls P f as w (fun e w'' => e = .returned u ∧ LentPost w w'' bs (zipL lent out))
  | _ => False

structure TabsOk (P : Program) (X : Tabs) : Prop where
  tb : TbOk P X.tb
  tx : ∀ K f as lent u out ps, X.tx K = some f → f as lent = some (u, out, ps) → allP ps → CallX P K as lent u out
  td : ∀ K args r ps, X.td K args = some (r, ps) → allP ps → CallD P K args r

theorem toDV_den (m : Mem w0 β st.heap w) {hp : Nat → Option HE} (hhp : ∀ n c, hp n = some c → c = .gone ∨ st.heap.getD n none = some c) {F : Nat → Prop} (hF : ∀ b, NF w0 β st.heap w b → F b) {c : Value} {d : DV} (hc : toDV hp c = some d)
    (hO : ∀ n ∈ refs c, ∀ t k f, st.heap.getD n none = some (.own t k f) → ∀ b, ((β n).2 0).ownBlock = some b → F b) (hC : (∀ n ∈ refs c, ∀ t cs, st.heap.getD n none ≠ some (.cells t cs)) ∨ (∀ b, b < w.heap.size → F b) ∨ ∀ n t cs, hp n ≠ some (.cells t cs)) : DenV w F d (ren β c) := by
  unfold toDV at hc
  split at hc
  · rename_i vs
    split at hc
    · rename_i ds hds
      simp only [Option.some.injEq] at hc; subst hc
      refine ⟨_, rfl, ?_⟩
      have := toDCs_den m hhp hF hds (fun c hcm n hn t k f hhe b hb => hO n (refsL_mem.2 ⟨c, hcm, hn⟩) t k f hhe b hb)
      simpa using this
    · cases hc
  · rename_i hnot
    split at hc
    · rename_i d' hd
      simp only [Option.some.injEq] at hc; subst hc
      show DenC w F d' (ren β c)
      unfold toDC at hd
      split at hd
      · rename_i ad
        obtain ⟨b, q, sp⟩ := ad
        dsimp only at hd
        split at hd
        · rename_i t' cs' hb
          split at hd
          · rename_i ds hds
            simp only [Option.some.injEq] at hd; subst hd
            have hn := (hhp b _ hb).resolve_left (by simp)
            have hok := m.ok b _ hn
            have hall : ∀ b, b < w.heap.size → F b := (hC.resolve_left fun h => h b (by simp [refs, refs1, refs0, refsP]) _ _ hn).resolve_right fun h => h b _ _ hb
            have hden := toDCs_den m hhp hF hds (fun c hcm n hn' t k f hhe b hb => hall b (m.ownlt hhe hb).2)
            show DenC w F (.ptr ds) (.pointer (some ⟨(β b).1, 0, none⟩))
            have hl := (mapO_spec hds).1
            refine .ptr ds (β b).1 0 (fun j => (cs'.map (ren0 β)).getD j undef) (hall _ (m.lt hn (b := (β b).1) rfl).2) (fun j hj => ?_) (fun j hj => ?_)
            · have hj' : j < (cs'.map (ren0 β)).length := by rw [List.length_map]; omega
              simp only [World.cell?, hok.1, Option.isSome_none, Bool.false_eq_true, if_false]
              rw [Nat.zero_add, List.getElem?_toArray, List.getD_eq_getElem?_getD, List.getElem?_eq_getElem hj']; rfl
            · obtain ⟨d, hd'⟩ : ∃ d, ds[j]? = some d := ⟨_, List.getElem?_eq_getElem hj⟩
              obtain ⟨v, v1, v2⟩ := hden.at_ j d hd'
              rw [List.getD_eq_getElem?_getD, hd', List.getD_eq_getElem?_getD, v1]
              exact v2
          · cases hd
        · cases hd
        · exact toDC0_den m hhp hF hd hO
      · have h1 : oneCellB c = true := by
          unfold toDC0 at hd
          split at hd
          · rfl
          · rfl
          · rfl
          · split at hd
            · rename_i hx; simp only [Bool.and_eq_true] at hx; exact hx.2
            · cases hd
        rw [ren_one h1]
        rw [refs_one h1] at hO
        exact toDC0_den m hhp hF hd hO
    · cases hc
theorem toDVs_den (m : Mem w0 β st.heap w) {hp : Nat → Option HE} (hhp : ∀ n c, hp n = some c → c = .gone ∨ st.heap.getD n none = some c) {F : Nat → Prop} (hF : ∀ b, NF w0 β st.heap w b → F b) : ∀ {vs : List Value} {ds : List DV}, toDVs hp vs = some ds →
    (∀ n ∈ refsL refs vs, ∀ t k f, st.heap.getD n none = some (.own t k f) → ∀ b, ((β n).2 0).ownBlock = some b → F b) → ((∀ n ∈ refsL refs vs, ∀ t cs, st.heap.getD n none ≠ some (.cells t cs)) ∨ ∀ b, b < w.heap.size → F b) → DenVs w F ds (vs.map (ren β))
  | [], ds, hc, _, _ => by simp only [toDVs, Option.some.injEq] at hc; subst hc; trivial
  | v :: vs, ds, hc, hO, hC => by
    simp only [toDVs] at hc
    split at hc
    · rename_i d ds' hd hds
      simp only [Option.some.injEq] at hc; subst hc
      have mem : ∀ n, n ∈ refs v → n ∈ refsL refs (v :: vs) := fun n hn => by simp only [refsL, List.mem_append]; exact .inl hn
      have mem' : ∀ n, n ∈ refsL refs vs → n ∈ refsL refs (v :: vs) := fun n hn => by simp only [refsL, List.mem_append]; exact .inr hn
      exact ⟨toDV_den m hhp hF hd (fun n hn => hO n (mem n hn)) (hC.imp (fun h n hn => h n (mem n hn)) .inl), toDVs_den m hhp hF hds (fun n hn => hO n (mem' n hn)) (hC.imp (fun h n hn => h n (mem' n hn)) id)⟩
    · cases hc

theorem instC_append (fresh : Nat) : ∀ (a b : List DC) (j : Nat), instC fresh j (a ++ b) = instC fresh j a ++ instC fresh (j + a.length) b
  | [], b, j => rfl
  | d :: a, b, j => by
    have e : j + 1 + a.length = j + (d :: a).length := by simp only [List.length_cons]; omega
    cases d <;> simp only [List.cons_append, instC] <;> rw [instC_append fresh a b (j + 1), e]
theorem instC_one {N : Nat → Prop} {fresh j : Nat} : ∀ {ds : List DC} {us : List Value}, DenL w N ds us → ∀ y ∈ instC fresh j ds, oneCellB y = true := by
  intro ds
  induction ds generalizing j with
  | nil => intro us _ y hy; cases hy
  | cons d ds ih =>
    intro us hd y hy
    cases us with
    | nil => exact hd.elim
    | cons u us =>
      cases d with
      | p x =>
        simp only [instC, List.mem_cons] at hy
        rcases hy with rfl | hy
        · cases hd.1; assumption
        · exact ih hd.2 y hy
      | row n f =>
        simp only [instC, List.mem_cons] at hy
        rcases hy with rfl | hy
        · rfl
        · exact ih hd.2 y hy
      | ptr c =>
        simp only [instC, List.mem_cons] at hy
        rcases hy with rfl | hy
        · rfl
        · exact ih hd.2 y hy
/-- the cells of what a call returns -/
theorem DenV_cells {N : Nat → Prop} {v : DV} {u : Value} (h : DenV w N v u) : ∃ us, DenL w N (cellsV v) us ∧ ∀ (fresh j : Nat) (β : Env), (instC fresh j (cellsV v)).map (ren0 β) = us → ren1 β (instV fresh j v) = u ∧ (∀ n ∈ refs1 (instV fresh j v), ∃ y ∈ instC fresh j (cellsV v), n ∈ refs0 y) := by
  cases v with
  | one d =>
    refine ⟨[u], ⟨h, trivial⟩, fun fresh j β hi => ?_⟩
    have hlen := instC_length fresh [d] j
    have h1 := instC_one (fresh := fresh) (j := j) (w := w) (N := N) (ds := [d]) (us := [u]) ⟨h, trivial⟩
    simp only [cellsV, instV] at *
    cases hc : instC fresh j [d] with
    | nil => rw [hc] at hlen; cases hlen
    | cons y l =>
      rw [hc] at hi h1
      simp only [List.map_cons, List.cons.injEq] at hi
      have hy1 := h1 y (by simp)
      have e1 : ren1 β y = ren0 β y := by cases y <;> first | rfl | cases hy1
      have e2 : refs1 y = refs0 y := by cases y <;> first | rfl | cases hy1
      exact ⟨by show ren1 β y = u; rw [e1, hi.1], fun n hn => ⟨y, by simp, by rw [← e2]; exact hn⟩⟩
  | agg ds =>
    obtain ⟨us, rfl, hd⟩ := h
    refine ⟨us.toList, hd, fun fresh j β hi => ⟨?_, fun n hn => refsL_mem.1 hn⟩⟩
    simp only [cellsV, instV, ren1] at *
    rw [hi]
theorem DenVs_cells {N : Nat → Prop} : ∀ {vs : List DV} {us : List Value}, DenVs w N vs us → ∃ ws, DenL w N (cellsVs vs) ws ∧ ∀ (fresh j : Nat) (β : Env), (instC fresh j (cellsVs vs)).map (ren0 β) = ws → (instVs fresh j vs).map (ren1 β) = us ∧ (∀ v ∈ instVs fresh j vs, ∀ n ∈ refs1 v, ∃ y ∈ instC fresh j (cellsVs vs), n ∈ refs0 y)
  | [], [], _ => ⟨[], trivial, fun _ _ _ _ => ⟨rfl, fun v hv => by cases hv⟩⟩
  | v :: vs, u :: us, h => by
    obtain ⟨ws1, d1, k1⟩ := DenV_cells h.1
    obtain ⟨ws2, d2, k2⟩ := DenVs_cells h.2
    refine ⟨ws1 ++ ws2, ?_, fun fresh j β hi => ?_⟩
    · refine DenL.of (by simp only [cellsVs, List.length_append]; rw [d1.length, d2.length]) fun j d hj => ?_
      simp only [cellsVs] at hj
      by_cases hlt : j < (cellsV v).length
      · rw [List.getElem?_append_left hlt] at hj
        obtain ⟨x, x1, x2⟩ := d1.at_ j d hj
        exact ⟨x, by rw [List.getElem?_append_left (by rw [d1.length]; exact hlt)]; exact x1, x2⟩
      · rw [List.getElem?_append_right (by omega)] at hj
        obtain ⟨x, x1, x2⟩ := d2.at_ _ d hj
        exact ⟨x, by rw [List.getElem?_append_right (by rw [d1.length]; omega), d1.length]; exact x1, x2⟩
    · simp only [cellsVs] at hi ⊢
      rw [instC_append, List.map_append] at hi
      obtain ⟨i1, i2⟩ := List.append_inj hi (by rw [List.length_map, instC_length, d1.length])
      obtain ⟨a1, a2⟩ := k1 fresh j β i1
      obtain ⟨b1, b2⟩ := k2 fresh _ β i2
      simp only [instVs, List.map_cons]
      rw [a1, b1]
      refine ⟨rfl, fun x hx n hn => ?_⟩
      rcases List.mem_cons.1 hx with rfl | hx
      · obtain ⟨y, y1, y2⟩ := a2 n hn
        exact ⟨y, by rw [instC_append]; exact List.mem_append.2 (.inl y1), y2⟩
      · obtain ⟨y, y1, y2⟩ := b2 x hx n hn
        exact ⟨y, by rw [instC_append]; exact List.mem_append.2 (.inr y1), y2⟩
  | [], _ :: _, h => h.elim
  | _ :: _, [], h => h.elim
theorem instV_tup (fresh j : Nat) (v : DV) {N : Nat → Prop} {us : List Value} (hd : DenL w N (cellsV v) us) : (∀ q, instV fresh j v ≠ .tuple q) ∨ ∃ d, v = .one d ∧ us = [] := by
  cases v with
  | agg ds => exact .inl fun q h => by cases h
  | one d =>
    refine .inl fun q h => ?_
    have h1 := instC_one (fresh := fresh) (j := j) hd
    have hlen := instC_length fresh [d] j
    simp only [cellsV, instV] at *
    cases hc : instC fresh j [d] with
    | nil => rw [hc] at hlen; cases hlen
    | cons y l =>
      rw [hc] at h h1
      have hy := h1 y (by simp)
      have h : y = .tuple q := h
      rw [h] at hy; cases hy
theorem DenR_cells {N : Nat → Prop} {r : RV} {u : Value} (h : DenR w N r u) : ∃ us, DenL w N (cellsR r) us ∧ ∀ (fresh : Nat) (β : Env), (instC fresh 0 (cellsR r)).map (ren0 β) = us → ren β (instR fresh r) = u ∧ (∀ n ∈ refs (instR fresh r), ∃ y ∈ instC fresh 0 (cellsR r), n ∈ refs0 y) := by
  cases r with
  | val v =>
    obtain ⟨us, hd, k⟩ := DenV_cells h
    refine ⟨us, hd, fun fresh β hi => ?_⟩
    obtain ⟨k1, k2⟩ := k fresh 0 β hi
    have hnt : ∀ q, instV fresh 0 v ≠ .tuple q := by
      rcases instV_tup fresh 0 v hd with h | ⟨d, rfl, rfl⟩
      · exact h
      · exact hd.elim
    have e1 : ren β (instV fresh 0 v) = ren1 β (instV fresh 0 v) := by
      cases hv : instV fresh 0 v <;> first | rfl | exact absurd hv (hnt _)
    have e2 : refs (instV fresh 0 v) = refs1 (instV fresh 0 v) := by
      cases hv : instV fresh 0 v <;> first | rfl | exact absurd hv (hnt _)
    exact ⟨by show ren β (instV fresh 0 v) = u; rw [e1, k1], fun n hn => k2 n (by rw [← e2]; exact hn)⟩
  | tup vs =>
    obtain ⟨us, rfl, h⟩ := h
    obtain ⟨ws, hd, k⟩ := DenVs_cells h
    refine ⟨ws, hd, fun fresh β hi => ?_⟩
    obtain ⟨k1, k2⟩ := k fresh 0 β hi
    refine ⟨?_, fun n hn => ?_⟩
    · show ren β (.tuple (instVs fresh 0 vs).toArray) = _
      simp only [ren]
      rw [k1]
    · have hn' : n ∈ refsL refs1 (instVs fresh 0 vs) := hn
      obtain ⟨v, v1, v2⟩ := refsL_mem.1 hn'
      exact k2 v v1 n v2

/-- a call by its contract over what its arguments show -/
theorem callAny_sound {X : Tabs} (ht : TabsOk P X) {hp : Nat → Option HE} (hhp : ∀ n c, hp n = some c → st.heap.getD n none = some c) {fresh F : Nat} {vs : List Value} (m : M w0 β st a w) (hfr : X.dres F = true → fresh < st.heap.length ∧ st.heap.getD fresh none = none)
    (hrun : (execOp a.eval o).run P w = (callFunc F (vs.map (ren β)).toArray).run P w) (h : callAny X hp fresh F vs = some r) (hs : allP r.sides) (hK : ∀ β' u w', Post w0 β st.slots st.heap r u β' w' → K (a.put o.dst u) w') : o.wp P a w K Q := by
  have hhp' : ∀ n c, hp n = some c → c = .gone ∨ st.heap.getD n none = some c := fun n c h => .inr (hhp n c h)
  unfold callAny at h
  split at h
  · rename_i ds hds
    split at h
    · rename_i rv ps htd
      unfold callRes at h
      split at h
      · rename_i hp1
        split at h
        · rename_i hfl
          simp only [Option.some.injEq] at h; subst h
          -- a result without depth
          have hden := toDVs_den m.mem hhp' (F := fun b => b < w.heap.size) (fun b hb => NF_lt m.mem.below hb) hds (fun n _ t k f hhe b hb => (m.mem.ownlt hhe hb).2) (.inr fun b hb => hb)
          have hcall := ht.td F ds rv ps htd hs w (fun b => b < w.heap.size) _ (fun b hb => hb) hden
          have hpost : ∀ u w' N, Below w.heap.size w w' → DenR w' N rv u → Post w0 β st.slots st.heap { val := .v (instR fresh rv), upd := [], sides := ps } u β w' := fun u w' N hb hd => by
            obtain ⟨us, d1, k⟩ := DenR_cells hd
            obtain ⟨k1, k2⟩ := k fresh β (inst_flat _ _ 0 d1 hp1 hfl)
            refine ⟨fun _ _ _ => rfl, k1.symm, fun n hn => ?_, m.mem.call hb⟩
            obtain ⟨y, y1, y2⟩ := k2 n hn
            have := (inst_refs _ 0 hp1 y y1 n y2).2
            rw [hfl] at this; cases this
          unfold Oper.wp
          rw [hrun]
          split at hcall
          · rename_i u' w' hr
            rw [hr]
            obtain ⟨hd, hb⟩ := hcall
            exact hK β u' w' (hpost _ _ _ hb hd)
          · rename_i f' as w' hr
            rw [hr]
            obtain ⟨rfl, hcs⟩ := hcall
            refine hcs.mono fun e w'' he => ?_
            obtain ⟨u, rfl, hd, hb⟩ := he
            exact hK β u w'' (hpost _ _ _ hb hd)
          · exact hcall.elim
        · rename_i hfl
          have hfl : flatD (cellsR rv) = false := by simpa using hfl
          split at h
          · rename_i l hdeep hfrz
            simp only [Option.some.injEq] at h; subst h
            obtain ⟨hf, hn⟩ := hfr hdeep
            obtain ⟨f1, f2, f3, f4⟩ := frz_sound (refsL refs vs) m.mem hhp' hfrz
            have hfn : (heapSet st.heap l).getD fresh none = none := by
              rw [heapSet_ne l _ fun c hc => by
                obtain ⟨_, ⟨t', k', f', h3⟩, _⟩ := f4 fresh c hc
                rw [hn] at h3; cases h3]
              exact hn
            have hden := toDVs_den m.mem hhp' (F := NF w0 β (heapSet st.heap l) w) f2 hds (fun n hn t k f hhe b hb => (f3 n hn _ hhe).2 b hb) (.inl fun n hn t cs hx => (f3 n hn _ hx).1 t cs rfl)
            have hcall := ht.td F ds rv ps htd hs w (NF w0 β (heapSet st.heap l) w) _ (fun b hb => NF_lt f1.below hb) hden
            have hpost : ∀ u w', Below w.heap.size w w' → DenR w' (fun b => NF w0 β (heapSet st.heap l) w b ∨ (w.heap.size ≤ b ∧ b < w'.heap.size)) rv u → ∃ β', Post w0 β st.slots st.heap { val := .v (instR fresh rv), upd := l ++ [(fresh, .deep (cellsR rv))], sides := ps } u β' w' := fun u w' hb hd => by
              have f1' := f1.call hb
              have hd' : DenR w' (NF w0 β (heapSet st.heap l) w') rv u := hd.mono fun b hx => ⟨by
                rcases hx with (z | z) | z
                · exact .inl z
                · exact .inr ⟨z.1, Nat.lt_of_lt_of_le z.2.1 hb.size, z.2.2⟩
                · exact .inr ⟨Nat.le_trans f1.below.size z.1, z.2, fun q c hq hx => by have := (f1.lt hq hx).2; omega⟩, rfl⟩
              obtain ⟨us, d1, k⟩ := DenR_cells hd'
              obtain ⟨β', b1, b2, b3, b4, _⟩ := inst_mem f1' (fresh := fresh) (fun _ => ⟨by rw [heapSet_length]; exact hf, hfn⟩) d1 hp1
              obtain ⟨k1, k2⟩ := k fresh β' (b3 0 rfl)
              have hu : updD fresh (cellsR rv) = [(fresh, .deep (cellsR rv))] := by unfold updD; rw [hfl]
              rw [hu] at b2 b4
              refine ⟨β', fun n c hc => ?_, k1.symm, fun n hn' => ?_, ?_⟩
              · obtain ⟨d, hd⟩ := heapSet_some l _ hc
                exact b1 n d hd
              · obtain ⟨y, y1, y2⟩ := k2 n hn'
                rw [heapSet_append]
                exact b4 y y1 n y2
              · dsimp only
                rw [heapSet_append]; exact b2
            unfold Oper.wp
            rw [hrun]
            split at hcall
            · rename_i u' w' hr
              rw [hr]
              obtain ⟨hd, hb⟩ := hcall
              obtain ⟨β', hp'⟩ := hpost u' w' hb hd
              exact hK β' u' w' hp'
            · rename_i f' as w' hr
              rw [hr]
              obtain ⟨rfl, hcs⟩ := hcall
              refine hcs.mono fun e w'' he => ?_
              obtain ⟨u, rfl, hd, hb⟩ := he
              obtain ⟨β', hp'⟩ := hpost u w'' hb hd
              exact hK β' u w'' hp'
            · exact hcall.elim
          · cases h
      · cases h
    · cases h
  · cases h
/-! ### calls that are lent cells -/
theorem ixAt_spec {n : Nat} : ∀ {l : List Nat} {k i : Nat}, ixAt n k l = some i → k ≤ i ∧ l[i - k]? = some n
  | [], k, i, h => by cases h
  | m :: l, k, i, h => by
    simp only [ixAt] at h
    cases hb : Nat.beq m n with
    | true =>
      rw [hb] at h
      simp only [cond_true, Option.some.injEq] at h; subst h
      rw [Nat.sub_self, Nat.eq_of_beq_eq_true hb]; exact ⟨Nat.le_refl _, rfl⟩
    | false =>
      rw [hb] at h
      obtain ⟨h1, h2⟩ := ixAt_spec (l := l) h
      refine ⟨by omega, ?_⟩
      rw [show i - k = (i - (k + 1)) + 1 by omega]; exact h2
theorem ixAt_none {n : Nat} : ∀ {l : List Nat} {k : Nat}, ixAt n k l = none → n ∉ l
  | [], _, _ => by simp
  | m :: l, k, h => by
    simp only [ixAt] at h
    cases hb : Nat.beq m n with
    | true => rw [hb] at h; cases h
    | false =>
      rw [hb] at h
      have := ixAt_none (l := l) h
      simp only [List.mem_cons, not_or]
      exact ⟨fun e => (by rw [e, Nat.beq_refl] at hb; cases hb), this⟩
theorem addN_spec (l : List Nat) (n : Nat) : (addN l n).1[(addN l n).2]? = some n ∧ (∀ (i m : Nat), l[i]? = some m → (addN l n).1[i]? = some m) ∧ (l.Nodup → (addN l n).1.Nodup) := by
  unfold addN
  split
  · rename_i k hk
    exact ⟨(by have := (ixAt_spec hk).2; simpa using this), fun i m h => h, id⟩
  · rename_i hk
    refine ⟨by simp, fun i m h => ?_, fun h => ?_⟩
    · rw [List.getElem?_append_left (List.getElem?_eq_some_iff.1 h).1]; exact h
    · rw [List.nodup_append]
      exact ⟨h, by simp, fun a ha b hb => by simp only [List.mem_singleton] at hb; subst hb; exact fun e => ixAt_none hk (e ▸ ha)⟩
/-- the second list goes on where the first one ends -/
def Ext (l l' : List Nat) : Prop := (∀ (i m : Nat), l[i]? = some m → l'[i]? = some m) ∧ (l.Nodup → l'.Nodup)
theorem Ext.refl (l : List Nat) : Ext l l := ⟨fun _ _ h => h, id⟩
theorem Ext.trans {a b c : List Nat} (h : Ext a b) (k : Ext b c) : Ext a c := ⟨fun i m x => k.1 i m (h.1 i m x), fun x => k.2 (h.2 x)⟩
theorem Ext.add (l : List Nat) (n : Nat) : Ext l (addN l n).1 := ⟨(addN_spec l n).2.1, (addN_spec l n).2.2⟩
theorem lendCaps_spec : ∀ {vs : List Value} {l l' : List Nat} {cs : List (Nat × Nat)}, lendCaps l vs = some (l', cs) → Ext l l' ∧ ∀ (σ : List Nat) (β : Env), (∀ (i m : Nat), l'[i]? = some m → σ[i]? = some m) → capsAt (σ.map fun n => (β n).1) cs (vs.map (renP β))
  | [], l, l', cs, h => by
    simp only [lendCaps, Option.some.injEq, Prod.mk.injEq] at h
    obtain ⟨rfl, rfl⟩ := h
    exact ⟨Ext.refl _, fun _ _ _ => trivial⟩
  | v :: vs, l, l', cs, h => by
    cases v with
    | pointer ad =>
      cases ad with
      | none => simp [lendCaps] at h
      | some ad =>
        obtain ⟨b, off, sp⟩ := ad
        cases sp with
        | some q => simp [lendCaps] at h
        | none =>
          simp only [lendCaps] at h
          split at h
          · rename_i l2 cs2 h2
            simp only [Option.some.injEq, Prod.mk.injEq] at h
            obtain ⟨rfl, rfl⟩ := h
            obtain ⟨i1, i2⟩ := lendCaps_spec h2
            refine ⟨(Ext.add l b).trans i1, fun σ β hσ => ⟨⟨(β b).1, ?_, rfl⟩, i2 σ β hσ⟩⟩
            rw [List.getElem?_map, hσ _ b (i1.1 _ b (addN_spec l b).1)]; rfl
          · cases h
    | _ => simp [lendCaps] at h
theorem lendOne_spec {hp : Nat → Option HE} {l l' : List Nat} {v : Value} {x : LA} (h : lendOne hp l v = some (l', x)) : Ext l l' ∧ ∀ (σ : List Nat) (β : Env) (F : Nat → Prop), (∀ (i m : Nat), l'[i]? = some m → σ[i]? = some m) → (∀ v d, toDV (hideC hp) v = some d → DenV w F d (ren β v)) → DenLA w F (σ.map fun n => (β n).1) x (ren β v) := by
  unfold lendOne at h
  split at h
  · rename_i ad
    obtain ⟨b, off, sp⟩ := ad
    cases sp with
    | none =>
      simp only [Option.some.injEq, Prod.mk.injEq] at h
      obtain ⟨rfl, rfl⟩ := h
      refine ⟨Ext.add l b, fun σ β F hσ hd => ⟨(β b).1, ?_, rfl⟩⟩
      rw [List.getElem?_map, hσ _ b (addN_spec l b).1]; rfl
    | some q =>
      dsimp only at h
      split at h
      · rename_i d hd
        simp only [Option.some.injEq, Prod.mk.injEq] at h
        obtain ⟨rfl, rfl⟩ := h
        exact ⟨Ext.refl _, fun σ β F hσ hden => hden _ _ hd⟩
      · cases h
  · rename_i K fst caps
    split at h
    · rename_i l2 cs hf hcs
      simp only [Option.some.injEq, Prod.mk.injEq] at h
      obtain ⟨rfl, rfl⟩ := h
      have hfst : fst = #[] := by apply Array.ext'; rw [hf]
      subst hfst
      obtain ⟨i1, i2⟩ := lendCaps_spec hcs
      exact ⟨i1, fun σ β F hσ _ => ⟨_, rfl, i2 σ β hσ⟩⟩
    · cases h
  · split at h
    · rename_i d hd
      simp only [Option.some.injEq, Prod.mk.injEq] at h
      obtain ⟨rfl, rfl⟩ := h
      exact ⟨Ext.refl _, fun σ β F hσ hden => hden _ _ hd⟩
    · cases h
theorem lendAll_spec {hp : Nat → Option HE} : ∀ {vs : List Value} {l l' : List Nat} {as : List LA}, lendAll hp l vs = some (l', as) → Ext l l' ∧ ∀ (σ : List Nat) (β : Env) (F : Nat → Prop), (∀ (i m : Nat), l'[i]? = some m → σ[i]? = some m) → (∀ v d, toDV (hideC hp) v = some d → DenV w F d (ren β v)) → DenLAs w F (σ.map fun n => (β n).1) as (vs.map (ren β))
  | [], l, l', as, h => by
    simp only [lendAll, Option.some.injEq, Prod.mk.injEq] at h
    obtain ⟨rfl, rfl⟩ := h
    exact ⟨Ext.refl _, fun _ _ _ _ _ => trivial⟩
  | v :: vs, l, l', as, h => by
    simp only [lendAll] at h
    split at h
    · rename_i l1 x h1
      split at h
      · rename_i l2 xs h2
        simp only [Option.some.injEq, Prod.mk.injEq] at h
        obtain ⟨rfl, rfl⟩ := h
        obtain ⟨i1, i2⟩ := lendOne_spec (w := w) h1
        obtain ⟨j1, j2⟩ := lendAll_spec h2
        exact ⟨i1.trans j1, fun σ β F hσ hd => ⟨i2 σ β F (fun i m hm => hσ i m (j1.1 i m hm)) hd, j2 σ β F hσ hd⟩⟩
      · cases h
    · cases h
theorem lentOf_spec {hp : Nat → Option HE} : ∀ {σ : List Nat} {l : Lent}, lentOf hp σ = some l → ∀ n ∈ σ, ∃ t cs, hp n = some (.cells t cs)
  | [], _, _ => fun n hn => by cases hn
  | n :: σ, l, h => by
    simp only [lentOf] at h
    split at h
    · rename_i t cs m hn hm
      split at h
      · intro q hq
        rcases List.mem_cons.1 hq with rfl | hq
        · exact ⟨t, cs, hn⟩
        · exact lentOf_spec hm q hq
      · cases h
    · cases h
theorem lentOf_at {hp : Nat → Option HE} {h : List (Option HE)} (m : Mem w0 β h w) (hhp : ∀ n c, hp n = some c → h.getD n none = some c) : ∀ {σ : List Nat} {l : Lent}, lentOf hp σ = some l → LentAt w (σ.map fun n => (β n).1) l
  | [], l, h => by simp only [lentOf, Option.some.injEq] at h; subst h; trivial
  | n :: σ, l, h => by
    simp only [lentOf] at h
    split at h
    · rename_i t cs ll hn hm
      split at h
      · rename_i hf
        simp only [Option.some.injEq] at h; subst h
        refine ⟨?_, lentOf_at m hhp hm⟩
        have := (m.ok n _ (hhp n _ hn)).1
        rw [map_id_of fun y hy => ren0_flat (allB_iff.1 hf y hy)] at this
        exact this
      · cases h
    · cases h
/-- a world whose block b is another -/
def setBlk (w : World) (b : Nat) (o : Obj) : World := { w with heap := w.heap.setIfInBounds b o }
theorem setBlk_at {b : Nat} (o : Obj) (h : b < w.heap.size) : (setBlk w b o).heap[b]? = some o := by
  show (w.heap.setIfInBounds b o)[b]? = _
  rw [Array.getElem?_setIfInBounds, if_pos rfl, if_pos h]
theorem setBlk_ne {b k : Nat} (o : Obj) (h : k ≠ b) : (setBlk w b o).heap[k]? = w.heap[k]? := by
  show (w.heap.setIfInBounds b o)[k]? = _
  rw [Array.getElem?_setIfInBounds, if_neg (Ne.symm h)]
theorem setBlk_size (b : Nat) (o : Obj) : (setBlk w b o).heap.size = w.heap.size := by
  show (w.heap.setIfInBounds b o).size = _
  rw [Array.size_setIfInBounds]
/-- memory after lent blocks have been written -/
theorem Mem.puts {hp : Nat → Option HE} : ∀ {σ : List Nat} {l : Lent} {os : List (List Value)} {up : List (Nat × HE)} {h : List (Option HE)} {w : World}, Mem w0 β h w → σ.Nodup → lentOf hp σ = some l → (∀ n ∈ σ, ∀ c, hp n = some c → h.getD n none = some c) → lentUpd σ l os = some up →
    ∃ w1, Mem w0 β (heapSet h up) w1 ∧ w1.heap.size = w.heap.size ∧ w1.os = w.os ∧ w1.tape = w.tape ∧ w1.output = w.output ∧ LentAt w1 (σ.map fun n => (β n).1) (zipL l os) ∧ ∀ k, k ∉ (σ.map fun n => (β n).1) → w1.heap[k]? = w.heap[k]?
  | [], l, os, up, h, w, m, _, hl, _, hu => by
    simp only [lentOf, Option.some.injEq] at hl; subst hl
    cases os with
    | nil =>
      simp only [lentUpd, Option.some.injEq] at hu; subst hu
      exact ⟨w, m, rfl, rfl, rfl, rfl, trivial, fun _ _ => rfl⟩
    | cons _ _ => simp [lentUpd] at hu
  | n :: σ, l, os, up, h, w, m, hnd, hl, hhp, hu => by
    simp only [lentOf] at hl
    split at hl
    · rename_i t cs ll hn hm
      split at hl
      · simp only [Option.some.injEq] at hl; subst hl
        cases os with
        | nil => simp [lentUpd] at hu
        | cons o os =>
          simp only [lentUpd] at hu
          split at hu
          · rename_i u hf hlen hu'
            simp only [Option.some.injEq] at hu; subst hu
            obtain ⟨hnn, hnd'⟩ := List.nodup_cons.1 hnd
            have hh := hhp n (by simp) _ hn
            have hlt := m.lt hh (b := (β n).1) rfl
            have he : o.map (ren0 β) = o := map_id_of fun y hy => ren0_flat (allB_iff.1 hf y hy)
            have m1 : Mem w0 β (h.set n (some (.cells t o))) (setBlk w (β n).1 (.cells o.toArray t (0, 0))) := m.put hh (fun v hv k hk => by rw [refs0_flat (allB_iff.1 hf v hv)] at hk; cases hk) (by rw [he]; exact setBlk_at _ hlt.2) (fun k hk => setBlk_ne _ hk) (setBlk_size _ _) rfl rfl rfl
            have hne : ∀ q ∈ σ, q ≠ n := fun q hq e => hnn (e ▸ hq)
            obtain ⟨w1, a1, a2, a3, a4, a5, a6, a7⟩ := Mem.puts (h := h.set n (some (.cells t o))) m1 hnd' hm (fun q hq c hc => by rw [getD_set'', if_neg (fun z => hne q hq z.1.symm)]; exact hhp q (by simp [hq]) c hc) hu'
            have hb : (β n).1 ∉ (σ.map fun n => (β n).1) := fun hx => by
              obtain ⟨q, hq, e⟩ := List.mem_map.1 hx
              obtain ⟨tq, cq, hq2⟩ := lentOf_spec hm q hq
              exact hne q hq (m.inj q n _ _ (β n).1 (hhp q (by simp [hq]) _ hq2) hh (by simp only [blkOf]; rw [e]) rfl)
            refine ⟨w1, a1, a2.trans (setBlk_size _ _), a3, a4, a5, ⟨?_, a6⟩, fun k hk => ?_⟩
            · rw [a7 _ hb]; exact setBlk_at _ hlt.2
            · simp only [List.map_cons, List.mem_cons, not_or] at hk
              rw [a7 k hk.2]; exact setBlk_ne _ hk.1
          · cases hu
      · cases hl
    · cases hl
theorem LentAt_eq {w w' : World} : ∀ {bs : List Nat} {l : Lent}, LentAt w bs l → LentAt w' bs l → ∀ b ∈ bs, w'.heap[b]? = w.heap[b]?
  | [], _, _, _ => fun b hb => by cases hb
  | b :: bs, [], h, _ => h.elim
  | b :: bs, (t, cs) :: l, h, k => fun q hq => by
    rcases List.mem_cons.1 hq with rfl | hq
    · rw [h.1, k.1]
    · exact LentAt_eq h.2 k.2 q hq
theorem callIO_sound {X : Tabs} (ht : TabsOk P X) {hp : Nat → Option HE} (hhp : ∀ n c, hp n = some c → st.heap.getD n none = some c) {F : Nat} {vs : List Value} (m : M w0 β st a w)
    (hrun : (execOp a.eval o).run P w = (callFunc F (vs.map (ren β)).toArray).run P w) (h : callIO X hp F vs = some r) (hs : allP r.sides) (hK : ∀ β' u w', Post w0 β st.slots st.heap r u β' w' → K (a.put o.dst u) w') : o.wp P a w K Q := by
  unfold callIO at h
  split at h
  · rename_i f σ as htx hla
    split at h
    · rename_i lent hlo
      split at h
      · rename_i u os ps hf
        split at h
        · rename_i up hup hfl
          simp only [Option.some.injEq] at h; subst h
          obtain ⟨hext, hden⟩ := lendAll_spec (w := w) hla
          have hnd : σ.Nodup := hext.2 List.nodup_nil
          have hcell : ∀ n ∈ σ, ∃ t cs, st.heap.getD n none = some (.cells t cs) := fun n hn => by
            obtain ⟨t, cs, e⟩ := lentOf_spec hlo n hn
            exact ⟨t, cs, hhp n _ e⟩
          have hbs : ∀ b, b ∈ (σ.map fun n => (β n).1) → ∃ n ∈ σ, (β n).1 = b := fun b hb => List.mem_map.1 hb
          have hnb : (σ.map fun n => (β n).1).Nodup := by
            rw [List.nodup_iff_pairwise_ne, List.pairwise_map]
            refine List.Pairwise.imp_of_mem ?_ (List.nodup_iff_pairwise_ne.1 hnd)
            intro p q hp1 hq hpq e
            obtain ⟨t, cs, e1⟩ := hcell p hp1
            obtain ⟨t', cs', e2⟩ := hcell q hq
            exact hpq (m.mem.inj p q _ _ (β q).1 e1 e2 (by simp only [blkOf]; rw [e]) rfl)
          have hhid : ∀ n c, hideC hp n = some c → hp n = some c ∧ ∀ t cs, c ≠ .cells t cs := fun n c hc => by
            unfold hideC at hc
            split at hc
            · cases hc
            · rename_i hno
              exact ⟨hc, fun t cs e => hno t cs (by rw [hc, e])⟩
          let Fr : Nat → Prop := fun b => b < w.heap.size ∧ b ∉ (σ.map fun n => (β n).1)
          have hF : ∀ b, NF w0 β st.heap w b → Fr b := fun b hb => ⟨NF_lt m.mem.below hb, fun hx => by
            obtain ⟨n, hn, e⟩ := hbs b hx
            obtain ⟨t, cs, e1⟩ := hcell n hn
            rcases hb with z | z
            · have := m.mem.lt e1 (b := (β n).1) rfl
              rw [e] at this
              exact w0.own_F this.1 z
            · exact z.2.2 n _ e1 (by simp only [blkOf]; rw [e])⟩
          have hO : ∀ n t k f, st.heap.getD n none = some (.own t k f) → ∀ b, ((β n).2 0).ownBlock = some b → Fr b := fun n t k f hn b hb => ⟨(m.mem.ownlt hn hb).2, fun hx => by
            obtain ⟨q, hq, e⟩ := hbs b hx
            obtain ⟨t', cs, e1⟩ := hcell q hq
            have := m.mem.inj n q _ _ b hn e1 hb (by simp only [blkOf]; rw [e])
            subst this
            rw [hn] at e1; cases e1⟩
          have hdv : ∀ v d, toDV (hideC hp) v = some d → DenV w Fr d (ren β v) := fun v d hd =>
            toDV_den m.mem (fun n c hc => .inr (hhp n c (hhid n c hc).1)) hF hd (fun n _ => hO n) (.inr (.inr fun n t cs hx => (hhid n _ hx).2 t cs rfl))
          have hcall := ht.tx F f as lent u os ps htx hf hs w Fr (σ.map fun n => (β n).1) _ (fun b hb => hb.1) hnb (fun b hb hx => hx.2 hb) (lentOf_at m.mem hhp hlo) (hden σ β Fr (fun _ _ h => h) hdv)
          obtain ⟨w1, b1, b2, b3, b4, b5, b6, b7⟩ := m.mem.puts hnd hlo (fun n _ c hc => hhp n c hc) hup
          have hpost : ∀ w', LentPost w w' (σ.map fun n => (β n).1) (zipL lent os) → Post w0 β st.slots st.heap { val := .v u, upd := up, sides := ps } u β w' := fun w' hl => by
            refine ⟨fun _ _ _ => rfl, (ren_flat hfl).symm, fun n hn => ?_, b1.call ⟨hl.os.trans b3.symm, hl.tape.trans b4.symm, hl.output.trans b5.symm, by rw [b2]; exact hl.size, fun k hk => ?_⟩⟩
            · simp only [names] at hn; rw [refs_flat hfl] at hn; cases hn
            · by_cases hx : k ∈ (σ.map fun n => (β n).1)
              · exact LentAt_eq b6 hl.lent k hx
              · rw [b7 k hx]; exact hl.block k (by rw [← b2]; exact hk) hx
          unfold Oper.wp
          rw [hrun]
          split at hcall
          · rename_i u' w' hr
            rw [hr]
            obtain ⟨rfl, hl⟩ := hcall
            exact hK β _ w' (hpost _ hl)
          · rename_i f' as' w' hr
            rw [hr]
            obtain ⟨rfl, hcs⟩ := hcall
            refine hcs.mono fun e w'' he => ?_
            obtain ⟨rfl, hl⟩ := he
            exact hK β _ w'' (hpost _ hl)
          · exact hcall.elim
        · cases h
      · cases h
    · cases h
  · cases h
theorem callAll_sound {X : Tabs} (ht : TabsOk P X) {hp : Nat → Option HE} (hhp : ∀ n c, hp n = some c → st.heap.getD n none = some c) {fresh F : Nat} {vs : List Value} (m : M w0 β st a w) (hfr : X.dres F = true → fresh < st.heap.length ∧ st.heap.getD fresh none = none)
    (hrun : (execOp a.eval o).run P w = (callFunc F (vs.map (ren β)).toArray).run P w) (h : callAll X hp fresh F vs = some r) (hs : allP r.sides) (hK : ∀ β' u w', Post w0 β st.slots st.heap r u β' w' → K (a.put o.dst u) w') : o.wp P a w K Q := by
  unfold callAll at h
  split at h
  · split at h
    · exact callIO_sound ht hhp m hrun h hs hK
    · cases h
  · exact callAny_sound ht hhp m hfr hrun h hs hK
end
end Go.Proofs.Ytgdjfclpncpnpaa.Dyn
