/-
  OWN WORK. A second symbolic executor, part F: addresses, slices that are told, stores into a slice of the call's own.
-/
import Derived.Test.YtgdjfclpncpnpaaDynE
namespace Go.Proofs.Ytgdjfclpncpnpaa.Dyn
open Go Go.RowKit Sym

section
variable {P : Program} {w0 : Base P} {w : World} {β : Env} {st : St} {a : Act} {cs : List (Nat × Bool)} {o : Oper} {r : Res} {K : Act → World → Prop} {Q : Exit → Act → World → Prop}

theorem field_sound {hp : Nat → Option HE} (hhp : ∀ n c, hp n = some c → st.heap.getD n none = some c) {s f : Nat} {x : Operand} (m : M w0 β st a w) (hc : holds st.slots cs)
    (h : (match plcOf (evS st.slots cs x), fieldOf P s f with
    | some p, some fd => match sizeO P fd.type with
      | some (_ + 1) => match p with
        | .own n off => some ({ val := .v (.pointer (some ⟨n, off + fd.offset, none⟩)), upd := [], sides := [] } : Res)
        | .ix n off i len size => some { val := .ix n (off + fd.offset) i len size, upd := [], sides := [] }
        | .ex n j off size i => some { val := .ex n j (off + fd.offset) size i, upd := [], sides := [] }
        | .hp n j off => match viewAt hp n j with
          | some _ => some { val := .hp n j (off + fd.offset), upd := [], sides := [] }
          | none => none
      | _ => none
    | _, _ => none) = some r) (ho : o.op = .fieldAddr s x f) (hK : ∀ β' u w', Post w0 β st.slots st.heap r u β' w' → K (a.put o.dst u) w') : o.wp P a w K Q := by
  have hd := Den_eval m hc x
  have hn := fun n => names_ev (cs := cs) m (x := x) (n := n)
  split at h
  · rename_i p fd hp' hfd
    split at h
    · rename_i k hk
      cases p with
      | own n off =>
        obtain ⟨hx, hm⟩ := plc_own hd hp'
        simp only [Option.some.injEq] at h; subst h
        exact wp_value (field_run ho hx hfd hk) (hK β _ w (Post.same m rfl rfl (fun q hq => by simp only [names, refs, refs1, refs0, refsP, List.mem_singleton] at hq; subst hq; exact hn _ hm)))
      | ix n off i len size =>
        obtain ⟨⟨hx, h0, h1⟩, hm⟩ := plc_ix hd hp'
        simp only [Option.some.injEq] at h; subst h
        exact wp_value (field_run ho hx hfd hk) (hK β _ w (Post.same m rfl ⟨by rw [show off + fd.offset + i.toNat * size = off + i.toNat * size + fd.offset by omega], h0, h1⟩ (fun q hq => by simp only [names, List.mem_singleton] at hq; subst hq; exact hn _ hm)))
      | ex n j off size i =>
        obtain ⟨⟨b, q, len, cap, hs, hx, h0, h1⟩, hm⟩ := plc_ex hd hp'
        simp only [Option.some.injEq] at h; subst h
        exact wp_value (field_run ho hx hfd hk) (hK β _ w (Post.same m rfl ⟨b, q, len, cap, hs, by rw [show q + i.toNat * size + (off + fd.offset) = q + i.toNat * size + off + fd.offset by omega], h0, h1⟩ (fun q hq => by simp only [names, List.mem_singleton] at hq; subst hq; exact hn _ hm)))
      | hp n j off =>
        obtain ⟨hx, hm⟩ := plc_hp m.mem hd hp'
        dsimp only at h
        split at h
        · rename_i vs hv
          simp only [Option.some.injEq] at h; subst h
          have key : ∃ b q, (β n).2 j = .pointer (some ⟨b, q, none⟩) := by
            unfold viewAt at hv
            split at hv
            · rename_i ds hnn
              have hk' := m.mem.ok n _ (hhp n _ hnn)
              split at hv
              · rename_i vs' hj
                have hdd := hk' j _ hj
                generalize (β n).2 j = u at hdd
                cases hdd with
                | ptr _ b q g hF hc1 hg => exact ⟨b, q, rfl⟩
              · cases hv
            · cases hv
          obtain ⟨b, q, hb⟩ := key
          have hx' : a.eval x = .pointer (some ⟨b, q + off, none⟩) := by
            rcases hx with ⟨rfl, hx⟩ | ⟨b', q', h1, h2⟩
            · rw [hx, hb]; rfl
            · rw [hb] at h1
              simp only [Value.pointer.injEq, Option.some.injEq, Addr.mk.injEq] at h1
              obtain ⟨rfl, rfl, -⟩ := h1
              exact h2
          exact wp_value (field_run ho hx' hfd hk) (hK β _ w (Post.same m rfl ⟨b, q, hb, by rw [show q + (off + fd.offset) = q + off + fd.offset by omega]⟩ (fun q hq => by simp only [names, List.mem_singleton] at hq; subst hq; exact hn _ hm)))
        · cases h
    · cases h
  · cases h

theorem indexR_run {t : Nat} {x y : Operand} {b q len cap size e : Nat} {ki : IntKind} {i : Int} (ho : o.op = .indexAddr t x y) (hx : a.eval x = .slice (some ⟨b, q, none⟩) len cap) (hy : a.eval y = .int ki i)
    (ha : sliceOf P t = some e) (hs : sizeO P e = some size) (h0 : 0 ≤ i) (h1 : i < len) : (execOp a.eval o).run P w = .ok (.value (.pointer (some ⟨b, q + i.toNat * size, none⟩))) w := by
  unfold sliceOf at ha
  split at ha
  · rename_i e' hu
    simp only [Option.some.injEq] at ha
    subst ha
    simp only [execOp, ho, Instr.indexAt, Sem.run_bind, hy, asIntOf, underlying, run_program, hu, hx, Sem.run_pure, Result.andThen_ok, h0, h1, and_self, if_true, sizeOf_run hs, add_off]
  · cases ha

theorem index_sound {hp : Nat → Option HE} (hhp : ∀ n c, hp n = some c → st.heap.getD n none = some c) {t : TypeId} {x y : Operand} (m : M w0 β st a w) (hc : holds st.slots cs)
    (h : (match evS st.slots cs x, plain (evS st.slots cs y), closed (evS st.slots cs y) with
    | .v (.pointer (some a)), some (.int _ i), c => match a.spot, arrayOf P t with
      | none, some (len, e) => match sizeO P e with
        | some size => match c with
          | true => if 0 ≤ i ∧ i < len then some ({ val := .v (.pointer (some ⟨a.block, a.off + i.toNat * size, none⟩)), upd := [], sides := [] } : Res) else none
          | false => some { val := .ix a.block a.off i len size, upd := [], sides := [0 ≤ i ∧ i < len] }
        | none => none
      | _, _ => none
    | .v (.slice (some a) n _), some (.int _ i), _ => match a.spot, sliceOf P t, rowAt hp a.block a.off with
      | some _, some e, some (k, _) => match sizeO P e with
        | some size => some { val := .ex a.block a.off 0 size i, upd := [], sides := [0 ≤ i ∧ i < (k : Int)] }
        | none => none
      | _, _, _ => none
    | _, _, _ => none) = some r) (hs : allP r.sides) (ho : o.op = .indexAddr t x y) (hK : ∀ β' u w', Post w0 β st.slots st.heap r u β' w' → K (a.put o.dst u) w') : o.wp P a w K Q := by
  have hd := Den_eval m hc x
  have hn := fun n => names_ev (cs := cs) m (x := x) (n := n)
  split at h
  · rename_i ad ki i hev hy
    rw [hev] at hd hn
    have hy := eval_plain m hc hy
    obtain ⟨b, q, sp⟩ := ad
    have hx : sp = none → a.eval x = .pointer (some ⟨(β b).1, q, none⟩) := fun e => by subst e; exact hd
    have hb : ∃ c, st.heap.getD b none = some c := hn b (by simp [names, refs, refs1, refs0, refsP])
    dsimp only at h
    split at h
    · rename_i len e ha
      split at h
      · rename_i size hsz
        split at h
        · split at h
          · rename_i hi
            simp only [Option.some.injEq] at h; subst h
            exact wp_value (index_run ho (hx rfl) hy ha hsz hi.1 hi.2) (hK β _ w (Post.same m rfl rfl (fun q hq => by simp only [names, refs, refs1, refs0, refsP, List.mem_singleton] at hq; subst hq; exact hb)))
          · cases h
        · simp only [Option.some.injEq] at h; subst h
          exact wp_value (index_run ho (hx rfl) hy ha hsz hs.1.1 hs.1.2) (hK β _ w (Post.same m rfl ⟨rfl, hs.1⟩ (fun q hq => by simp only [names, List.mem_singleton] at hq; subst hq; exact hb)))
      · cases h
    · cases h
  · rename_i ad n c ki i hev hy
    rw [hev] at hd hn
    have hy := eval_plain m hc hy
    obtain ⟨b, q, sp⟩ := ad
    dsimp only at h
    split at h
    · rename_i s0 e k f hsl hrow
      split at h
      · rename_i size hsz
        simp only [Option.some.injEq] at h; subst h
        have hx : a.eval x = (β b).2 q := hd
        have hb : ∃ c, st.heap.getD b none = some c := hn b (by simp [names, refs, refs1, refs0, refsP])
        have hs1 := hs.1
        rcases row_elem m.mem hhp hrow with ⟨_, hz⟩ | ⟨b', q', cap', size', hv, _⟩
        · subst hz; omega
        · rw [hv] at hx
          exact wp_value (indexR_run ho hx hy hsl hsz hs1.1 (by omega)) (hK β _ w (Post.same m rfl ⟨b', q', k, cap', hv, by rw [Nat.add_zero], hs1.1, hs1.2⟩ (fun q hq => by simp only [names, List.mem_singleton] at hq; subst hq; exact hb)))
      · cases h
    · cases h
  · cases h

/-! ### values as cells that are told -/
theorem toDC0_den {h : List (Option HE)} (m : Mem w0 β h w) {hp : Nat → Option HE} (hhp : ∀ n c, hp n = some c → c = .gone ∨ h.getD n none = some c) {F : Nat → Prop} (hF : ∀ b, NF w0 β h w b → F b) {c : Value} {d : DC} (hc : toDC0 hp c = some d)
    (hO : ∀ n ∈ refs0 c, ∀ t k f, h.getD n none = some (.own t k f) → ∀ b, ((β n).2 0).ownBlock = some b → F b) : DenC w F d (ren0 β c) := by
  unfold toDC0 at hc
  split at hc
  · simp only [Option.some.injEq] at hc; subst hc; exact .nil _ none 0
  · rename_i ad n cap
    obtain ⟨b, q, sp⟩ := ad
    dsimp only at hc
    split at hc
    · rename_i s0 k f hrow
      simp only [Option.some.injEq] at hc; subst hc
      show DenC w F (.row k f) ((β b).2 q)
      unfold rowAt at hrow
      split at hrow
      · rename_i ds hn
        have hk := m.ok b _ ((hhp b _ hn).resolve_left (by simp))
        split at hrow
        · rename_i k' f' hj
          simp only [Option.some.injEq, Prod.mk.injEq] at hrow
          obtain ⟨rfl, rfl⟩ := hrow
          exact (hk q _ hj).mono fun b hb => ⟨hF b hb, rfl⟩
        · cases hrow
      · rename_i t k' f' hn
        have hn' := (hhp b _ hn).resolve_left (by simp)
        obtain ⟨size, xs, h1, h2, h3, h4⟩ := m.ok b _ hn'
        split at hrow
        · simp only [Option.some.injEq, Prod.mk.injEq] at hrow
          obtain ⟨rfl, rfl⟩ := hrow
          rcases h3.2 with ⟨hv, hk⟩ | ⟨g, cap, cur, hv, hg, hc, hle, hcap, hsz, htake⟩
          · rw [hv]; subst hk; exact .nil f' none 0
          · have hFg : F g := hO b (by simp [refs0, refsP]) _ _ _ hn' g (by simp [hv, Value.ownBlock])
            rw [hv]
            refine .row k' f' g 0 cap size (fun i j => cur.toList.getD (i * size + j) undef) hFg (fun i hi => ⟨(h4 i hi).1, fun j hj => ?_⟩) (fun i j hi hj => ?_)
            · obtain ⟨v, hv', _⟩ := (h4 i hi).2 j hj
              rw [← htake, List.getElem?_take] at hv'
              split at hv'
              · simp only [World.cell?, hc, Option.isSome_none, Bool.false_eq_true, if_false]
                rw [show 0 + i * size + j = i * size + j by omega, List.getD_eq_getElem?_getD, hv']
                simpa using hv'
              · cases hv'
            · obtain ⟨v, hv', hd⟩ := (h4 i hi).2 j hj
              rw [← htake, List.getElem?_take] at hv'
              split at hv'
              · have e : cur.toList.getD (i * size + j) undef = v := by rw [List.getD_eq_getElem?_getD, hv']; rfl
                rw [e]
                exact hd.mono fun b hb => ⟨hF b hb, rfl⟩
              · cases hv'
        · cases hrow
      · cases hrow
    · cases hc
  · rename_i ad
    obtain ⟨b, q, sp⟩ := ad
    dsimp only at hc
    split at hc
    · rename_i s0 vs hv
      simp only [Option.some.injEq] at hc; subst hc
      show DenC w F (.ptr vs) ((β b).2 q)
      unfold viewAt at hv
      split at hv
      · rename_i ds hn
        have hk := m.ok b _ ((hhp b _ hn).resolve_left (by simp))
        split at hv
        · rename_i vs' hj
          simp only [Option.some.injEq] at hv; subst hv
          exact (hk q _ hj).mono fun b hb => ⟨hF b hb, rfl⟩
        · cases hv
      · cases hv
    · cases hc
  · split at hc
    · rename_i hf
      simp only [Bool.and_eq_true] at hf
      simp only [Option.some.injEq] at hc; subst hc
      rw [ren0_flat hf.1]
      exact .p c hf.2
    · cases hc
theorem mapO_spec {f : Value → Option DC} : ∀ {l : List Value} {ds : List DC}, mapO f l = some ds → ds.length = l.length ∧ ∀ (j : Nat) (x : Value), l[j]? = some x → ∃ d, ds[j]? = some d ∧ f x = some d
  | [], ds, h => by simp only [mapO, Option.some.injEq] at h; subst h; exact ⟨rfl, fun j x hx => by simp at hx⟩
  | x :: l, ds, h => by
    simp only [mapO] at h
    split at h
    · rename_i y m hy hm
      simp only [Option.some.injEq] at h; subst h
      obtain ⟨h1, h2⟩ := mapO_spec hm
      refine ⟨by simp [h1], fun j z hz => ?_⟩
      cases j with
      | zero => simp only [List.getElem?_cons_zero, Option.some.injEq] at hz; subst hz; exact ⟨y, rfl, hy⟩
      | succ j =>
        obtain ⟨d, h3, h4⟩ := h2 j z (by simpa using hz)
        exact ⟨d, by simpa using h3, h4⟩
    · cases h
theorem toDCs_den {h : List (Option HE)} (m : Mem w0 β h w) {hp : Nat → Option HE} (hhp : ∀ n c, hp n = some c → c = .gone ∨ h.getD n none = some c) {F : Nat → Prop} (hF : ∀ b, NF w0 β h w b → F b) {l : List Value} {ds : List DC} (hc : mapO (toDC0 hp) l = some ds)
    (hO : ∀ c ∈ l, ∀ n ∈ refs0 c, ∀ t k f, h.getD n none = some (.own t k f) → ∀ b, ((β n).2 0).ownBlock = some b → F b) : DenL w F ds (l.map (ren0 β)) := by
  obtain ⟨h1, h2⟩ := mapO_spec hc
  refine DenL.of (by simp [h1]) fun j d hj => ?_
  have hlt : j < l.length := by rw [← h1]; exact (List.getElem?_eq_some_iff.1 hj).1
  obtain ⟨d', h3, h4⟩ := h2 j _ (List.getElem?_eq_getElem hlt)
  rw [hj] at h3; simp only [Option.some.injEq] at h3; subst h3
  refine ⟨ren0 β l[j], by rw [List.getElem?_map, List.getElem?_eq_getElem hlt]; rfl, toDC0_den m hhp hF h4 (hO _ (List.getElem_mem hlt))⟩

/-- slices of the call's own that are written no more -/
theorem frz_sound : ∀ (l : List Nat) {h : List (Option HE)} {hp : Nat → Option HE} {u : List (Nat × HE)}, Mem w0 β h w → (∀ n c, hp n = some c → c = .gone ∨ h.getD n none = some c) → frz hp l = some u →
    Mem w0 β (heapSet h u) w ∧ (∀ b, NF w0 β h w b → NF w0 β (heapSet h u) w b) ∧ (∀ q ∈ l, ∀ he, h.getD q none = some he → (∀ t c, he ≠ .cells t c) ∧ ∀ b, blkOf he (β q) = some b → NF w0 β (heapSet h u) w b) ∧ (∀ q c, (q, c) ∈ u → q ∈ l ∧ (∃ t k f, h.getD q none = some (.own t k f)) ∧ hp q ≠ some .gone)
  | [], h, hp, u, m, hhp, hu => by
    simp only [frz, Option.some.injEq] at hu; subst hu
    exact ⟨m, fun _ hb => hb, fun _ hq => (by cases hq), fun _ _ hq => (by cases hq)⟩
  | n :: l, h, hp, u, m, hhp, hu => by
    simp only [frz] at hu
    split at hu
    · rename_i t k f hn
      have hn' := (hhp n _ hn).resolve_left (by simp)
      split at hu
      · rename_i u' hu'
        simp only [Option.some.injEq] at hu; subst hu
        have hl : n < h.length := by
          rcases Nat.lt_or_ge n h.length with z | z
          · exact z
          · rw [List.getD_eq_getElem?_getD, List.getElem?_eq_none z] at hn'; cases hn'
        have hat : ∀ q, q ≠ n → (h.set n (some (HE.deep [.row k f]))).getD q none = h.getD q none := fun q hq => by rw [getD_set'', if_neg (fun z => hq z.1.symm)]
        have hatn : (h.set n (some (HE.deep [.row k f]))).getD n none = some (.deep [.row k f]) := by rw [getD_set'', if_pos ⟨rfl, hl⟩]
        have hhp' : ∀ q c, setF hp n (.deep [.row k f]) q = some c → c = .gone ∨ (h.set n (some (.deep [.row k f]))).getD q none = some c := fun q c hq => by
          unfold setF at hq
          cases hb : Nat.beq q n with
          | true =>
            rw [hb] at hq
            have : q = n := Nat.eq_of_beq_eq_true hb
            subst this
            simp only [cond_true, Option.some.injEq] at hq; subst hq
            exact .inr hatn
          | false =>
            rw [hb] at hq
            have : q ≠ n := fun e => by subst e; rw [Nat.beq_refl] at hb; cases hb
            rw [hat q this]; exact hhp q c hq
        obtain ⟨i1, i2, i3, i4⟩ := frz_sound l (m.freeze hn') hhp' hu'
        have nft := NF_tell m hn' (.deep [.row k f]) rfl
        refine ⟨i1, fun b hb => i2 b (nft b (.inl hb)), fun q hq he hqe => ?_, fun q c hq => ?_⟩
        · by_cases e : q = n
          · subst e
            rw [hn'] at hqe; simp only [Option.some.injEq] at hqe; subst hqe
            exact ⟨fun _ _ z => by (cases z), fun b hb => i2 b (nft b (.inr ⟨hb, (m.ownlt hn' hb).1⟩))⟩
          · rcases List.mem_cons.1 hq with z | hq
            · exact absurd z e
            · exact i3 q hq he (by rw [hat q e]; exact hqe)
        · rcases List.mem_cons.1 hq with z | hq
          · simp only [Prod.mk.injEq] at z
            obtain ⟨rfl, _⟩ := z
            exact ⟨by simp, ⟨t, k, f, hn'⟩, by rw [hn]; simp⟩
          · obtain ⟨j1, ⟨t', k', f', j2⟩, j3⟩ := i4 q c hq
            have e : q ≠ n := fun e => by
              subst e; rw [hatn] at j2; cases j2
            refine ⟨by simp [j1], ⟨t', k', f', by rw [hat q e] at j2; exact j2⟩, fun z => j3 ?_⟩
            unfold setF
            have : Nat.beq q n = false := by
              cases hb : Nat.beq q n with
              | false => rfl
              | true => exact absurd (Nat.eq_of_beq_eq_true hb) e
            rw [this]; exact z
      · cases hu
    · rename_i ds hn
      have hn' := (hhp n _ hn).resolve_left (by simp)
      obtain ⟨i1, i2, i3, i4⟩ := frz_sound l m hhp hu
      refine ⟨i1, i2, fun q hq he hqe => ?_, fun q c hq => ?_⟩
      · rcases List.mem_cons.1 hq with e | hq
        · subst e
          rw [hn'] at hqe; simp only [Option.some.injEq] at hqe; subst hqe
          exact ⟨fun _ _ z => by (cases z), fun b hb => by cases hb⟩
        · exact i3 q hq he hqe
      · obtain ⟨j1, j2, j3⟩ := i4 q c hq
        exact ⟨by simp [j1], j2, j3⟩
    · cases hu
end
end Go.Proofs.Ytgdjfclpncpnpaa.Dyn
