/-
  OWN WORK. A second symbolic executor, part T: a function's contract over what its arguments show.
-/
import Derived.Test.YtgdjfclpncpnpaaDynS
namespace Go.Proofs.Ytgdjfclpncpnpaa.Dyn
open Go Go.RowKit Sym

/-! ### how a function starts -/
/-- the arguments' slots, and what they show -/
def initA : Nat → List DV → List SV × List (Option HE)
  | _, [] => ([], [])
  | n, v :: vs => match flatD (cellsV v) with
    | true => let r := initA n vs; (.v (instV 0 0 v) :: r.1, r.2)
    | false => let r := initA (n + 1) vs; (.v (instV n 0 v) :: r.1, some (.deep (cellsV v)) :: r.2)
def initS (fn : Func) (args : List DV) : St := { slots := (initA 0 args).1 ++ List.replicate (fn.ntmps - args.length) .junk, heap := (initA 0 args).2 }
def dfun (P : Program) (X : Tabs) (lp : Lp) (fuel : Nat) (fn : Func) (args : List DV) : Out :=
  match fn.body with
  | some c => lexec P X lp fuel c .leaf (initS fn args)
  | none => .fail
def pOks : List DV → Bool
  | [] => true
  | v :: vs => match pOk (cellsV v) with
    | true => pOks vs
    | false => false

/-! ### what a function returns -/
def hpSt (s : St) (n : Nat) : Option HE :=
  match s.heap.getD n none with
  | some (.cells _ _) => none
  | x => x
def resOne (P : Program) (s : St) : ResultVar → Option DV
  | .tmp t => match named (s.slots.getD t .junk) with
    | some v => toDV (hpSt s) v
    | none => none
  | .cell t ty => match s.slots.getD t .junk with
    | .v (.pointer (some a)) => match a.spot, s.heap.getD a.block none with
      | none, some (.cells _ cs) => match loadOf P ty cs a.off with
        | some u => if isAggB P ty = some true ∨ oneCellB u = true then toDV (hpSt s) u else none
        | none => none
      | _, _ => none
    | _ => none
def resAll (P : Program) (s : St) : List ResultVar → Option (List DV)
  | [] => some []
  | r :: l => match resOne P s r, resAll P s l with
    | some d, some ds => some (d :: ds)
    | _, _ => none
def resD (P : Program) (rs : Array ResultVar) (s : St) : Option RV :=
  match resAll P s rs.toList with
  | some [d] => some (.val d)
  | some ds => some (.tup ds)
  | none => none

/-- what comes out, on which way -/
inductive RO where
  | leaf (r : RV)
  | ite (b : Bool) (x y : RO)
  | side (ps : List Prop) (x : RO)
  | fail
def RO.sat (Q : RV → Prop) : RO → Prop
  | .leaf r => Q r
  | .ite b x y => (b = true → x.sat Q) ∧ (b = false → y.sat Q)
  | .side ps x => allP ps ∧ x.sat Q
  | .fail => False
def Out.ro (P : Program) (rs : Array ResultVar) : Out → RO
  | .leaf e s => match e, resD P rs s with
    | .exit _, _ => .fail
    | _, some r => .leaf r
    | _, none => .fail
  | .ite b x y => .ite b (x.ro P rs) (y.ro P rs)
  | .side ps x => .side ps (x.ro P rs)
  | .fail => .fail
/-- results without depth, both ways in one -/
def RO.val : RO → Option Value
  | .leaf (.val (.one (.p x))) => some x
  | .leaf _ => none
  | .ite b x y => match x.val, y.val with
    | some u, some v => some (mergeN 3 b u v)
    | _, _ => none
  | .side _ x => x.val
  | .fail => none
def RO.sideList : RO → List Prop
  | .leaf _ => []
  | .ite b x y => (x.sideList.map fun p => (b = true → p)) ++ (y.sideList.map fun p => (b = false → p))
  | .side ps x => ps ++ x.sideList
  | .fail => [False]
theorem RO.sat_val : ∀ {o : RO} {v : Value}, o.val = some v → allP o.sideList → o.sat fun r => r = .val (.one (.p v))
  | .leaf r, v, h, _ => by
    unfold RO.val at h
    split at h
    · rename_i x e
      simp only [Option.some.injEq] at h; subst h
      simp only [RO.leaf.injEq] at e; exact e
    · cases h
    · rename_i e; cases e
    · rename_i e; cases e
    · cases h
  | .ite b x y, v, h, hs => by
    simp only [RO.val] at h
    simp only [RO.sideList, allP_append] at hs
    split at h
    · rename_i u u' hx hy
      simp only [Option.some.injEq] at h; subst h
      refine ⟨fun hb => ?_, fun hb => ?_⟩
      · subst hb
        rw [mergeN_true]
        exact RO.sat_val hx (allP_mem.2 fun p hp => allP_mem.1 hs.1 _ (List.mem_map.2 ⟨p, hp, rfl⟩) rfl)
      · subst hb
        rw [mergeN_false]
        exact RO.sat_val hy (allP_mem.2 fun p hp => allP_mem.1 hs.2 _ (List.mem_map.2 ⟨p, hp, rfl⟩) rfl)
    · cases h
  | .side ps x, v, h, hs => by
    simp only [RO.sideList, allP_append] at hs
    exact ⟨hs.1, RO.sat_val (o := x) h hs.2⟩
  | .fail, v, h, _ => by cases h

/-- rows by their elements -/
def DCLe : DC → DC → Prop
  | .row n f, .row m g => n = m ∧ ∀ i, i < n → f i = g i
  | x, y => x = y
def DLLe : List DC → List DC → Prop
  | [], [] => True
  | x :: xs, y :: ys => DCLe x y ∧ DLLe xs ys
  | _, _ => False
def DVLe : DV → DV → Prop
  | .one x, .one y => DCLe x y
  | .agg xs, .agg ys => DLLe xs ys
  | _, _ => False
def DVsLe : List DV → List DV → Prop
  | [], [] => True
  | x :: xs, y :: ys => DVLe x y ∧ DVsLe xs ys
  | _, _ => False
def RVLe : RV → RV → Prop
  | .val x, .val y => DVLe x y
  | .tup xs, .tup ys => DVsLe xs ys
  | _, _ => False
theorem DCLe.refl : ∀ (x : DC), DCLe x x
  | .p _ => rfl
  | .row _ _ => ⟨rfl, fun _ _ => rfl⟩
  | .ptr _ => rfl
theorem DLLe.refl : ∀ (x : List DC), DLLe x x
  | [] => trivial
  | x :: xs => ⟨DCLe.refl x, DLLe.refl xs⟩
theorem DVLe.refl : ∀ (x : DV), DVLe x x
  | .one d => DCLe.refl d
  | .agg ds => DLLe.refl ds
theorem DVsLe.refl : ∀ (x : List DV), DVsLe x x
  | [] => trivial
  | x :: xs => ⟨DVLe.refl x, DVsLe.refl xs⟩
theorem RVLe.refl : ∀ (x : RV), RVLe x x
  | .val v => DVLe.refl v
  | .tup vs => DVsLe.refl vs

section
variable {P : Program} {X : Tabs} {lp : Lp} {w0 : Base P} {w : World} {β : Env} {s : St} {a : Act}

theorem DenC_le {N : Nat → Prop} {x y : DC} {u : Value} (h : DCLe x y) (k : DenC w N x u) : DenC w N y u := by
  cases x with
  | row n f =>
    cases y with
    | row m g => obtain ⟨rfl, hf⟩ := h; exact DenC_row_congr hf k
    | p z => cases h
    | ptr z => cases h
  | p z => simp only [DCLe] at h; subst h; exact k
  | ptr z => simp only [DCLe] at h; subst h; exact k
theorem DenL_le {N : Nat → Prop} : ∀ {xs ys : List DC} {us : List Value}, DLLe xs ys → DenL w N xs us → DenL w N ys us
  | [], [], _, _, k => k
  | x :: xs, y :: ys, [], _, k => k.elim
  | x :: xs, y :: ys, u :: us, h, k => ⟨DenC_le h.1 k.1, DenL_le h.2 k.2⟩
  | [], _ :: _, _, h, _ => h.elim
  | _ :: _, [], _, h, _ => h.elim
theorem DenV_le {N : Nat → Prop} : ∀ {x y : DV} {u : Value}, DVLe x y → DenV w N x u → DenV w N y u
  | .one _, .one _, _, h, k => DenC_le h k
  | .agg _, .agg _, _, h, ⟨us, e, k⟩ => ⟨us, e, DenL_le h k⟩
  | .one _, .agg _, _, h, _ => h.elim
  | .agg _, .one _, _, h, _ => h.elim
theorem DenVs_le {N : Nat → Prop} : ∀ {xs ys : List DV} {us : List Value}, DVsLe xs ys → DenVs w N xs us → DenVs w N ys us
  | [], [], _, _, k => k
  | x :: xs, y :: ys, [], _, k => k.elim
  | x :: xs, y :: ys, u :: us, h, k => ⟨DenV_le h.1 k.1, DenVs_le h.2 k.2⟩
  | [], _ :: _, _, h, _ => h.elim
  | _ :: _, [], _, h, _ => h.elim
theorem DenR_le {N : Nat → Prop} : ∀ {x y : RV} {u : Value}, RVLe x y → DenR w N x u → DenR w N y u
  | .val _, .val _, _, h, k => DenV_le h k
  | .tup _, .tup _, _, h, ⟨us, e, k⟩ => ⟨us, e, DenVs_le h k⟩
  | .val _, .tup _, _, h, _ => h.elim
  | .tup _, .val _, _, h, _ => h.elim

/-! ### the start -/
theorem Mem.push {h : List (Option HE)} (m : Mem w0 β h w) {ds : List DC} {us : List Value} (hd : DenL w (NF w0 β h w) ds us) (hp : pOk ds = true) (hf : flatD ds = false) :
    ∃ β', (∀ n c, h.getD n none = some c → β' n = β n) ∧ Mem w0 β' (h ++ [some (.deep ds)]) w ∧ (instC h.length 0 ds).map (ren0 β') = us ∧ ∀ y ∈ instC h.length 0 ds, ∀ k ∈ refs0 y, ∃ c, (h ++ [some (HE.deep ds)]).getD k none = some c := by
  have hg : ∀ n, (h ++ [none]).getD n none = h.getD n none := fun n => by
    simp only [List.getD_eq_getElem?_getD, List.getElem?_append]
    split
    · rfl
    · rename_i hn
      rw [List.getElem?_eq_none (Nat.le_of_not_lt hn)]
      cases n - h.length with
      | zero => rfl
      | succ q => rfl
  have m0 : Mem w0 β (h ++ [none]) w := m.read hg rfl rfl rfl rfl
  have hN : ∀ b, NF w0 β h w b → NF w0 β (h ++ [none]) w b := fun b hb => by
    rcases hb with z | z
    · exact .inl z
    · exact .inr ⟨z.1, z.2.1, fun n he hn => z.2.2 n he (by rw [← hg n]; exact hn)⟩
  obtain ⟨β', b1, b2, b3, b4, _⟩ := inst_mem m0 (fresh := h.length) (fun _ => ⟨by simp, by simp⟩) (hd.mono fun b hb => ⟨hN b hb, rfl⟩) hp
  have e : heapSet (h ++ [none]) (updD h.length ds) = h ++ [some (HE.deep ds)] := by
    unfold updD; rw [hf]; simp [heapSet]
  rw [e] at b2 b4
  exact ⟨β', fun n c hc => b1 n c ((hg n).trans hc), b2, b3 0 rfl, b4⟩

theorem init_args : ∀ (args : List DV) (us : List Value) (h : List (Option HE)) (β : Env), Mem w0 β h w → (∀ b, w0.F b → NF w0 β h w b) → pOks args = true → DenVs w w0.F args us →
    ∃ β', (∀ n c, h.getD n none = some c → β' n = β n) ∧ Mem w0 β' (h ++ (initA h.length args).2) w ∧ (initA h.length args).1.length = us.length ∧ (∀ i u, us[i]? = some u → Den β' [] ((initA h.length args).1.getD i .junk) u) ∧ (∀ i n, n ∈ names ((initA h.length args).1.getD i .junk) → ∃ c, (h ++ (initA h.length args).2).getD n none = some c) ∧ ∀ x ∈ (initA h.length args).1, isG x = false
  | [], [], h, β, m, _, _, _ => ⟨β, fun _ _ _ => rfl, by simpa [initA] using m, rfl, fun i u hu => by simp at hu, fun i n hn => by simp [initA, names] at hn, fun x hx => by cases hx⟩
  | [], _ :: _, _, _, _, _, _, k => k.elim
  | _ :: _, [], _, _, _, _, _, k => k.elim
  | v :: vs, u :: us, h, β, m, hF, hp, k => by
    simp only [pOks] at hp
    split at hp
    · rename_i hpv
      have hv : DenR w (NF w0 β h w) (.val v) u := k.1.mono fun b hb => ⟨hF b hb, rfl⟩
      obtain ⟨ws, hd, hk⟩ := DenR_cells hv
      cases hfl : flatD (cellsV v) with
      | true =>
        obtain ⟨β', i1, i2, i3, i4, i5, i6⟩ := init_args vs us h β m hF hp k.2
        have e : initA h.length (v :: vs) = (.v (instV 0 0 v) :: (initA h.length vs).1, (initA h.length vs).2) := by simp only [initA]; rw [hfl]
        rw [e]
        have hx : ∀ β, ren β (instV 0 0 v) = u := fun β => (hk 0 β (inst_flat _ _ 0 hd hpv hfl)).1
        have hr : ∀ n, n ∉ refs (instV 0 0 v) := fun n hn => by
          obtain ⟨y, y1, y2⟩ := (hk 0 β (inst_flat _ _ 0 hd hpv hfl)).2 n hn
          have := (inst_refs _ 0 hpv y y1 n y2).2
          have h2 : flatD (cellsR (.val v)) = false := this
          simp only [cellsR] at h2; rw [hfl] at h2; cases h2
        refine ⟨β', i1, i2, by simp [i3], fun i z hz => ?_, fun i n hn => ?_, fun x hx' => ?_⟩
        · cases i with
          | zero => simp only [List.getElem?_cons_zero, Option.some.injEq] at hz; subst hz; exact (hx β').symm
          | succ i => exact i4 i z (by simpa using hz)
        · cases i with
          | zero => exact absurd hn (hr n)
          | succ i => exact i5 i n (by simpa using hn)
        · rcases List.mem_cons.1 hx' with rfl | hx'
          · rfl
          · exact i6 x hx'
      | false =>
        obtain ⟨β1, j1, j2, j3, j4⟩ := m.push (ds := cellsV v) (us := ws) hd hpv hfl
        have hlen : (h ++ [some (HE.deep (cellsV v))]).length = h.length + 1 := by simp
        have hF1 : ∀ b, w0.F b → NF w0 β1 (h ++ [some (HE.deep (cellsV v))]) w b := fun b hb => .inl hb
        obtain ⟨β', i1, i2, i3, i4, i5, i6⟩ := init_args vs us _ β1 j2 hF1 hp k.2
        rw [hlen] at i2 i3 i4 i5 i6
        have e : initA h.length (v :: vs) = (.v (instV h.length 0 v) :: (initA (h.length + 1) vs).1, some (.deep (cellsV v)) :: (initA (h.length + 1) vs).2) := by simp only [initA]; rw [hfl]
        rw [e]
        have eh : h ++ (some (HE.deep (cellsV v)) :: (initA (h.length + 1) vs).2) = (h ++ [some (HE.deep (cellsV v))]) ++ (initA (h.length + 1) vs).2 := by simp
        dsimp only
        rw [eh]
        obtain ⟨x1, x2⟩ := hk h.length β1 j3
        have hold : ∀ n c, h.getD n none = some c → (h ++ [some (HE.deep (cellsV v))]).getD n none = some c := fun n c hn => by
          have hlt : n < h.length := by
            rcases Nat.lt_or_ge n h.length with z | z
            · exact z
            · rw [List.getD_eq_getElem?_getD, List.getElem?_eq_none z] at hn; cases hn
          rw [List.getD_eq_getElem?_getD, List.getElem?_append_left hlt, ← List.getD_eq_getElem?_getD]; exact hn
        have hn1 : ∀ n ∈ refs (instV h.length 0 v), ∃ c, (h ++ [some (HE.deep (cellsV v))]).getD n none = some c := fun n hn => by
          obtain ⟨y, y1, y2⟩ := x2 n hn
          exact j4 y y1 n y2
        refine ⟨β', fun n c hn => (i1 n c (hold n c hn)).trans (j1 n c hn), i2, by simp [i3], fun i z hz => ?_, fun i n hn => ?_, fun x hx' => ?_⟩
        · cases i with
          | zero =>
            simp only [List.getElem?_cons_zero, Option.some.injEq] at hz; subst hz
            show u = ren β' (instV h.length 0 v)
            rw [ren_congr (β := β1) fun n hn => by obtain ⟨c, hc⟩ := hn1 n hn; exact i1 n c hc]
            exact x1.symm
          | succ i => exact i4 i z (by simpa using hz)
        · cases i with
          | zero =>
            obtain ⟨c, hc⟩ := hn1 n hn
            have hlt : n < (h ++ [some (HE.deep (cellsV v))]).length := by
              rcases Nat.lt_or_ge n (h ++ [some (HE.deep (cellsV v))]).length with z | z
              · exact z
              · rw [List.getD_eq_getElem?_getD, List.getElem?_eq_none z] at hc; cases hc
            exact ⟨c, by rw [List.getD_eq_getElem?_getD, List.getElem?_append_left hlt, ← List.getD_eq_getElem?_getD]; exact hc⟩
          | succ i => exact i5 i n (by simpa using hn)
        · rcases List.mem_cons.1 hx' with rfl | hx'
          · rfl
          · exact i6 x hx'
    · cases hp

/-! ### the end -/
/-- where a call's result lies -/
def ResF (w0 : Base P) (w : World) (b : Nat) : Prop := w0.F b ∨ (w0.w.heap.size ≤ b ∧ b < w.heap.size)
theorem NF_resF {h : List (Option HE)} {b : Nat} (k : NF w0 β h w b) : ResF w0 w b := k.imp id fun z => ⟨z.1, z.2.1⟩
theorem resOne_sound (m : M w0 β s a w) {r : ResultVar} {d : DV} (h : resOne P s r = some d) : ∃ u, (oneSem a r).run P w = .ok u w ∧ DenV w (ResF w0 w) d u := by
  have hhp : ∀ n c, hpSt s n = some c → c = .gone ∨ s.heap.getD n none = some c := fun n c h => .inr (by
    unfold hpSt at h
    split at h
    · cases h
    · exact h)
  have hnc : ∀ n t cs, hpSt s n ≠ some (.cells t cs) := fun n t cs h => by
    unfold hpSt at h
    split at h
    · cases h
    · rename_i hno; exact hno t cs h
  have hO : ∀ (c : Value), ∀ n ∈ refs c, ∀ t k f, s.heap.getD n none = some (.own t k f) → ∀ b, ((β n).2 0).ownBlock = some b → ResF w0 w b := fun c n _ t k f hn b hb => .inr (m.mem.ownlt hn hb)
  have hd : ∀ t, Den β s.slots (s.slots.getD t .junk) (a.tmps.getD t undef) := fun t => by
    rw [Array.getD_eq_getD_getElem?]
    cases hu : a.tmps[t]? with
    | some u => exact m.slot t u hu
    | none =>
      have hs : s.slots.length ≤ t := by rw [← m.size]; exact Array.getElem?_eq_none_iff.1 hu
      have : s.slots.getD t .junk = .junk := by simp [List.getElem?_eq_none hs]
      rw [this]; trivial
  have conv : ∀ v d, toDV (hpSt s) v = some d → DenV w (ResF w0 w) d (ren β v) := fun v d hv => toDV_den m.mem hhp (fun b => NF_resF) hv (hO v) (.inr (.inr hnc))
  cases r with
  | tmp t =>
    simp only [resOne] at h
    split at h
    · rename_i v hv
      have := named_eval (hd t) hv
      exact ⟨_, rfl, by rw [show a.tmps.getD t undef = ren β v from this]; exact conv v d h⟩
    · cases h
  | cell t ty =>
    simp only [resOne] at h
    split at h
    · rename_i ad hev
      have hd' := hd t
      rw [hev] at hd'
      obtain ⟨n, off, sp⟩ := ad
      dsimp only at h
      split at h
      · rename_i ty' cs hn
        split at h
        · rename_i u hu
          split at h
          · rename_i h1
            have hok := m.mem.ok n _ hn
            have hd'' : a.tmps.getD t undef = .pointer (some ⟨(β n).1, off, none⟩) := hd'
            have hrun := loadVar_run (P := P) hok.1 (loadOf_ren (β := β) hu h1)
            refine ⟨ren β u, ?_, conv u d h⟩
            simp only [oneSem, Sem.run_bind, hd'', asAddr, Sem.run_pure, Result.andThen_ok, hrun]
          · cases h
        · cases h
      · cases h
    · cases h

theorem resAll_sound (m : M w0 β s a w) : ∀ {rs : List ResultVar} {ds : List DV}, resAll P s rs = some ds → ∃ us, (rs.mapM (oneSem a)).run P w = .ok us w ∧ DenVs w (ResF w0 w) ds us
  | [], ds, h => by simp only [resAll, Option.some.injEq] at h; subst h; exact ⟨[], rfl, trivial⟩
  | r :: rs, ds, h => by
    simp only [resAll] at h
    split at h
    · rename_i d ds' hd hds
      simp only [Option.some.injEq] at h; subst h
      obtain ⟨u, h1, h2⟩ := resOne_sound m hd
      obtain ⟨us, h3, h4⟩ := resAll_sound m hds
      exact ⟨u :: us, by rw [List.mapM_cons]; simp only [Sem.run_bind, h1, Result.andThen_ok, h3, Sem.run_pure], h2, h4⟩
    · cases h
theorem results_runD {fn : Func} (m : M w0 β s a w) {r : RV} (h : resD P fn.results s = some r) : ∃ u, (results fn a.tmps).run P w = .ok u w ∧ DenR w (ResF w0 w) r u := by
  have hres : results fn a.tmps = (do let vs ← fn.results.mapM (oneSem a); pure (if h : vs.size = 1 then vs[0] else .tuple vs)) := by
    unfold results
    refine congrArg (fun f => (do let vs ← fn.results.mapM f; pure (if h : vs.size = 1 then vs[0] else .tuple vs) : Go.Sem Value)) ?_
    funext r; cases r <;> rfl
  rw [hres]
  unfold resD at h
  have key : ∀ ds, resAll P s fn.results.toList = some ds → ∃ us, (fn.results.mapM (oneSem a)).run P w = .ok us.toArray w ∧ DenVs w (ResF w0 w) ds us := fun ds hds => by
    obtain ⟨us, h1, h2⟩ := resAll_sound m hds
    refine ⟨us, ?_, h2⟩
    rw [Array.mapM_eq_mapM_toList, map_eq_pure_bind]
    simp only [Sem.run_bind, h1, Result.andThen_ok, Sem.run_pure]
  split at h
  · rename_i d hd
    simp only [Option.some.injEq] at h; subst h
    obtain ⟨us, h1, h2⟩ := key _ hd
    cases us with
    | nil => exact h2.elim
    | cons u us =>
      cases us with
      | cons _ _ => exact h2.2.elim
      | nil =>
        refine ⟨u, ?_, h2.1⟩
        simp only [Sem.run_bind, h1, Result.andThen_ok, Sem.run_pure]
        rfl
  · rename_i ds hno hd
    simp only [Option.some.injEq] at h; subst h
    obtain ⟨us, h1, h2⟩ := key _ hd
    refine ⟨.tuple us.toArray, ?_, us.toArray, rfl, by simpa using h2⟩
    simp only [Sem.run_bind, h1, Result.andThen_ok, Sem.run_pure]
    have hlen : ¬ us.toArray.size = 1 := fun hl => by
      cases us with
      | nil => simp at hl
      | cons u us =>
        cases us with
        | cons _ _ => simp at hl
        | nil =>
          cases ds with
          | nil => exact h2.elim
          | cons d ds =>
            cases ds with
            | cons _ _ => exact h2.2.elim
            | nil => exact hno d rfl
    rw [dif_neg hlen]
  · cases h

theorem ro_sat {rs : Array ResultVar} {Q : RV → Prop} : ∀ {o : Out}, (o.ro P rs).sat Q → o.sat fun e s => (e = .normal ∨ e = .ret) ∧ ∃ r, resD P rs s = some r ∧ Q r
  | .leaf e s, h => by
    cases hr : resD P rs s with
    | none =>
      simp only [Out.ro, hr] at h
      cases e <;> exact h.elim
    | some r =>
      simp only [Out.ro, hr] at h
      cases e with
      | exit id => exact h.elim
      | normal => exact ⟨.inl rfl, r, hr, h⟩
      | ret => exact ⟨.inr rfl, r, hr, h⟩
  | .ite b x y, h => ⟨fun hb => ro_sat (o := x) (h.1 hb), fun hb => ro_sat (o := y) (h.2 hb)⟩
  | .side ps x, h => ⟨h.1, ro_sat (o := x) h.2⟩
  | .fail, h => h.elim

/-- THE CONTRACT OF A FUNCTION, over what its arguments show. -/
theorem dcontract (ht : TabsOk P X) (hm : P.follows .mixedOrders = true) {K : Nat} {fn : Func} (hf : P.funcs[K]? = some fn) (hn : (fn.name == "runtime.NumGoroutine") = false) {c : Code} (hb : fn.body = some c) (hl : ∀ w0 : Base P, Dyn.LpOk P w0 lp (blocksL c)) {fuel : Nat} {args : List DV} {r : RV} {O : RO}
    (hp : pOks args = true) (hO : (dfun P X lp fuel fn args).ro P fn.results = O) (hs : O.sat fun r' => RVLe r' r) : CallD P K args r := by
  intro w F us hF hden
  have hrun : (callFunc K us.toArray).run P w = .ok (.enter K us.toArray) w := by
    unfold callFunc
    simp only [Sem.run_bind, run_program, Result.andThen_ok, hf, hn, hb]
    simp
  rw [hrun]
  refine ⟨rfl, ?_⟩
  let w0 : Base P := ⟨w, F, hF, [], fun _ h => by cases h⟩
  have m0 : Mem w0 (fun _ => (0, fun _ => .bool false)) [] w := ⟨fun n he hn => by simp at hn, fun n k c d b hn => by simp at hn, fun n t cs hn => by simp at hn, fun _ _ => rfl, ⟨rfl, rfl, rfl, Nat.le_refl _, fun _ _ _ => rfl⟩⟩
  obtain ⟨β, _, i2, i3, i4, i5, i6⟩ := init_args (w0 := w0) args us [] _ m0 (fun b hb => .inl hb) hp hden
  simp only [List.length_nil, List.nil_append] at i2 i3 i4 i5 i6
  have hlen : us.length = args.length := by
    have : ∀ (ds : List DV) (us : List Value), DenVs w F ds us → us.length = ds.length := by
      intro ds
      induction ds with
      | nil => intro us h; cases us with
        | nil => rfl
        | cons _ _ => exact h.elim
      | cons d ds ih => intro us h; cases us with
        | nil => exact h.elim
        | cons u us => simp only [List.length_cons]; rw [ih us h.2]
    exact this args us hden
  have m : M w0 β (initS fn args) { tmps := us.toArray ++ Array.replicate (fn.ntmps - us.toArray.size) undef, defers := [] } w := by
    refine { defers := rfl, size := by simp [initS, i3, hlen], slot := fun i u hu => ?_, locs := fun i n hn => ?_, mem := i2, tie := fun p hp => by cases hp }
    · by_cases hi : i < us.length
      · have e2 : (us.toArray ++ Array.replicate (fn.ntmps - us.toArray.size) undef)[i]? = us[i]? := by
          rw [Array.getElem?_append_left (by simpa using hi)]; simp
        rw [e2] at hu
        have e1 : (initS fn args).slots.getD i .junk = (initA 0 args).1.getD i .junk := by
          simp only [initS, List.getD_eq_getElem?_getD]
          rw [List.getElem?_append_left (by rw [i3]; exact hi)]
        rw [e1]
        exact Den_congr (fun _ _ => rfl) (fun c hc => by
          have hg : isG ((initA 0 args).1.getD i .junk) = false := by
            rw [List.getD_eq_getElem?_getD, List.getElem?_eq_getElem (by rw [i3]; exact hi)]
            exact i6 _ (List.getElem_mem _)
          rw [isG_conds hg] at hc; cases hc) (i4 i u hu)
      · have e1 : (initS fn args).slots.getD i .junk = .junk := by
          simp only [initS, List.getD_eq_getElem?_getD]
          rw [List.getElem?_append_right (by rw [i3]; omega), List.getElem?_replicate]
          split <;> rfl
        rw [e1]; trivial
    · by_cases hi : i < us.length
      · have e1 : (initS fn args).slots.getD i .junk = (initA 0 args).1.getD i .junk := by
          simp only [initS, List.getD_eq_getElem?_getD]
          rw [List.getElem?_append_left (by rw [i3]; exact hi)]
        rw [e1] at hn
        exact i5 i n hn
      · have e1 : (initS fn args).slots.getD i .junk = .junk := by
          simp only [initS, List.getD_eq_getElem?_getD]
          rw [List.getElem?_append_right (by rw [i3]; omega), List.getElem?_replicate]
          split <;> rfl
        rw [e1] at hn; cases hn
  have ng : NoG (initS fn args) := by
    intro x hx
    rcases List.mem_append.1 hx with hx | hx
    · exact i6 x hx
    · rw [(List.mem_replicate.1 hx).2]; rfl
  have hsat := ro_sat (hO ▸ hs)
  unfold dfun at hsat
  rw [hb] at hsat
  refine calls_of_wp hf hb ?_
  refine lexec_sound ht hm c (hl w0) .leaf _ _ _ w _ m ng hsat fun e s β a w' m' _ hl => ?_
  obtain ⟨he, r', hr, hq⟩ := hl
  obtain ⟨u, hu1, hu2⟩ := results_runD m' hr
  have hpost : a.defers = [] ∧ ∃ v', (results fn a.tmps).run P w' = .ok v' w' ∧ ∃ u, Ending.returned v' = .returned u ∧ DenR w' (fun b => F b ∨ (w.heap.size ≤ b ∧ b < w'.heap.size)) r u ∧ Below w.heap.size w w' :=
    ⟨m'.defers, u, hu1, u, rfl, DenR_le hq hu2, ⟨m'.mem.below.os, m'.mem.below.tape, m'.mem.below.output, m'.mem.below.size, fun k hk => m'.mem.below.block k hk (fun h => by cases h)⟩⟩
  rcases he with rfl | rfl <;> exact hpost
/-- a contract whose result has no depth -/
theorem dcontractV (ht : TabsOk P X) (hm : P.follows .mixedOrders = true) {K : Nat} {fn : Func} (hf : P.funcs[K]? = some fn) (hn : (fn.name == "runtime.NumGoroutine") = false) {c : Code} (hb : fn.body = some c) (hl : ∀ w0 : Base P, Dyn.LpOk P w0 lp (blocksL c)) {fuel : Nat} {args : List DV} {v : Value} {l : List Prop}
    (hp : pOks args = true) (hv : ((dfun P X lp fuel fn args).ro P fn.results).val = some v) (hs : ((dfun P X lp fuel fn args).ro P fn.results).sideList = l) (ha : allP l) : CallD P K args (.val (.one (.p v))) :=
  dcontract (fuel := fuel) ht hm hf hn hb hl hp rfl (by
    have := RO.sat_val hv (by rw [hs]; exact ha)
    have mono : ∀ {o : RO} {Q Q' : RV → Prop}, (∀ r, Q r → Q' r) → o.sat Q → o.sat Q' := by
      intro o
      induction o with
      | leaf r => intro Q Q' h k; exact h r k
      | ite b x y ihx ihy => intro Q Q' h k; exact ⟨fun hb => ihx h (k.1 hb), fun hb => ihy h (k.2 hb)⟩
      | side ps x ih => intro Q Q' h k; exact ⟨k.1, ih h k.2⟩
      | fail => intro Q Q' h k; exact k
    exact mono (fun r hr => by subst hr; exact RVLe.refl _) this)
/-- no blocks are told -/
def noLp : Lp := fun _ _ => none
theorem noLp_ok (c : Code) (w0 : Base P) : Dyn.LpOk P w0 noLp (blocksL c) := fun p hp s o h => by cases h

/-! ### tables of contracts -/
abbrev EntryD := Nat × (List DV → Option (RV × List Prop))
def tdOf : List EntryD → Nat → List DV → Option (RV × List Prop)
  | [], _, _ => none
  | e :: es, K, args => bif Nat.beq e.1 K then e.2 args else tdOf es K args
def EntryDOk (P : Program) (e : EntryD) : Prop := ∀ args r ps, e.2 args = some (r, ps) → allP ps → CallD P e.1 args r
theorem tdOf_ok : ∀ {es : List EntryD}, (∀ e ∈ es, EntryDOk P e) → ∀ K args r ps, tdOf es K args = some (r, ps) → allP ps → CallD P K args r
  | [], _ => fun K args r ps h => by simp [tdOf] at h
  | e :: es, h => fun K args r ps hv => by
    simp only [tdOf] at hv
    cases hb : Nat.beq e.1 K with
    | true =>
      rw [hb] at hv
      have : e.1 = K := Nat.eq_of_beq_eq_true hb
      subst this
      exact h e (by simp) args r ps hv
    | false =>
      rw [hb] at hv
      exact tdOf_ok (es := es) (fun x hx => h x (by simp [hx])) K args r ps hv
def tabs (es : List Entry) (ds : List EntryD) (dres : Nat → Bool) (dty : TypeId → Bool) : Tabs := { tb := tbOf es, td := tdOf ds, dres := dres, dty := dty }
theorem tabs_ok {es : List Entry} {ds : List EntryD} {dres : Nat → Bool} {dty : TypeId → Bool} (h1 : ∀ e ∈ es, EntryOk P e) (h2 : ∀ e ∈ ds, EntryDOk P e) : TabsOk P (tabs es ds dres dty) := ⟨tbOf_ok h1, (fun K f as lent u out ps h => by cases h), tdOf_ok h2⟩
abbrev EntryX := Nat × (List LA → Lent → Option (Value × List (List Value) × List Prop))
def txOf : List EntryX → Nat → Option (List LA → Lent → Option (Value × List (List Value) × List Prop))
  | [], _ => none
  | e :: es, K => bif Nat.beq e.1 K then some e.2 else txOf es K
def EntryXOk (P : Program) (e : EntryX) : Prop := ∀ as lent u out ps, e.2 as lent = some (u, out, ps) → allP ps → CallX P e.1 as lent u out
theorem txOf_ok : ∀ {es : List EntryX}, (∀ e ∈ es, EntryXOk P e) → ∀ K f as lent u out ps, txOf es K = some f → f as lent = some (u, out, ps) → allP ps → CallX P K as lent u out
  | [], _ => fun K f as lent u out ps h => by cases h
  | e :: es, h => fun K f as lent u out ps hk hv => by
    simp only [txOf] at hk
    cases hb : Nat.beq e.1 K with
    | true =>
      rw [hb] at hk
      have : e.1 = K := Nat.eq_of_beq_eq_true hb
      subst this
      simp only [cond_true, Option.some.injEq] at hk; subst hk
      exact h e (by simp) as lent u out ps hv
    | false =>
      rw [hb] at hk
      exact txOf_ok (es := es) (fun x hx => h x (by simp [hx])) K f as lent u out ps hk hv
def tabsX (es : List Entry) (ds : List EntryD) (xs : List EntryX) (dres : Nat → Bool) (dty : TypeId → Bool) (dtmp : Bool) : Tabs := { tb := tbOf es, td := tdOf ds, dres := dres, dty := dty, tx := txOf xs, dtmp := dtmp }
theorem tabsX_ok {es : List Entry} {ds : List EntryD} {xs : List EntryX} {dres : Nat → Bool} {dty : TypeId → Bool} {dtmp : Bool} (h1 : ∀ e ∈ es, EntryOk P e) (h2 : ∀ e ∈ ds, EntryDOk P e) (h3 : ∀ e ∈ xs, EntryXOk P e) : TabsOk P (tabsX es ds xs dres dty dtmp) := ⟨tbOf_ok h1, txOf_ok h3, tdOf_ok h2⟩
end
end Go.Proofs.Ytgdjfclpncpnpaa.Dyn
