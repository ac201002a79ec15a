/-
  OWN WORK. Joined by merge.py: Sha Ctt Apa Apb Apc Apd Ape Shb Shc Apz Sam San Dla Auq Aur Aus Aut Auu.
-/
import Derived.Test.YtcbbjfaoijfdiaaQE
/-! ## Sha -/
namespace Go.Proofs.Ytcbbjfaoijfdiaa
open Go Go.RowKit Sym
set_option maxRecDepth 100000

/-! ### names that are found in cells -/
def nmCell (s : Dyn.St) (m j : Nat) : Nat := match s.heap.getD m none with
  | some (.cells _ cs) => nmOf (.v (cs.getD j (.bool false)))
  | _ => 0
def nmCells (s : Dyn.St) : List (Nat × Nat) → List Nat
  | [] => []
  | (m, j) :: l => nmCell s m j :: nmCells s l
/-- names σ, then those that the slots hs name, then those that the cells cl name; slots ks of n -/
def keepC (n : Nat) (σ hs : List Nat) (cl : List (Nat × Nat)) (ks : List Nat) (v : Nat) (s : Dyn.St) : Dyn.St :=
  match nodupB (σ ++ nmsOf s hs ++ nmCells s cl) with
  | true => Dyn.relabel (σ ++ nmsOf s hs ++ nmCells s cl) ((2 ^ n - 1) ^^^ maskOf ks) v s
  | false => s
theorem keepC_ent {P : Program} {w0 : Dyn.Base P} (n : Nat) (σ hs : List Nat) (cl : List (Nat × Nat)) (ks : List Nat) (v : Nat) (s : Dyn.St) : Dyn.Ent w0 s (keepC n σ hs cl ks v s) := by
  unfold keepC
  split
  · rename_i h; exact Dyn.Ent.label (nodupB_ok h) _ v s
  · exact Dyn.Ent.refl w0 s
def keepCR (n : Nat) (σ hs : List Nat) (cl : List (Nat × Nat)) (ks σr r : List Nat) : AExit → Dyn.St → Dyn.St
  | .ret, s => keepA n σr [] r 0 s
  | _, s => keepC n σ hs cl ks 0 s
theorem keepCR_ent {P : Program} {w0 : Dyn.Base P} (n : Nat) (σ hs : List Nat) (cl : List (Nat × Nat)) (ks σr r : List Nat) (e : AExit) (s : Dyn.St) : Dyn.Ent w0 s (keepCR n σ hs cl ks σr r e s) := by
  cases e
  · exact keepC_ent n σ hs cl ks 0 s
  · exact keepC_ent n σ hs cl ks 0 s
  · exact keepA_ent n σr [] r 0 s
/-! ### turns -/
structure Tn where
  mx : Bool
  my : Bool
  q : Int
  u : P2
abbrev tn (t : Tn) : Value := .agg ⟨[vb t.mx, vb t.my, vi t.q, vi t.u.x, vi t.u.y]⟩
def dT : Value → Option Tn | .agg ⟨[.bool a, .bool b, .int .i64 q, .int .i64 x, .int .i64 y]⟩ => some ⟨a, b, q, ⟨x, y⟩⟩ | _ => none
theorem dT_eq {v : Value} {x : Tn} (h : dT v = some x) : v = tn x := by
  unfold dT at h; split at h
  · simp only [Option.some.injEq] at h; subst h; rfl
  · cases h
def cT (t : Tn) : List Dyn.DC := [cB t.mx, cB t.my, cI t.q, cI t.u.x, cI t.u.y]
def dvT (t : Tn) : Dyn.DV := .agg (cT t)
def aT : Dyn.DV → Option Tn
  | .agg [.p (.bool a), .p (.bool b), .p (.int .i64 q), .p (.int .i64 x), .p (.int .i64 y)] => some ⟨a, b, q, ⟨x, y⟩⟩
  | _ => none
theorem aT_eq {d : Dyn.DV} {x : Tn} (h : aT d = some x) : Dyn.DVLe d (dvT x) := by
  unfold aT at h; split at h
  · simp only [Option.some.injEq] at h; subst h; exact Dyn.DVLe.refl _
  · cases h
def quF (q : Int) : Int := band q 3
def turnPtF (p : P2) (t : Tn) : P2 :=
  let x := bif t.mx then W (0 - p.x) else p.x
  let y := bif t.my then W (0 - p.y) else p.y
  let k := quF t.q
  let x2 := bif k == 1 then W (0 - y) else bif k == 2 then W (0 - x) else bif k == 3 then y else x
  let y2 := bif k == 1 then x else bif k == 2 then W (0 - y) else bif k == 3 then W (0 - x) else y
  ⟨W (x2 + t.u.x), W (y2 + t.u.y)⟩
/-! ### figure's scalars -/
def nearF (p : P2) : Bool := andB (andB (andB (decide (p.x ≥ -536870912)) (decide (p.x ≤ 536870912))) (decide (p.y ≥ -536870912))) (decide (p.y ≤ 536870912))
def widF (r : Int) : Bool := andB (decide (r ≥ 1)) (decide (r ≤ 536870912))
def foldF (was cls : Int) (add : Bool) : Int :=
  bif orB (orB (orB (decide (was < 0)) (decide (was > 2))) (decide (cls < 0))) (decide (cls > 2)) then 1 else
  bif cls == 0 then was else bif andB (cls == 2) add then 2 else bif cls == 2 then 0 else bif andB add (was == 2) then 2 else bif andB (!add) (was == 0) then 0 else 1
def aroundF (p q : P2) (r : Int) : B4 := ⟨imax (W (imin p.x q.x - r)) (-536870912), imax (W (imin p.y q.y - r)) (-536870912), imin (W (imax p.x q.x + r)) 536870912, imin (W (imax p.y q.y + r)) 536870912⟩
def plusF (a b : Int) : Int := bif decide (a > W (9223372036854775807 - b)) then 9223372036854775807 else W (a + b)
theorem near_ok (p : P2) : CallOk Try.prog 60 [pt p] (vb (nearF p)) := fnOk (fuel := 16) (tbOf_ok tbA_ok) mo Try.func60 (by kernel_rfl) (by kernel_rfl) (by kernel_rfl) (by kernel_rfl)
theorem width_ok (r : Int) : CallOk Try.prog 61 [vi r] (vb (widF r)) := fnOk (fuel := 16) (tbOf_ok tbA_ok) mo Try.func61 (by kernel_rfl) (by kernel_rfl) (by kernel_rfl) (by kernel_rfl)
theorem plus_ok (a b : Int) : CallOk Try.prog 46 [vi a, vi b] (vi (plusF a b)) := fnOk (fuel := 16) (tbOf_ok tbA_ok) mo Try.func46 (by kernel_rfl) (by kernel_rfl) (by kernel_rfl) (by kernel_rfl)
theorem quarters_ok (q : Int) : CallOk Try.prog 64 [vi q] (vi (quF q)) := fnOk (fuel := 16) (tbOf_ok tbA_ok) mo Try.func64 (by kernel_rfl) (by kernel_rfl) (by kernel_rfl) (by kernel_rfl)
/-- a table, one entry more where the function is there -/
def tf0 : List Entry := tbA
theorem tf0_ok : ∀ e ∈ tf0, EntryOk Try.prog e := tbA_ok
def tf1 : List Entry := (60, en1 dP (fun p => vb (nearF p))) :: (61, en1 dI (fun p => vb (widF p))) :: tf0
theorem tf1_ok : ∀ e ∈ tf1, EntryOk Try.prog e := List.forall_mem_cons.2 ⟨en1_ok dP_eq near_ok, List.forall_mem_cons.2 ⟨en1_ok dI_eq width_ok, tf0_ok⟩⟩
def tf2 : List Entry := tf1
theorem tf2_ok : ∀ e ∈ tf2, EntryOk Try.prog e := tf1_ok
def tf3 : List Entry := tf2
theorem tf3_ok : ∀ e ∈ tf3, EntryOk Try.prog e := tf2_ok
def tf4 : List Entry := (46, en2 dI dI (fun a b => vi (plusF a b))) :: tf3
theorem tf4_ok : ∀ e ∈ tf4, EntryOk Try.prog e := List.forall_mem_cons.2 ⟨en2_ok dI_eq dI_eq plus_ok, tf3_ok⟩
def tf5 : List Entry := (64, en1 dI (fun a => vi (quF a))) :: tf4
theorem tf5_ok : ∀ e ∈ tf5, EntryOk Try.prog e := List.forall_mem_cons.2 ⟨en1_ok dI_eq quarters_ok, tf4_ok⟩
def plX (t : Tn) : Bool := !(t.mx == t.my)
def plQ (t : Tn) : Int := quF (bif t.my then W (quF t.q + 2) else quF t.q)
def thenF (t u : Tn) : Tn := ⟨!(plX t == plX u), false, quF (W ((bif plX u then W (0 - plQ t) else plQ t) + plQ u)), turnPtF t.u u⟩
theorem turnPt_ok (p : P2) (t : Tn) : CallOk Try.prog 57 [pt p, tn t] (pt (turnPtF p t)) := fnOk (fuel := 16) (tbOf_ok tf5_ok) mo Try.func57 (by kernel_rfl) (by kernel_rfl) (by kernel_rfl) (by kernel_rfl)
def tf6 : List Entry := (57, en2 dP dT (fun a b => pt (turnPtF a b))) :: tf5
theorem tf6_ok : ∀ e ∈ tf6, EntryOk Try.prog e := List.forall_mem_cons.2 ⟨en2_ok dP_eq dT_eq turnPt_ok, tf5_ok⟩
def tf7 : List Entry := tf6
theorem tf7_ok : ∀ e ∈ tf7, EntryOk Try.prog e := tf6_ok
def tf8 : List Entry := tf7
theorem tf8_ok : ∀ e ∈ tf8, EntryOk Try.prog e := tf7_ok
/-- the scalars of figure and turn -/
def tbF : List Entry := tf8
theorem tbF_ok : ∀ e ∈ tbF, EntryOk Try.prog e := tf8_ok
/-! ### shapes: one level -/
structure Sh where
  k : Int
  a : P2
  b : P2
  c : P2
  r : Int
  l : Ctr
  n : Nat
  f : Nat → List Dyn.DC
def cS (s : Sh) : List Dyn.DC := [cI s.k, cI s.a.x, cI s.a.y, cI s.b.x, cI s.b.y, cI s.c.x, cI s.c.y, cI s.r, cCtr s.l, .row s.n s.f]
def dvS (s : Sh) : Dyn.DV := .agg (cS s)
/-- shapes, all of it -/
inductive Shp where
  | nil
  | mk (k : Int) (a b c : P2) (r : Int) (l : Ctr) (n : Nat) (add : Nat → Bool) (sub : Nat → Shp)
def partC (add : Bool) (s : Sh) : List Dyn.DC := cB add :: cS s
def toSh : Shp → Sh
  | .nil => ⟨0, ⟨0, 0⟩, ⟨0, 0⟩, ⟨0, 0⟩, 0, ⟨0, fun _ => 0, fun _ _ => ⟨0, 0⟩⟩, 1, fun _ => []⟩
  | .mk k a b c r l n add sub => ⟨k, a, b, c, r, l, n, fun i => partC (add i) (toSh (sub i))⟩
/-! ### decoders: what an argument shows, what is asked of it -/
abbrev Dec (α : Type) := Dyn.DV → Option (α × List Prop)
def DecOk {α : Type} (q : Dec α) (e : α → Dyn.DV) (p : α → Prop) : Prop := ∀ d x ps, q d = some (x, ps) → allP ps → Dyn.DVLe d (e x) ∧ p x
def qOf {α : Type} (a : Dyn.DV → Option α) : Dec α := fun d => match a d with
  | some x => some (x, [])
  | none => none
theorem qOf_ok {α : Type} {a : Dyn.DV → Option α} {e : α → Dyn.DV} (h : ∀ {d x}, a d = some x → Dyn.DVLe d (e x)) : DecOk (qOf a) e (fun _ => True) := fun d x ps hq _ => by
  unfold qOf at hq
  split at hq
  · rename_i y hy
    simp only [Option.some.injEq, Prod.mk.injEq] at hq
    obtain ⟨rfl, rfl⟩ := hq
    exact ⟨h hy, trivial⟩
  · cases hq
/-- .. with one thing more that is asked -/
def qAnd {α : Type} (q : Dec α) (r : α → Prop) : Dec α := fun d => match q d with
  | some (x, ps) => some (x, r x :: ps)
  | none => none
theorem qAnd_ok {α : Type} {q : Dec α} {e : α → Dyn.DV} {p r : α → Prop} (h : DecOk q e p) : DecOk (qAnd q r) e (fun x => r x ∧ p x) := fun d x ps hq hp => by
  unfold qAnd at hq
  split at hq
  · rename_i y ps' hy
    simp only [Option.some.injEq, Prod.mk.injEq] at hq
    obtain ⟨rfl, rfl⟩ := hq
    obtain ⟨h1, h2⟩ := h d _ _ hy hp.2
    exact ⟨h1, hp.1, h2⟩
  · cases hq
def qP : Dec P2 := qOf aP
def qX : Dec B4 := qOf aX
def qI : Dec Int := qOf aI
def qB : Dec Bool := qOf aB
def qT : Dec Tn := qOf aT
theorem qP_ok : DecOk qP dvP (fun _ => True) := qOf_ok aP_eq
theorem qX_ok : DecOk qX dvX (fun _ => True) := qOf_ok aX_eq
theorem qI_ok : DecOk qI dvI (fun _ => True) := qOf_ok aI_eq
theorem qB_ok : DecOk qB dvB (fun _ => True) := qOf_ok aB_eq
theorem qT_ok : DecOk qT dvT (fun _ => True) := qOf_ok aT_eq
def qC : Dec Ctr
  | .one (.row n f) => some (ctrOf n f, [ctrIs n f])
  | _ => none
theorem qC_ok : DecOk qC dvC (fun _ => True) := fun d x ps h hp => by
  unfold qC at h; split at h
  · simp only [Option.some.injEq, Prod.mk.injEq] at h
    obtain ⟨rfl, rfl⟩ := h
    exact ⟨⟨rfl, hp.1⟩, trivial⟩
  · cases h
def en1D {α : Type} (q : Dec α) (F : α → Dyn.RV) : List Dyn.DV → Option (Dyn.RV × List Prop)
  | [a] => match q a with
    | some (x, ps) => some (F x, ps)
    | none => none
  | _ => none
def en2D {α β : Type} (q : Dec α) (q2 : Dec β) (F : α → β → Dyn.RV) : List Dyn.DV → Option (Dyn.RV × List Prop)
  | [a, b] => match q a, q2 b with
    | some (x, ps), some (y, qs) => some (F x y, ps ++ qs)
    | _, _ => none
  | _ => none
def en3D {α β γ : Type} (q : Dec α) (q2 : Dec β) (q3 : Dec γ) (F : α → β → γ → Dyn.RV) : List Dyn.DV → Option (Dyn.RV × List Prop)
  | [a, b, c] => match q a, q2 b, q3 c with
    | some (x, ps), some (y, qs), some (z, rs) => some (F x y z, ps ++ qs ++ rs)
    | _, _, _ => none
  | _ => none
def en0R (r : Dyn.RV) : List Dyn.DV → Option (Dyn.RV × List Prop)
  | [] => some (r, [])
  | _ => none
theorem en0R_ok {P : Program} {K : Nat} {r : Dyn.RV} (h : Dyn.CallD P K [] r) : Dyn.EntryDOk P (K, en0R r) := fun args r' ps hr hp => by
  dsimp only at hr
  unfold en0R at hr
  split at hr
  · simp only [Option.some.injEq, Prod.mk.injEq] at hr
    rw [← hr.1]; exact h
  · cases hr
theorem en1D_ok {P : Program} {K : Nat} {α : Type} {q : Dec α} {e : α → Dyn.DV} {p : α → Prop} {F : α → Dyn.RV} (hq : DecOk q e p) (h : ∀ x, p x → Dyn.CallD P K [e x] (F x)) : Dyn.EntryDOk P (K, en1D q F) := fun args r ps hr hp => by
  dsimp only at hr
  unfold en1D at hr
  split at hr
  · split at hr
    · rename_i x ps' hx
      simp only [Option.some.injEq, Prod.mk.injEq] at hr
      obtain ⟨rfl, rfl⟩ := hr
      obtain ⟨h1, h2⟩ := hq _ _ _ hx hp
      exact CallD_le (args := [e x]) ⟨h1, trivial⟩ (h x h2)
    · cases hr
  · cases hr
theorem en2D_ok {P : Program} {K : Nat} {α β : Type} {q : Dec α} {q2 : Dec β} {e : α → Dyn.DV} {e2 : β → Dyn.DV} {p : α → Prop} {p2 : β → Prop} {F : α → β → Dyn.RV} (hq : DecOk q e p) (hq2 : DecOk q2 e2 p2) (h : ∀ x y, p x → p2 y → Dyn.CallD P K [e x, e2 y] (F x y)) : Dyn.EntryDOk P (K, en2D q q2 F) := fun args r ps hr hp => by
  dsimp only at hr
  unfold en2D at hr
  split at hr
  · split at hr
    · rename_i x ps' y qs' hx hy
      simp only [Option.some.injEq, Prod.mk.injEq] at hr
      obtain ⟨rfl, rfl⟩ := hr
      rw [allP_append] at hp
      obtain ⟨h1, h2⟩ := hq _ _ _ hx hp.1
      obtain ⟨h3, h4⟩ := hq2 _ _ _ hy hp.2
      exact CallD_le (args := [e x, e2 y]) ⟨h1, h3, trivial⟩ (h x y h2 h4)
    · cases hr
  · cases hr
theorem en3D_ok {P : Program} {K : Nat} {α β γ : Type} {q : Dec α} {q2 : Dec β} {q3 : Dec γ} {e : α → Dyn.DV} {e2 : β → Dyn.DV} {e3 : γ → Dyn.DV} {p : α → Prop} {p2 : β → Prop} {p3 : γ → Prop} {F : α → β → γ → Dyn.RV} (hq : DecOk q e p) (hq2 : DecOk q2 e2 p2) (hq3 : DecOk q3 e3 p3)
    (h : ∀ x y z, p x → p2 y → p3 z → Dyn.CallD P K [e x, e2 y, e3 z] (F x y z)) : Dyn.EntryDOk P (K, en3D q q2 q3 F) := fun args r ps hr hp => by
  dsimp only at hr
  unfold en3D at hr
  split at hr
  · split at hr
    · rename_i x ps' y qs' z rs' hx hy hz
      simp only [Option.some.injEq, Prod.mk.injEq] at hr
      obtain ⟨rfl, rfl⟩ := hr
      rw [allP_append, allP_append] at hp
      obtain ⟨h1, h2⟩ := hq _ _ _ hx hp.1.1
      obtain ⟨h3, h4⟩ := hq2 _ _ _ hy hp.1.2
      obtain ⟨h5, h6⟩ := hq3 _ _ _ hz hp.2
      exact CallD_le (args := [e x, e2 y, e3 z]) ⟨h1, h3, h5, trivial⟩ (h x y z h2 h4 h6)
    · cases hr
  · cases hr
/-- what a value of type Shape shows, one level -/
def aS : Dyn.DV → Option (Sh × List Prop)
  | .agg [.p (.int .i64 k), .p (.int .i64 a), .p (.int .i64 b), .p (.int .i64 c), .p (.int .i64 d), .p (.int .i64 e), .p (.int .i64 f), .p (.int .i64 r), .row nl fl, .row n g] => some (⟨k, ⟨a, b⟩, ⟨c, d⟩, ⟨e, f⟩, r, ctrOf nl fl, n, g⟩, [ctrIs nl fl])
  | _ => none
theorem aS_eq {d : Dyn.DV} {x : Sh} {ps : List Prop} (h : aS d = some (x, ps)) (hp : allP ps) : Dyn.DVLe d (dvS x) := by
  unfold aS at h; split at h
  · simp only [Option.some.injEq, Prod.mk.injEq] at h
    obtain ⟨rfl, rfl⟩ := h
    exact ⟨rfl, rfl, rfl, rfl, rfl, rfl, rfl, rfl, ⟨rfl, hp.1⟩, ⟨rfl, fun _ _ => rfl⟩, trivial⟩
  · cases h
def qS : Dec Sh := aS
theorem qS_ok : DecOk qS dvS (fun _ => True) := fun d x ps h hp => ⟨aS_eq h hp, trivial⟩
/-! ### shapes, all of it: from one level back -/
theorem cCtr_inj {l m : Ctr} (h : ctrOf l.n (fun i => [cRow (l.m i) (l.p i)]) = ctrOf m.n (fun i => [cRow (m.m i) (m.p i)])) : l = m := h
theorem cS_inj {s t : Sh} (h : cS s = cS t) : s = t := by
  have h2 : (aS (.agg (cS s))).map (·.1) = (aS (.agg (cS t))).map (·.1) := by rw [h]
  have e : ∀ s : Sh, (aS (.agg (cS s))).map (·.1) = some s := fun s => rfl
  rw [e, e] at h2
  exact Option.some.inj h2
theorem toSh_inj : ∀ (s t : Shp), toSh s = toSh t → s = t := by
  intro s
  induction s with
  | nil =>
    intro t h
    cases t with
    | nil => rfl
    | mk k' a' b' c' r' l' n' add' sub' =>
      simp only [toSh, Sh.mk.injEq] at h
      have := congrFun h.2.2.2.2.2.2.2 0
      cases this
  | mk k a b c r l n add sub ih =>
    intro t h
    cases t with
    | nil =>
      simp only [toSh, Sh.mk.injEq] at h
      have := congrFun h.2.2.2.2.2.2.2 0
      cases this
    | mk k' a' b' c' r' l' n' add' sub' =>
      simp only [toSh, Sh.mk.injEq] at h
      obtain ⟨rfl, rfl, rfl, rfl, rfl, rfl, rfl, hf⟩ := h
      have h1 : ∀ i, add i = add' i ∧ sub i = sub' i := fun i => by
        have := congrFun hf i
        simp only [partC, List.cons.injEq] at this
        refine ⟨?_, ih i _ (cS_inj this.2)⟩
        have h2 : cB (add i) = cB (add' i) := this.1
        simp only [cB, Dyn.DC.p.injEq, Value.bool.injEq] at h2
        exact h2
      have e1 : add = add' := funext fun i => (h1 i).1
      have e2 : sub = sub' := funext fun i => (h1 i).2
      rw [e1, e2]
instance : Inhabited Shp := ⟨.nil⟩
/-- nothing in it is too long to be counted -/
def ShB : Shp → Prop
  | .nil => False
  | .mk _ _ _ _ _ l n _ sub => CtrB l ∧ n ≤ 1000000000 ∧ ∀ i, i < n → ShB (sub i)
/-- two that differ at most in parts that are not there -/
def SLe (x y : Sh) : Prop := x.k = y.k ∧ x.a = y.a ∧ x.b = y.b ∧ x.c = y.c ∧ x.r = y.r ∧ x.l = y.l ∧ x.n = y.n ∧ ∀ i, i < x.n → x.f i = y.f i
theorem SLe.refl (x : Sh) : SLe x x := ⟨rfl, rfl, rfl, rfl, rfl, rfl, rfl, fun _ _ => rfl⟩
theorem SLe.dv {x y : Sh} (h : SLe x y) : Dyn.DVLe (dvS x) (dvS y) := by
  obtain ⟨k, a, b, c, r, l, n, f⟩ := x
  obtain ⟨k', a', b', c', r', l', n', f'⟩ := y
  obtain ⟨h1, h2, h3, h4, h5, h6, h7, h8⟩ := h
  dsimp only at h1 h2 h3 h4 h5 h6 h7 h8
  subst h1; subst h2; subst h3; subst h4; subst h5; subst h6; subst h7
  exact ⟨rfl, rfl, rfl, rfl, rfl, rfl, rfl, rfl, Dyn.DCLe.refl _, ⟨rfl, h8⟩, trivial⟩
theorem SLe_B {s t : Shp} (h : SLe (toSh s) (toSh t)) (ht : ShB t) : ShB s := by
  cases t with
  | nil => exact ht.elim
  | mk k' a' b' c' r' l' n' add' sub' =>
    obtain ⟨h1, h2, h3, h4, h5, h6, h7, h8⟩ := h
    cases s with
    | nil =>
      have := h8 0 (by show (0 : Nat) < 1; decide)
      cases this
    | mk k a b c r l n add sub =>
      have e6 : l = l' := h6
      have e7 : n = n' := h7
      subst e6; subst e7
      refine ⟨ht.1, ht.2.1, fun i hi => ?_⟩
      have := h8 i hi
      have e : toSh (sub i) = toSh (sub' i) := cS_inj (List.cons.inj this).2
      rw [toSh_inj _ _ e]
      exact ht.2.2 i hi
noncomputable def ofSh (x : Sh) : Shp := Classical.epsilon fun s => toSh s = x ∨ ((¬ ∃ t, toSh t = x) ∧ ShB s ∧ SLe x (toSh s))
theorem ofSh_toSh (s : Shp) : ofSh (toSh s) = s := by
  have h : toSh (ofSh (toSh s)) = toSh s ∨ ((¬ ∃ t, toSh t = toSh s) ∧ ShB (ofSh (toSh s)) ∧ SLe (toSh s) (toSh (ofSh (toSh s)))) := Classical.epsilon_spec (p := fun t => toSh t = toSh s ∨ ((¬ ∃ u, toSh u = toSh s) ∧ ShB t ∧ SLe (toSh s) (toSh t))) ⟨s, .inl rfl⟩
  rcases h with h | h
  · exact toSh_inj _ _ h
  · exact absurd ⟨s, rfl⟩ h.1
/-- a shape of which nothing is too long -/
def PdS (x : Sh) : Prop := ShB (ofSh x) ∧ SLe x (toSh (ofSh x))
theorem PdS_mk {s : Shp} (h : ShB s) : PdS (toSh s) := by unfold PdS; rw [ofSh_toSh]; exact ⟨h, SLe.refl _⟩
theorem PdS_le {x : Sh} {s : Shp} (hs : ShB s) (h : SLe x (toSh s)) : PdS x := by
  by_cases e : ∃ t, toSh t = x
  · obtain ⟨t, rfl⟩ := e
    exact PdS_mk (SLe_B h hs)
  · have q : toSh (ofSh x) = x ∨ ((¬ ∃ t, toSh t = x) ∧ ShB (ofSh x) ∧ SLe x (toSh (ofSh x))) := Classical.epsilon_spec (p := fun s => toSh s = x ∨ ((¬ ∃ t, toSh t = x) ∧ ShB s ∧ SLe x (toSh s))) ⟨s, .inr ⟨e, hs, h⟩⟩
    rcases q with q | q
    · exact absurd ⟨_, q⟩ e
    · exact q.2
theorem PdS_of {x : Sh} (h : PdS x) : ∃ add sub, ofSh x = .mk x.k x.a x.b x.c x.r x.l x.n add sub ∧ ∀ i, i < x.n → x.f i = partC (add i) (toSh (sub i)) := by
  obtain ⟨h1, h2⟩ := h
  revert h1 h2
  generalize ofSh x = s
  intro h1 h2
  cases s with
  | nil => exact h1.elim
  | mk k a b c r l n add sub =>
    obtain ⟨e1, e2, e3, e4, e5, e6, e7, e8⟩ := h2
    have e1 : x.k = k := e1
    have e2 : x.a = a := e2
    have e3 : x.b = b := e3
    have e4 : x.c = c := e4
    have e5 : x.r = r := e5
    have e6 : x.l = l := e6
    have e7 : x.n = n := e7
    subst e1; subst e2; subst e3; subst e4; subst e5; subst e6; subst e7
    exact ⟨add, sub, rfl, e8⟩
def lSelf (l : Ctr) : Prop := ctrSelf l
/-- types that show slices -/
def dtyS (t : TypeId) : Bool := dtyP t || Nat.beq t 29 || Nat.beq t 27 || Nat.beq t 49
end Go.Proofs.Ytcbbjfaoijfdiaa

/-! ## Ctt -/
namespace Go.Proofs.Ytcbbjfaoijfdiaa
open Go Go.RowKit Sym

inductive Pln where
  | lf
  | it (p q : Pln)
  | tt (p : Pln)
  | ff (p : Pln)
def cutP : Dyn.RO → Pln → Option Dyn.RO
  | .side ps x, p => match cutP x p with
    | some x' => some (.side ps x')
    | none => none
  | .leaf r, .lf => some (.leaf r)
  | .ite b x y, .it p q => match cutP x p, cutP y q with
    | some x', some y' => some (.ite b x' y')
    | _, _ => none
  | .ite b x y, .tt p => match b with
    | true => cutP x p
    | false => none
  | .ite b x y, .ff p => match b with
    | true => none
    | false => cutP y p
  | _, _ => none
theorem cutP_sat {Q : Dyn.RV → Prop} : ∀ {o : Dyn.RO} {p : Pln} {o' : Dyn.RO}, cutP o p = some o' → o'.sat Q → o.sat Q := by
  intro o
  induction o with
  | leaf r =>
    intro p o' h k
    cases p <;> simp only [cutP, Option.some.injEq, reduceCtorEq] at h
    subst h; exact k
  | fail => intro p o' h k; simp only [cutP, reduceCtorEq] at h
  | side ps x ih =>
    intro p o' h k
    simp only [cutP] at h
    split at h
    · rename_i x' hx
      simp only [Option.some.injEq] at h; subst h
      exact ⟨k.1, ih hx k.2⟩
    · cases h
  | ite b x y ihx ihy =>
    intro p o' h k
    cases p with
    | lf => simp only [cutP, reduceCtorEq] at h
    | it p q =>
      simp only [cutP] at h
      split at h
      · rename_i x' y' hx hy
        simp only [Option.some.injEq] at h; subst h
        exact ⟨fun hb => ihx hx (k.1 hb), fun hb => ihy hy (k.2 hb)⟩
      · cases h
    | tt p =>
      cases b with
      | true => exact ⟨fun _ => ihx h k, fun e => (by cases e)⟩
      | false => cases h
    | ff p =>
      cases b with
      | true => cases h
      | false => exact ⟨fun e => (by cases e), fun _ => ihy h k⟩
/-- a contract of which some branches are dead -/
theorem dcontractC {P : Program} {X : Dyn.Tabs} {lp : Dyn.Lp} (ht : Dyn.TabsOk P X) (hm : P.follows .mixedOrders = true) {K : Nat} {fn : Func} (hf : P.funcs[K]? = some fn) (hn : (fn.name == "runtime.NumGoroutine") = false) {c : Code} (hb : fn.body = some c) (hl : ∀ w0 : Dyn.Base P, Dyn.LpOk P w0 lp (blocksL c)) {fuel : Nat} {args : List Dyn.DV} {r : Dyn.RV} (p : Pln) (o' : Dyn.RO)
    (hp : Dyn.pOks args = true) (hO : cutP ((Dyn.dfun P X lp fuel fn args).ro P fn.results) p = some o') (hs : o'.sat fun r' => Dyn.RVLe r' r) : Dyn.CallD P K args r :=
  Dyn.dcontract (fuel := fuel) ht hm hf hn hb hl hp rfl (cutP_sat hO hs)
theorem leafR {r r' : Dyn.RV} (h : r = r') : (Dyn.RO.leaf r).sat (fun q => Dyn.RVLe q r') := by subst h; exact Dyn.RVLe.refl _
end Go.Proofs.Ytcbbjfaoijfdiaa

/-! ## Apa -/
namespace Go.Proofs.Ytcbbjfaoijfdiaa
open Go Go.RowKit Sym
set_option maxRecDepth 100000

def dOk (n : Int) : Bool := andB (decide (n > -1000000000000)) (decide (n < 1000000000000))
def gPer (u : Int) : Int := bif u == 1 then 10 else bif u == 2 then 254 else 0
def gNo (n u : Int) : Bool := bif !(dOk n) then true else gPer u == 0
def gFar (n u : Int) : Bool := bif decide (W (n * gPer u) < -536870912) then true else decide (W (n * gPer u) > 536870912)
def gV (n u : Int) : Int := bif gNo n u then 0 else bif gFar n u then 0 else W (n * gPer u)
def gB (n u : Int) : Bool := bif gNo n u then false else bif gFar n u then false else true
theorem dOk_ok (n : Int) : CallOk Try.prog 19 [vi n] (vb (dOk n)) := fnOk (fuel := 16) (tbOf_ok tbA_ok) mo Try.func19 (by kernel_rfl) (by kernel_rfl) (by kernel_rfl) (by kernel_rfl)
theorem gPer_ok (u : Int) : CallOk Try.prog 18 [vi u] (vi (gPer u)) := fnOk (fuel := 16) (tbOf_ok tbA_ok) mo Try.func18 (by kernel_rfl) (by kernel_rfl) (by kernel_rfl) (by kernel_rfl)
def tbG : List Entry := (19, en1 dI fun n => vb (dOk n)) :: (18, en1 dI fun n => vi (gPer n)) :: tbF
theorem tbG_ok : ∀ e ∈ tbG, EntryOk Try.prog e := List.forall_mem_cons.2 ⟨en1_ok dI_eq dOk_ok, List.forall_mem_cons.2 ⟨en1_ok dI_eq gPer_ok, tbF_ok⟩⟩
theorem grain_ok (n u : Int) : CallOk Try.prog 9 [vi n, vi u] (.tuple ⟨[vi (gV n u), vb (gB n u)]⟩) := fnOk (fuel := 16) (tbOf_ok tbG_ok) mo Try.func9 (by kernel_rfl) (by kernel_rfl) (by kernel_rfl) (by kernel_rfl)
def tbH : List Entry := (9, en2 dI dI fun n u => .tuple ⟨[vi (gV n u), vb (gB n u)]⟩) :: tbF
theorem tbH_ok : ∀ e ∈ tbH, EntryOk Try.prog e := List.forall_mem_cons.2 ⟨en2_ok dI_eq dI_eq grain_ok, tbF_ok⟩

/-! ### shapes as they are written -/
structure ShD where
  k : Int := 0
  a : P2 := ⟨0, 0⟩
  b : P2 := ⟨0, 0⟩
  c : P2 := ⟨0, 0⟩
  r : Int := 0
  ln : Nat := 0
  lf : Nat → List Dyn.DC := fun _ => []
  qn : Nat := 0
  qf : Nat → List Dyn.DC := fun _ => []
def cD (s : ShD) : List Dyn.DC := [cI s.k, cI s.a.x, cI s.a.y, cI s.b.x, cI s.b.y, cI s.c.x, cI s.c.y, cI s.r, .row s.ln s.lf, .row s.qn s.qf]
def dvD (s : ShD) : Dyn.DV := .agg (cD s)
def circD (r : Int) : ShD := { k := bif r == 0 then 6 else 1, r := bif r == 0 then 0 else r }
def rectL (w h : Int) : Nat → List Dyn.DC := (Dyn.pickL 0 [[.row 4 (Dyn.pickL 0 [[cI (W (0 - w)), cI (W (0 - h))], [cI w, cI (W (0 - h))], [cI w, cI h], [cI (W (0 - w)), cI h]])]])
def rectD (w h : Int) : ShD := { k := 2, ln := 1, lf := rectL w h }
def obrD (w h : Int) : ShD := { k := bif decide (w > h) then 3 else bif decide (h > w) then 3 else 1, a := ⟨bif decide (w > h) then W (h - w) else bif decide (h > w) then 0 else 0, bif decide (w > h) then 0 else bif decide (h > w) then W (w - h) else 0⟩, b := ⟨bif decide (w > h) then W (w - h) else bif decide (h > w) then 0 else 0, bif decide (w > h) then 0 else bif decide (h > w) then W (h - w) else 0⟩, r := bif decide (w > h) then h else bif decide (h > w) then w else w }
noncomputable def tabI : Dyn.Tabs := Dyn.tabs tbF [] noD dtyS
theorem tabI_ok : Dyn.TabsOk Try.prog tabI := Dyn.tabs_ok tbF_ok (fun _ h => by cases h)
theorem circ_ok2 (r : Int) : Dyn.CallD Try.prog 10 [dvI r] (.val (dvD (circD r))) :=
  Dyn.dcontract (lp := Dyn.noLp) (fuel := 3) tabI_ok mo Try.func10 (by kernel_rfl) (c := bodyD Try.f10.body) (by kernel_rfl) (fun w0 => Dyn.noLp_ok _ w0) (by kernel_rfl)
    (O := .ite (r == 0) (.leaf (.val (dvD { k := 6 }))) (.leaf (.val (dvD { k := 1, r := r })))) (by kernel_rfl) ⟨fun h => by unfold circD; rw [h]; exact leafR rfl, fun h => by unfold circD; rw [h]; exact leafR rfl⟩
theorem rect_ok (w h : Int) : Dyn.CallD Try.prog 11 [dvI w, dvI h] (.val (dvD (rectD w h))) :=
  Dyn.dcontract (lp := Dyn.noLp) (fuel := 3) tabI_ok mo Try.func11 (by kernel_rfl) (c := bodyD Try.f11.body) (by kernel_rfl) (fun w0 => Dyn.noLp_ok _ w0) (by kernel_rfl)
    (O := .leaf (.val (dvD (rectD w h)))) (by kernel_rfl) (leafR rfl)
theorem obr_ok (w h : Int) : Dyn.CallD Try.prog 12 [dvI w, dvI h] (.val (dvD (obrD w h))) :=
  Dyn.dcontract (lp := Dyn.noLp) (fuel := 3) tabI_ok mo Try.func12 (by kernel_rfl) (c := bodyD Try.f12.body) (by kernel_rfl) (fun w0 => Dyn.noLp_ok _ w0) (by kernel_rfl)
    (O := .ite (decide (w > h)) (.leaf (.val (dvD { k := 3, a := ⟨W (h - w), 0⟩, b := ⟨W (w - h), 0⟩, r := h }))) (.ite (decide (h > w)) (.leaf (.val (dvD { k := 3, a := ⟨0, W (w - h)⟩, b := ⟨0, W (h - w)⟩, r := w }))) (.leaf (.val (dvD { k := 1, r := w }))))) (by kernel_rfl)
    ⟨fun h => by unfold obrD; rw [h]; exact leafR rfl, fun h => ⟨fun h2 => by unfold obrD; rw [h, h2]; exact leafR rfl, fun h2 => by unfold obrD; rw [h, h2]; exact leafR rfl⟩⟩
/-- an aperture, an error -/
def dvAp (s : ShD) (R e : Int) : Dyn.RV := .tup [.agg (cD s ++ [cI R]), dvI e]
def dvSt (s : ByteArray) : Dyn.DV := .one (.p (.string s))
def dvN (n : Nat) (f : Nat → List Dyn.DC) : Dyn.DV := .one (.row n f)
def nilF (_ : Nat) : List Dyn.DC := []
def mF (_ : Nat) : List Dyn.DC := [.p (.string ⟨#[]⟩), .row 0 nilF]
/-- no macros: nothing is defined -/
theorem def_ok (s : ByteArray) (n : Nat) (f : Nat → List Dyn.DC) (u : Int) (g : Nat → List Dyn.DC) : Dyn.CallD Try.prog 8 [dvSt s, dvN n f, dvI u, dvN 0 g] (dvAp {} 0 4) :=
  CallD_le (args := [dvSt s, dvN n f, dvI u, dvN 0 mF]) ⟨rfl, ⟨rfl, fun _ _ => rfl⟩, rfl, ⟨rfl, fun i hi => absurd hi (Nat.not_lt_zero i)⟩, trivial⟩
  (dcontractC (lp := Dyn.noLp) (fuel := 2) tabI_ok mo Try.func8 (by kernel_rfl) (c := bodyD Try.f8.body) (by kernel_rfl) (fun w0 => Dyn.noLp_ok _ w0) (.ff (.tt .lf))
    (.side [some (decide (W (((0 : Nat) : Int) - 1) ≥ 0)) = some true ∧ True → allP [0 ≤ W (((0 : Nat) : Int) - 1) ∧ W (((0 : Nat) : Int) - 1) < ((0 : Nat) : Int)]] (.leaf (dvAp {} 0 4))) rfl (by kernel_rfl) ⟨⟨fun h => absurd h.1 (by decide), trivial⟩, leafR rfl⟩)
end Go.Proofs.Ytcbbjfaoijfdiaa

/-! ## Apb -/
namespace Go.Proofs.Ytcbbjfaoijfdiaa
open Go Go.RowKit Sym
set_option maxRecDepth 100000

def enDf : Dyn.EntryD := (8, fun args => match args with
  | [.one (.p (.string s)), .one (.row n f), .one (.p (.int .i64 u)), .one (.row 0 g)] => some (dvAp {} 0 4, [])
  | _ => none)
theorem enDf_ok : Dyn.EntryDOk Try.prog enDf := fun args r ps h hp => by
  unfold enDf at h
  dsimp only at h
  split at h
  · simp only [Option.some.injEq, Prod.mk.injEq] at h
    obtain ⟨rfl, rfl⟩ := h
    exact def_ok _ _ _ _ _
  · cases h
def tdMk : List Dyn.EntryD := [enDf, (10, en1D qI fun r => .val (dvD (circD r))), (11, en2D qI qI fun w h => .val (dvD (rectD w h))), (12, en2D qI qI fun w h => .val (dvD (obrD w h)))]
def drMk (K : Nat) : Bool := Nat.beq K 8 || Nat.beq K 10 || Nat.beq K 11 || Nat.beq K 12
noncomputable def tabMk : Dyn.Tabs := Dyn.tabs tbH tdMk drMk dtyS
theorem tabMk_ok : Dyn.TabsOk Try.prog tabMk := Dyn.tabs_ok tbH_ok (List.forall_mem_cons.2 ⟨enDf_ok, List.forall_mem_cons.2 ⟨en1D_ok qI_ok fun r _ => circ_ok2 r, List.forall_mem_cons.2 ⟨en2D_ok qI_ok qI_ok fun w h _ _ => rect_ok w h, List.forall_mem_cons.2 ⟨en2D_ok qI_ok qI_ok fun w h _ _ => obr_ok w h, fun _ h => by cases h⟩⟩⟩⟩)
def cf (v : Nat → Int) : Nat → List Dyn.DC := fun i => [cI (v i)]
end Go.Proofs.Ytcbbjfaoijfdiaa

/-! ## Apc -/
namespace Go.Proofs.Ytcbbjfaoijfdiaa
open Go Go.RowKit Sym
set_option maxRecDepth 100000

structure ApR where
  s : ShD := {}
  R : Int := 0
  e : Int := 0
def dvR (x : ApR) : Dyn.RV := dvAp x.s x.R x.e
def erA (e : Int) : ApR := { e := e }
def hF (x u : Int) : Int := W ((gV x u).tdiv 2)
def c2F (sd i x u : Int) : Bool := bif decide (gV x u < 0) then true else bif bif gV x u == 0 then sd == 2 else false then decide (i < sd) else false
def c3F (x u : Int) : Bool := (gV x u).tmod 2 != 0
def mkG (sd i x u : Int) (k : ApR) : ApR := bif !(gB x u) then erA 5 else bif c2F sd i x u then erA 4 else bif c3F x u then erA 7 else k
def erO (e : Int) : Dyn.RO := .leaf (dvR (erA e))
def stp (n : Nat) (sd i x u : Int) (k : Dyn.RO) : Dyn.RO := .side [0 ≤ i ∧ i < (n : Int)] (.ite (!(gB x u)) (erO 5) (.ite (c2F sd i x u) (erO 4) (.ite (c3F x u) (erO 7) k)))
theorem stp_sat {n : Nat} {sd i x u : Int} {k : Dyn.RO} {K : ApR} (hi : 0 ≤ i ∧ i < (n : Int)) (h : k.sat fun r => Dyn.RVLe r (dvR K)) : (stp n sd i x u k).sat fun r => Dyn.RVLe r (dvR (mkG sd i x u K)) := by
  unfold stp mkG erO
  refine ⟨⟨hi, trivial⟩, ⟨fun h1 => ?_, fun h1 => ⟨fun h2 => ?_, fun h2 => ⟨fun h3 => ?_, fun h3 => ?_⟩⟩⟩⟩
  · rw [h1]; exact leafR rfl
  · rw [h1, h2]; exact leafR rfl
  · rw [h1, h2, h3]; exact leafR rfl
  · rw [h1, h2, h3]; exact h
def holeD (s : ShD) (hole : Int) : ShD := { k := 6, qn := 2, qf := Dyn.pickL 0 [cB true :: cD s, cB false :: cD { k := 1, r := hole }] }
def hol (s : ShD) (hole : Int) : ShD := bif decide (hole > 0) then holeD s hole else s
def holO (s : ShD) (hole R : Int) : Dyn.RO := .ite (decide (hole > 0)) (.leaf (dvAp (holeD s hole) R 0)) (.leaf (dvAp s R 0))
theorem hol_sat (s : ShD) (hole R : Int) : (holO s hole R).sat fun r => Dyn.RVLe r (dvR ⟨hol s hole, R, 0⟩) := by
  unfold holO hol
  exact ⟨fun h => by rw [h]; exact leafR rfl, fun h => by rw [h]; exact leafR rfl⟩
def sC : ByteArray := ⟨#[67]⟩
def sR : ByteArray := ⟨#[82]⟩
def sO : ByteArray := ⟨#[79]⟩
def mC1 (v : Nat → Int) (u : Int) : ApR := mkG 1 0 (v 0) u ⟨circD (hF (v 0) u), hF (v 0) u, 0⟩
def mC2 (v : Nat → Int) (u : Int) : ApR := mkG 1 0 (v 0) u (mkG 1 1 (v 1) u ⟨hol (circD (hF (v 0) u)) (hF (v 1) u), bif hF (v 1) u == 0 then hF (v 0) u else 0, 0⟩)
def m2 (g : Int → Int → ShD) (v : Nat → Int) (u : Int) : ApR := mkG 2 0 (v 0) u (mkG 2 1 (v 1) u ⟨g (hF (v 0) u) (hF (v 1) u), 0, 0⟩)
def m3 (g : Int → Int → ShD) (v : Nat → Int) (u : Int) : ApR := mkG 2 0 (v 0) u (mkG 2 1 (v 1) u (mkG 2 2 (v 2) u ⟨hol (g (hF (v 0) u) (hF (v 1) u)) (hF (v 2) u), 0, 0⟩))
def erP (p : Pln) : Pln := .it .lf (.it .lf (.it .lf p))
def MkIs (s : ByteArray) (n : Nat) (v : Nat → Int) (u : Int) (x : ApR) : Prop := Dyn.CallD Try.prog 4 [dvSt s, dvN n (cf v), dvI u, dvN 0 nilF] (dvR x)
theorem mk_bad (s : ByteArray) (n : Nat) (v : Nat → Int) (u : Int) (p : Pln) (h : cutP ((Dyn.dfun Try.prog tabMk Dyn.noLp 3 Try.f4 [dvSt s, dvN n (cf v), dvI u, dvN 0 nilF]).ro Try.prog Try.f4.results) p = some (.leaf (dvAp {} 0 4))) : MkIs s n v u (erA 4) :=
  dcontractC (lp := Dyn.noLp) (fuel := 3) tabMk_ok mo Try.func4 (by kernel_rfl) (c := bodyD Try.f4.body) (by kernel_rfl) (fun w0 => Dyn.noLp_ok _ w0) p (.leaf (dvAp {} 0 4)) rfl h (leafR rfl)
theorem mk_C0 (v : Nat → Int) (u : Int) : MkIs sC 0 v u (erA 4) := mk_bad sC 0 v u (.tt (.tt .lf)) (by kernel_rfl)
theorem mk_C3 (v : Nat → Int) (u : Int) : MkIs sC 3 v u (erA 4) := mk_bad sC 3 v u (.tt (.tt .lf)) (by kernel_rfl)
theorem mk_C4 (v : Nat → Int) (u : Int) : MkIs sC 4 v u (erA 4) := mk_bad sC 4 v u (.tt (.tt .lf)) (by kernel_rfl)
theorem mk_R0 (v : Nat → Int) (u : Int) : MkIs sR 0 v u (erA 4) := mk_bad sR 0 v u (.ff (.tt (.tt .lf))) (by kernel_rfl)
theorem mk_R1 (v : Nat → Int) (u : Int) : MkIs sR 1 v u (erA 4) := mk_bad sR 1 v u (.ff (.tt (.tt .lf))) (by kernel_rfl)
theorem mk_R4 (v : Nat → Int) (u : Int) : MkIs sR 4 v u (erA 4) := mk_bad sR 4 v u (.ff (.tt (.tt .lf))) (by kernel_rfl)
theorem mk_O0 (v : Nat → Int) (u : Int) : MkIs sO 0 v u (erA 4) := mk_bad sO 0 v u (.ff (.tt (.tt .lf))) (by kernel_rfl)
theorem mk_O1 (v : Nat → Int) (u : Int) : MkIs sO 1 v u (erA 4) := mk_bad sO 1 v u (.ff (.tt (.tt .lf))) (by kernel_rfl)
theorem mk_O4 (v : Nat → Int) (u : Int) : MkIs sO 4 v u (erA 4) := mk_bad sO 4 v u (.ff (.tt (.tt .lf))) (by kernel_rfl)
theorem mk_c (n : Nat) (v : Nat → Int) (u : Int) : MkIs ⟨#[99]⟩ n v u (erA 4) := mk_bad ⟨#[99]⟩ n v u (.ff (.ff .lf)) (by kernel_rfl)
theorem mk_X (n : Nat) (v : Nat → Int) (u : Int) : MkIs ⟨#[88]⟩ n v u (erA 4) := mk_bad ⟨#[88]⟩ n v u (.ff (.ff .lf)) (by kernel_rfl)
theorem mk_e (n : Nat) (v : Nat → Int) (u : Int) : MkIs ⟨#[]⟩ n v u (erA 4) := mk_bad ⟨#[]⟩ n v u (.ff (.ff .lf)) (by kernel_rfl)
theorem mk_C1 (v : Nat → Int) (u : Int) : Dyn.CallD Try.prog 4 [dvSt sC, dvN 1 (cf v), dvI u, dvN 0 nilF] (dvR (mC1 v u)) :=
  dcontractC (lp := Dyn.noLp) (fuel := 3) tabMk_ok mo Try.func4 (by kernel_rfl) (c := bodyD Try.f4.body) (by kernel_rfl) (fun w0 => Dyn.noLp_ok _ w0) (.tt (.ff (.tt (erP (.ff (.tt (.tt (.ff .lf))))))))
    (stp 1 1 0 (v 0) u (.leaf (dvAp (circD (hF (v 0) u)) (hF (v 0) u) 0))) rfl (by kernel_rfl) (stp_sat (by decide) (leafR rfl))
theorem mk_C2 (v : Nat → Int) (u : Int) : Dyn.CallD Try.prog 4 [dvSt sC, dvN 2 (cf v), dvI u, dvN 0 nilF] (dvR (mC2 v u)) :=
  dcontractC (lp := Dyn.noLp) (fuel := 4) tabMk_ok mo Try.func4 (by kernel_rfl) (c := bodyD Try.f4.body) (by kernel_rfl) (fun w0 => Dyn.noLp_ok _ w0) (.tt (.ff (.tt (erP (.tt (erP (.ff (.tt (.it (.it .lf .lf) (.it .lf .lf))))))))))
    (stp 2 1 0 (v 0) u (stp 2 1 1 (v 1) u (.ite (hF (v 1) u == 0) (holO (circD (hF (v 0) u)) (hF (v 1) u) (hF (v 0) u)) (holO (circD (hF (v 0) u)) (hF (v 1) u) 0)))) rfl (by kernel_rfl)
    (stp_sat (by decide) (stp_sat (by decide) ⟨fun h => by rw [h]; exact hol_sat _ _ _, fun h => by rw [h]; exact hol_sat _ _ _⟩))
theorem mk_R2 (v : Nat → Int) (u : Int) : Dyn.CallD Try.prog 4 [dvSt sR, dvN 2 (cf v), dvI u, dvN 0 nilF] (dvR (m2 rectD v u)) :=
  dcontractC (lp := Dyn.noLp) (fuel := 4) tabMk_ok mo Try.func4 (by kernel_rfl) (c := bodyD Try.f4.body) (by kernel_rfl) (fun w0 => Dyn.noLp_ok _ w0) (.ff (.tt (.ff (.tt (erP (.tt (erP (.ff (.ff (.tt (.ff .lf)))))))))))
    (stp 2 2 0 (v 0) u (stp 2 2 1 (v 1) u (.leaf (dvAp (rectD (hF (v 0) u) (hF (v 1) u)) 0 0)))) rfl (by kernel_rfl) (stp_sat (by decide) (stp_sat (by decide) (leafR rfl)))
theorem mk_R3 (v : Nat → Int) (u : Int) : Dyn.CallD Try.prog 4 [dvSt sR, dvN 3 (cf v), dvI u, dvN 0 nilF] (dvR (m3 rectD v u)) :=
  dcontractC (lp := Dyn.noLp) (fuel := 5) tabMk_ok mo Try.func4 (by kernel_rfl) (c := bodyD Try.f4.body) (by kernel_rfl) (fun w0 => Dyn.noLp_ok _ w0) (.ff (.tt (.ff (.tt (erP (.tt (erP (.tt (erP (.ff (.ff (.tt (.it .lf .lf)))))))))))))
    (stp 3 2 0 (v 0) u (stp 3 2 1 (v 1) u (stp 3 2 2 (v 2) u (holO (rectD (hF (v 0) u) (hF (v 1) u)) (hF (v 2) u) 0)))) rfl (by kernel_rfl) (stp_sat (by decide) (stp_sat (by decide) (stp_sat (by decide) (hol_sat _ _ _))))
theorem mk_O2 (v : Nat → Int) (u : Int) : Dyn.CallD Try.prog 4 [dvSt sO, dvN 2 (cf v), dvI u, dvN 0 nilF] (dvR (m2 obrD v u)) :=
  dcontractC (lp := Dyn.noLp) (fuel := 4) tabMk_ok mo Try.func4 (by kernel_rfl) (c := bodyD Try.f4.body) (by kernel_rfl) (fun w0 => Dyn.noLp_ok _ w0) (.ff (.tt (.ff (.tt (erP (.tt (erP (.ff (.ff (.ff (.tt (.ff .lf))))))))))))
    (stp 2 2 0 (v 0) u (stp 2 2 1 (v 1) u (.leaf (dvAp (obrD (hF (v 0) u) (hF (v 1) u)) 0 0)))) rfl (by kernel_rfl) (stp_sat (by decide) (stp_sat (by decide) (leafR rfl)))
theorem mk_O3 (v : Nat → Int) (u : Int) : Dyn.CallD Try.prog 4 [dvSt sO, dvN 3 (cf v), dvI u, dvN 0 nilF] (dvR (m3 obrD v u)) :=
  dcontractC (lp := Dyn.noLp) (fuel := 5) tabMk_ok mo Try.func4 (by kernel_rfl) (c := bodyD Try.f4.body) (by kernel_rfl) (fun w0 => Dyn.noLp_ok _ w0) (.ff (.tt (.ff (.tt (erP (.tt (erP (.tt (erP (.ff (.ff (.ff (.tt (.it .lf .lf))))))))))))))
    (stp 3 2 0 (v 0) u (stp 3 2 1 (v 1) u (stp 3 2 2 (v 2) u (holO (obrD (hF (v 0) u) (hF (v 1) u)) (hF (v 2) u) 0)))) rfl (by kernel_rfl) (stp_sat (by decide) (stp_sat (by decide) (stp_sat (by decide) (hol_sat _ _ _))))
end Go.Proofs.Ytcbbjfaoijfdiaa

/-! ## Apd -/
namespace Go.Proofs.Ytcbbjfaoijfdiaa
open Go Go.RowKit Sym
set_option maxRecDepth 100000

def makeM (s : ByteArray) (n : Nat) (v : Nat → Int) (u : Int) : ApR :=
  if s = sC then (match n with
    | 1 => mC1 v u
    | 2 => mC2 v u
    | _ => erA 4)
  else if s = sR then (match n with
    | 2 => m2 rectD v u
    | 3 => m3 rectD v u
    | _ => erA 4)
  else if s = sO then (match n with
    | 2 => m2 obrD v u
    | 3 => m3 obrD v u
    | _ => erA 4)
  else erA 4
def Good (s : ByteArray) (n : Nat) : Prop := (s = sC ∨ s = sR ∨ s = sO ∨ s = ⟨#[99]⟩ ∨ s = ⟨#[88]⟩ ∨ s = ⟨#[]⟩) ∧ n ≤ 4
theorem make_ok {s : ByteArray} {n : Nat} (h : Good s n) (v : Nat → Int) (u : Int) : MkIs s n v u (makeM s n v u) := by
  obtain ⟨hs, hn⟩ := h
  unfold makeM
  rcases hs with rfl | rfl | rfl | rfl | rfl | rfl
  · rw [if_pos rfl]
    match n, hn with
    | 0, _ => exact mk_C0 v u
    | 1, _ => exact mk_C1 v u
    | 2, _ => exact mk_C2 v u
    | 3, _ => exact mk_C3 v u
    | 4, _ => exact mk_C4 v u
  · rw [if_neg (by decide), if_pos rfl]
    match n, hn with
    | 0, _ => exact mk_R0 v u
    | 1, _ => exact mk_R1 v u
    | 2, _ => exact mk_R2 v u
    | 3, _ => exact mk_R3 v u
    | 4, _ => exact mk_R4 v u
  · rw [if_neg (by decide), if_neg (by decide), if_pos rfl]
    match n, hn with
    | 0, _ => exact mk_O0 v u
    | 1, _ => exact mk_O1 v u
    | 2, _ => exact mk_O2 v u
    | 3, _ => exact mk_O3 v u
    | 4, _ => exact mk_O4 v u
  · rw [if_neg (by decide), if_neg (by decide), if_neg (by decide)]; exact mk_c n v u
  · rw [if_neg (by decide), if_neg (by decide), if_neg (by decide)]; exact mk_X n v u
  · rw [if_neg (by decide), if_neg (by decide), if_neg (by decide)]; exact mk_e n v u
def iF (f : Nat → List Dyn.DC) (i : Nat) : Int := match f i with
  | [.p (.int _ x)] => x
  | _ => 0
def IsN (n : Nat) (f : Nat → List Dyn.DC) : Prop := ∀ i, i < n → f i = [cI (iF f i)]
def enMk : Dyn.EntryD := (4, fun args => match args with
  | [.one (.p (.string s)), .one (.row n f), .one (.p (.int .i64 u)), .one (.row 0 _)] => some (dvR (makeM s n (iF f) u), [Good s n, IsN n f])
  | _ => none)
theorem enMk_ok : Dyn.EntryDOk Try.prog enMk := fun args r ps h hp => by
  unfold enMk at h
  dsimp only at h
  split at h
  · rename_i s n f u g
    simp only [Option.some.injEq, Prod.mk.injEq] at h
    obtain ⟨rfl, rfl⟩ := h
    obtain ⟨h1, h2, -⟩ := hp
    exact CallD_le (args := [dvSt s, dvN n (cf (iF f)), dvI u, dvN 0 nilF]) ⟨rfl, ⟨rfl, fun i hi => h2 i hi⟩, rfl, ⟨rfl, fun i hi => absurd hi (Nat.not_lt_zero i)⟩, trivial⟩ (make_ok h1 (iF f) u)
  · cases h
def drAw (K : Nat) : Bool := Nat.beq K 4
noncomputable def tabAp : Dyn.Tabs := Dyn.tabs tbF [enMk] drAw dtyS
theorem tabAp_ok : Dyn.TabsOk Try.prog tabAp := Dyn.tabs_ok tbF_ok (List.forall_mem_cons.2 ⟨enMk_ok, fun _ h => by cases h⟩)
end Go.Proofs.Ytcbbjfaoijfdiaa

/-! ## Ape -/
namespace Go.Proofs.Ytcbbjfaoijfdiaa
open Go Go.RowKit Sym
set_option maxRecDepth 100000

def rwN (l : List Int) : Nat → List Dyn.DC := Dyn.pickL 0 (l.map fun x => [cI x])
noncomputable def awX : ApR := makeM sC 1 (iF (rwN [1000000])) 1
noncomputable def awY : ApR := makeM sR 3 (iF (rwN [1000000, 500000, 200000])) 1
noncomputable def awZ : ApR := makeM ⟨#[88]⟩ 0 (iF fun _ => []) 1
noncomputable def aw17V : Bool := bif bif bif bif bif bif awX.e == 0 then awX.R == 5000000 else false then awX.s.k == 1 else false then awY.e == 0 else false then awY.R == 0 else false then awY.s.k == 6 else false then awZ.e == 4 else false
theorem aw17_O : (Dyn.dfun Try.prog tabAp Dyn.noLp 3 Try.f6 []).ro Try.prog Try.f6.results = .side [Good sC 1, IsN 1 (rwN [1000000])] (.side [Good sR 3, IsN 3 (rwN [1000000, 500000, 200000])] (.side [Good ⟨#[88]⟩ 0, IsN 0 fun _ => []] (.leaf (rB aw17V)))) := by kernel_rfl
theorem aw17_true : aw17V = true := by decide +kernel
theorem awake17 : Dyn.CallD Try.prog 6 [] (rB true) :=
  Dyn.dcontract (lp := Dyn.noLp) (fuel := 3) tabAp_ok mo Try.func6 (by kernel_rfl) (c := bodyD Try.f6.body) (by kernel_rfl) (fun w0 => Dyn.noLp_ok _ w0) (by kernel_rfl) aw17_O (by
    refine ⟨⟨⟨.inl rfl, by decide⟩, fun i hi => ?_, trivial⟩, ⟨⟨.inr (.inl rfl), by decide⟩, fun i hi => ?_, trivial⟩, ⟨⟨.inr (.inr (.inr (.inr (.inl rfl)))), by decide⟩, fun i hi => absurd hi (Nat.not_lt_zero i), trivial⟩, ?_⟩
    · match i, hi with
      | 0, _ => rfl
    · match i, hi with
      | 0, _ => rfl
      | 1, _ => rfl
      | 2, _ => rfl
    · rw [aw17_true]; exact leafR rfl)
end Go.Proofs.Ytcbbjfaoijfdiaa

/-! ## Shb -/
namespace Go.Proofs.Ytcbbjfaoijfdiaa
open Go Go.RowKit Sym
set_option maxRecDepth 100000

def tabF0 : Dyn.Tabs := Dyn.tabs tbF [] noD noD
theorem tabF0_ok : Dyn.TabsOk Try.prog tabF0 := Dyn.tabs_ok tbF_ok (fun _ h => by cases h)
def tabF1 : Dyn.Tabs := Dyn.tabs tbF [] noD dtyS
theorem tabF1_ok : Dyn.TabsOk Try.prog tabF1 := Dyn.tabs_ok tbF_ok (fun _ h => by cases h)
/-! ### bare -/
def zeP (p : P2) : Bool := bif p.x == 0 then bif p.y == 0 then true else false else false
def bareF (s : Sh) : Bool :=
  bif bif bif s.k != 2 then decide ((s.l.n : Int) > 0) else false then true else bif s.k != 6 then decide ((s.n : Int) > 0) else false then false
  else bif s.k == 1 then bif zeP s.b then zeP s.c else false
  else bif bif s.k == 3 then s.k == 3 else s.k == 4 then zeP s.c
  else bif bif s.k == 2 then s.k == 2 else s.k == 6 then bif bif bif zeP s.a then zeP s.b else false then zeP s.c else false then s.r == 0 else false
  else true
theorem bare_ok (s : Sh) : Dyn.CallD Try.prog 59 [dvS s] (rB (bareF s)) :=
  Dyn.dcontractV (lp := Dyn.noLp) (fuel := 3) (X := tabF0) tabF0_ok mo Try.func59 (by kernel_rfl) (c := bodyD Try.f59.body) (by kernel_rfl) (fun w0 => Dyn.noLp_ok _ w0) (by kernel_rfl) (by kernel_rfl) (show _ = [] by kernel_rfl) trivial
/-! ### contours -/
def ctgI (l : Ctr) (i : Nat) (k : Nat) (_ : Unit) : Bool × Unit := (nearF (l.p i k), ())
def ctgO (l : Ctr) (i : Nat) (left : Int) : Bool × Int :=
  bif decide ((l.m i : Int) > left) then (false, left) else ((runN (ctgI l i) () (l.m i)).1, W (left - l.m i))
def contoursF (l : Ctr) : Bool := (runN (ctgO l) 1000 l.n).1
def ctS (l : Ctr) (k : Int) (left : Int) : Dyn.St := mkS 33 [(0, sH 0 0 l.n), (2, .k (vb false)), (3, sI left), (8, sH 0 0 l.n), (9, sI l.n), (10, sI k)] [some (.deep [cCtr l])]
def ctT (l : Ctr) (k : Int) (left : Int) (j : Int) : Dyn.St := mkS 33 [(0, sH 0 0 l.n), (2, .k (vb false)), (3, sI left), (5, sH 1 0 (l.m k.toNat)), (8, sH 0 0 l.n), (9, sI l.n), (10, sI k), (22, sH 1 0 (l.m k.toNat)), (23, sI (l.m k.toNat)), (24, sI j)] [some (.deep [cCtr l]), some (.deep [cRow (l.m k.toNat) (l.p k.toNat)])]
def ctR : Dyn.St := mkS 33 [(2, .k (vb false))] []
def ctK0 : List Nat := [0, 2, 3, 8, 9, 10]
def ctK1 : List Nat := [0, 2, 3, 5, 8, 9, 10, 22, 23, 24]
def ctLp (l : Ctr) : Dyn.Lp := fun id s => match id with
  | 0 => some (.side [keepS 33 [0] ctK0 (2 ^ 3 + 2 ^ 10) s = ctS l 0 1000] (.ite (contoursF l) (.leaf .normal (ctS l l.n (runN (ctgO l) 1000 l.n).2)) (.leaf .ret ctR)))
  | 2 =>
    let k := intD (s.slots.getD 10 .junk)
    let left := intD (s.slots.getD 3 .junk)
    some (.side [keepA 33 [0] [5] ctK1 (2 ^ 24) s = ctT l k left 0, 0 ≤ k ∧ k < l.n] (.ite (runN (ctgI l k.toNat) () (l.m k.toNat)).1 (.leaf .normal (ctT l k left (l.m k.toNat))) (.leaf .ret ctR)))
  | _ => none
def ctB1 (l : Ctr) (k : Int) (left : Int) (j : Nat) : Dyn.Out :=
  .ite (decide ((j : Int) < l.m k.toNat)) (.side [0 ≤ (j : Int) ∧ (j : Int) < l.m k.toNat] (.ite (!nearF (l.p k.toNat j)) (.leaf .ret ctR) (.leaf .normal (ctT l k left (W (j + 1)))))) (.leaf (.exit 2) (ctT l k left j))
def ctB0 (l : Ctr) (k : Nat) (left : Int) : Dyn.Out :=
  .ite (decide ((k : Int) < l.n)) (.side [0 ≤ (k : Int) ∧ (k : Int) < l.n] (.ite (decide ((l.m k : Int) > left)) (.leaf .ret ctR) (.side [ctT l k (W (left - l.m k)) 0 = ctT l k (W (left - l.m k)) 0, 0 ≤ (k : Int) ∧ (k : Int) < l.n]
    (.ite (runN (ctgI l k) () (l.m k)).1 (.leaf .normal (ctS l (W (k + 1)) (W (left - l.m k)))) (.leaf .ret ctR))))) (.leaf (.exit 0) (ctS l k left))
theorem ct_B1 (l : Ctr) (k left : Int) (j : Nat) : (Dyn.lexec Try.prog tabF1 (ctLp l) 3 (unloopD (blkD Try.f62.body 2)) .leaf (ctT l k left j)).rl (keepR 33 [0] [5] ctK1 [2]) = ctB1 l k left j := by kernel_rfl
theorem ct_B0 (l : Ctr) (k : Nat) (left : Int) : (Dyn.lexec Try.prog tabF1 (ctLp l) 3 (unloopD (blkD Try.f62.body 0)) .leaf (ctS l k left)).rl (keepR 33 [0] [] ctK0 [2]) = ctB0 l k left := by kernel_rfl
theorem ct_blocks : blocksL (bodyD Try.f62.body) = [(0, .loop (unloopD (blkD Try.f62.body 0))), (1, blkD Try.f62.body 1), (2, .loop (unloopD (blkD Try.f62.body 2))), (3, blkD Try.f62.body 3)] := by kernel_rfl
theorem ct_b0 : blocksL (unloopD (blkD Try.f62.body 0)) = [(1, blkD Try.f62.body 1), (2, .loop (unloopD (blkD Try.f62.body 2))), (3, blkD Try.f62.body 3)] := by kernel_rfl
theorem ct_b2 : blocksL (unloopD (blkD Try.f62.body 2)) = [(3, blkD Try.f62.body 3)] := by kernel_rfl
theorem ct_inner (l : Ctr) (hl : CtrB l) (w0 : Dyn.Base Try.prog) (s : Dyn.St) (o : Dyn.Out) (h : ctLp l 2 s = some o) : Dyn.BlockSound Try.prog w0 2 (.loop (unloopD (blkD Try.f62.body 2))) s o := by
  simp only [ctLp, Option.some.injEq] at h
  subst h
  refine side_two fun hS hi => ?_
  revert hS hi
  generalize intD (s.slots.getD 10 .junk) = k
  generalize intD (s.slots.getD 3 .junk) = left
  intro hS hi
  have hm : l.m k.toNat ≤ 1000000000 := hl.2 _ (by omega)
  refine run_block (fuel := 3) tabF1_ok mo (lp := ctLp l) (by rw [ct_b2]; exact lpOk_cons (fun s o h => by cases h) lpOk_nil) (fun j (_ : Unit) => ctT l k left j) (l.m k.toNat) (ctgI l k.toNat) () (fun _ => ctR) (keepR 33 [0] [5] ctK1 [2]) (keepR_ent 33 _ _ _ _) (fun j _ => ctB1 l k left j) (fun j _ => ct_B1 l k left j) (fun j a hj ha => ?_) (fun a ha => ?_) (hS ▸ keepA_ent 33 _ _ _ _ s)
  · refine ⟨fun _ => ⟨⟨⟨by omega, by omega⟩, trivial⟩, fun hn => .inr ⟨rfl, ?_, Dyn.Fits.refl _⟩, fun hn => .inl ⟨rfl, ?_, ?_⟩⟩, fun hf => ?_⟩
    · simpa [ctgI] using hn
    · simpa [ctgI] using hn
    · show Dyn.Fits (ctT l k left (W (j + 1))) _
      rw [Wn1 hj hm]; exact Dyn.Fits.refl _
    · rw [decide_eq_false_iff_not] at hf; omega
  · refine ⟨fun ht => ?_, fun _ => ⟨rfl, Dyn.Fits.refl _⟩⟩
    rw [decide_eq_true_eq] at ht; omega
theorem ct_outer (l : Ctr) (hl : CtrB l) (w0 : Dyn.Base Try.prog) (s : Dyn.St) (o : Dyn.Out) (h : ctLp l 0 s = some o) : Dyn.BlockSound Try.prog w0 0 (.loop (unloopD (blkD Try.f62.body 0))) s o := by
  simp only [ctLp, Option.some.injEq] at h
  subst h
  refine side_one fun hS => ?_
  refine run_block (fuel := 3) tabF1_ok mo (lp := ctLp l) (by rw [ct_b0]; exact lpOk_cons (fun s o h => by cases h) (lpOk_cons (ct_inner l hl w0) (lpOk_cons (fun s o h => by cases h) lpOk_nil))) (fun k left => ctS l k left) l.n (ctgO l) 1000 (fun _ => ctR) (keepR 33 [0] [] ctK0 [2]) (keepR_ent 33 _ _ _ _) (fun k left => ctB0 l k left) (fun k left => ct_B0 l k left) (fun k left hk ha => ?_) (fun a ha => ?_) (hS ▸ keepS_ent 33 (by decide) _ _ s)
  · unfold ctgO
    refine ⟨fun _ => ⟨⟨⟨by omega, by omega⟩, trivial⟩, fun hn => .inr ⟨rfl, ?_, Dyn.Fits.refl _⟩, fun hn => ⟨⟨rfl, ⟨by omega, by omega⟩, trivial⟩, fun hx => .inl ⟨rfl, ?_, ?_⟩, fun hx => .inr ⟨rfl, ?_, Dyn.Fits.refl _⟩⟩⟩, fun hf => ?_⟩
    · rw [hn]; rfl
    · rw [hn]; exact hx
    · rw [hn]
      show Dyn.Fits (ctS l (W (k + 1)) _) _
      rw [Wn1 hk hl.1]; exact Dyn.Fits.refl _
    · rw [hn]; exact hx
    · rw [decide_eq_false_iff_not] at hf; omega
  · refine ⟨fun ht => ?_, fun _ => ⟨rfl, Dyn.Fits.refl _⟩⟩
    rw [decide_eq_true_eq] at ht; omega
theorem contours_ok (l : Ctr) (hl : CtrB l) : Dyn.CallD Try.prog 62 [dvC l] (rB (contoursF l)) := by
  have := Dyn.dcontractV (args := [dvC l]) (lp := ctLp l) (fuel := 3) (X := tabF1) (v := vb (bif contoursF l then true else false)) (l := [ctS l 0 1000 = ctS l 0 1000]) tabF1_ok mo Try.func62 (by kernel_rfl) (c := bodyD Try.f62.body) (by kernel_rfl)
    (fun w0 => by rw [ct_blocks]; exact lpOk_cons (ct_outer l hl w0) (lpOk_cons (fun s o h => by cases h) (lpOk_cons (ct_inner l hl w0) (lpOk_cons (fun s o h => by cases h) lpOk_nil))))
    (by kernel_rfl) (by kernel_rfl) (by kernel_rfl) ⟨rfl, trivial⟩
  rwa [bif_tf] at this
end Go.Proofs.Ytcbbjfaoijfdiaa

/-! ## Shc -/
namespace Go.Proofs.Ytcbbjfaoijfdiaa
open Go Go.RowKit Sym
set_option maxRecDepth 100000

/-- one level: what the fields are, the parts' shapes -/
def mkSh (k : Int) (a b c : P2) (r : Int) (l : Ctr) (n : Nat) (add : Nat → Bool) (sh : Nat → Sh) : Sh := ⟨k, a, b, c, r, l, n, fun i => partC (add i) (sh i)⟩
theorem toSh_mk (k : Int) (a b c : P2) (r : Int) (l : Ctr) (n : Nat) (add : Nat → Bool) (sub : Nat → Shp) : toSh (.mk k a b c r l n add sub) = mkSh k a b c r l n add (fun i => toSh (sub i)) := rfl
/-- valid, by what it says of parts -/
def validG (g : Sh → Int → Int → Bool × Int) (sh : Nat → Sh) (s : Sh) (forms left : Int) : Bool × Int :=
  bif decide (left < 1) then (false, left) else
  bif !(bareF s) then (false, W (left - 1)) else
  bif s.k == 1 then (andB (nearF s.a) (widF s.r), W (left - 1)) else
  bif s.k == 2 then (contoursF s.l, W (left - 1)) else
  bif s.k == 3 then (andB (andB (nearF s.a) (nearF s.b)) (widF s.r), W (left - 1)) else
  bif s.k == 4 then (andB (andB (andB (nearF s.a) (nearF s.b)) (widF s.r)) (!(bif s.a.x == s.b.x then bif s.a.y == s.b.y then true else false else false)), W (left - 1)) else
  bif s.k == 5 then (andB (andB (andB (andB (nearF s.a) (nearF s.b)) (nearF s.c)) (widF s.r)) (ringOk s.c s.a s.b), W (left - 1)) else
  bif s.k == 6 then (bif decide (forms ≥ 8) then (false, W (left - 1)) else runN (fun i lf => g (sh i) (W (forms + 1)) lf) (W (left - 1)) s.n)
  else (false, W (left - 1))
def enV (Pd : Sh → Prop) (g : Sh → Int → Int → Bool × Int) : List Dyn.LA → Dyn.Lent → Option (Value × List (List Value) × List Prop)
  | [.d u, .d v, .lp 0 0], [(t, [.int .i64 left])] => match qS u, aI v, Nat.beq t 3 with
    | some (x, ps), some forms, true => some (vb (g x forms left).1, [[vi (g x forms left).2]], Pd x :: ps)
    | _, _, _ => none
  | _, _ => none
theorem CallX_le {P : Program} {K : Nat} {u u' v v' : Dyn.DV} {l : List Dyn.LA} {lent : Dyn.Lent} {r : Value} {o : List (List Value)} (h1 : Dyn.DVLe u u') (h2 : Dyn.DVLe v v') (k : Dyn.CallX P K (.d u' :: .d v' :: l) lent r o) : Dyn.CallX P K (.d u :: .d v :: l) lent r o := fun w F bs us hF hn hd hl hden => k w F bs us hF hn hd hl (by
  cases us with
  | nil => exact hden
  | cons x us => cases us with
    | nil => exact hden.2.elim
    | cons y us => exact ⟨Dyn.DenV_le h1 hden.1, Dyn.DenV_le h2 hden.2.1, hden.2.2⟩)
def VaOk (x : Sh) (g : Sh → Int → Int → Bool × Int) : Prop := ∀ forms left, Dyn.CallX Try.prog 56 [.d (dvS x), .d (dvI forms), .lp 0 0] [(3, [vi left])] (vb (g x forms left).1) [[vi (g x forms left).2]]
theorem enV_ok {Pd : Sh → Prop} {g : Sh → Int → Int → Bool × Int} (ih : ∀ x, Pd x → VaOk x g) : Dyn.EntryXOk Try.prog (56, enV Pd g) := fun as' lent u out ps h hp => by
  dsimp only at h
  unfold enV at h
  split at h
  · rename_i t left
    split at h
    · rename_i x ps' forms hx hf ht
      have ht' := Nat.eq_of_beq_eq_true ht
      subst ht'
      simp only [Option.some.injEq, Prod.mk.injEq] at h
      obtain ⟨rfl, rfl, rfl⟩ := h
      exact CallX_le (qS_ok _ _ _ hx hp.2).1 (aI_eq hf) (ih x hp.1 forms left)
    · cases h
  · cases h
def tdV : List Dyn.EntryD := [(59, en1D qS fun s => rB (bareF s)), (62, en1D (qAnd qC CtrB) fun l => rB (contoursF l))]
theorem tdV_ok : ∀ e ∈ tdV, Dyn.EntryDOk Try.prog e := List.forall_mem_cons.2 ⟨en1D_ok qS_ok fun s _ => bare_ok s, List.forall_mem_cons.2 ⟨en1D_ok (qAnd_ok qC_ok) fun l h => contours_ok l h.1, fun _ h => by cases h⟩⟩
def drV (K : Nat) : Bool := Nat.beq K 56
def tabV (Pd : Sh → Prop) (g : Sh → Int → Int → Bool × Int) : Dyn.Tabs := Dyn.tabsX tbF tdV [(56, enV Pd g)] drV dtyS false
theorem tabV_ok {Pd : Sh → Prop} {g : Sh → Int → Int → Bool × Int} (ih : ∀ x, Pd x → VaOk x g) : Dyn.TabsOk Try.prog (tabV Pd g) :=
  Dyn.tabsX_ok tbF_ok tdV_ok (List.forall_mem_cons.2 ⟨enV_ok ih, fun _ h => by cases h⟩)
def vaG (g : Sh → Int → Int → Bool × Int) (sh : Nat → Sh) (forms : Int) (i : Nat) (left : Int) : Bool × Int := g (sh i) (W (forms + 1)) left
def vaS (s : Sh) (forms left i : Int) : Dyn.St := mkF 123 [(1, sI forms), (2, sL 0), (6, .k (vb false)), (109, sH 1 9 s.n), (110, sI s.n), (111, sI i)] [some (.cells 3 [vi left]), some (.deep (cS s))] [(2, 0)]
def vaR (left : Int) : Dyn.St := mkF 123 [(2, sL 0), (6, .k (vb false))] [some (.cells 3 [vi left])] [(2, 0)]
def vaK : List Nat := [1, 2, 6, 109, 110, 111]
def vaLp (g : Sh → Int → Int → Bool × Int) (sh : Nat → Sh) (s : Sh) (forms left : Int) : Dyn.Lp := fun id st => match id with
  | 1 => some (.side [keepA 123 [0, 1] [] vaK (2 ^ 111) st = vaS s forms left 0] (.ite (runN (vaG g sh forms) left s.n).1 (.leaf .normal (vaS s forms (runN (vaG g sh forms) left s.n).2 s.n)) (.leaf .ret (vaR (runN (vaG g sh forms) left s.n).2))))
  | _ => none
def vaB (Pd : Sh → Prop) (g : Sh → Int → Int → Bool × Int) (sh : Nat → Sh) (s : Sh) (forms : Int) (i : Nat) (left : Int) : Dyn.Out :=
  .ite (decide ((i : Int) < s.n)) (.side [0 ≤ (i : Int) ∧ (i : Int) < s.n] (.side [Pd (sh i), ctrSelf (sh i).l] (.ite (!(g (sh i) (W (forms + 1)) left).1) (.leaf .ret (vaR (g (sh i) (W (forms + 1)) left).2)) (.leaf .normal (vaS s forms (g (sh i) (W (forms + 1)) left).2 (W (i + 1))))))) (.leaf (.exit 1) (vaS s forms left i))
theorem va_B (Pd : Sh → Prop) (g : Sh → Int → Int → Bool × Int) (k : Int) (a b c : P2) (r : Int) (l : Ctr) (n : Nat) (add : Nat → Bool) (sh : Nat → Sh) (forms l0 : Int) (i : Nat) (left : Int) :
    (Dyn.lexec Try.prog (tabV Pd g) (vaLp g sh (mkSh k a b c r l n add sh) forms l0) 3 (unloopD (blkD Try.f56.body 1)) .leaf (vaS (mkSh k a b c r l n add sh) forms left i)).rl (keepQ 123 [0, 1] [] vaK [0] [2, 6]) = vaB Pd g sh (mkSh k a b c r l n add sh) forms i left := by kernel_rfl
theorem va_blocks : blocksL (bodyD Try.f56.body) = [(0, blkD Try.f56.body 0), (1, .loop (unloopD (blkD Try.f56.body 1))), (2, blkD Try.f56.body 2)] := by kernel_rfl
theorem va_b1 : blocksL (unloopD (blkD Try.f56.body 1)) = [(2, blkD Try.f56.body 2)] := by kernel_rfl
theorem va_loop {Pd : Sh → Prop} {g : Sh → Int → Int → Bool × Int} (ih : ∀ x, Pd x → VaOk x g) (k : Int) (a b c : P2) (r : Int) (l : Ctr) (n : Nat) (add : Nat → Bool) (sh : Nat → Sh) (hn : n ≤ 1000000000) (hP : ∀ i, i < n → Pd (sh i)) (forms l0 : Int) (w0 : Dyn.Base Try.prog) (s : Dyn.St) (o : Dyn.Out)
    (h : vaLp g sh (mkSh k a b c r l n add sh) forms l0 1 s = some o) : Dyn.BlockSound Try.prog w0 1 (.loop (unloopD (blkD Try.f56.body 1))) s o := by
  simp only [vaLp, Option.some.injEq] at h
  subst h
  refine side_one fun hS => ?_
  refine run_block (fuel := 3) (tabV_ok ih) mo (lp := vaLp g sh (mkSh k a b c r l n add sh) forms l0) (by rw [va_b1]; exact lpOk_cons (fun s o h => by cases h) lpOk_nil) (fun i left => vaS (mkSh k a b c r l n add sh) forms left i) n (vaG g sh forms) l0 vaR (keepQ 123 [0, 1] [] vaK [0] [2, 6]) (keepQ_ent 123 _ _ _ _ _) (fun i left => vaB Pd g sh (mkSh k a b c r l n add sh) forms i left) (fun i left => va_B Pd g k a b c r l n add sh forms l0 i left) (fun i left hi ha => ?_) (fun left ha => ?_) (hS ▸ keepA_ent 123 _ _ _ _ s)
  · refine ⟨fun _ => ⟨⟨⟨by omega, by show (i : Int) < (n : Int); omega⟩, trivial⟩, ⟨hP i hi, ctrSelf_ok _, trivial⟩, fun hx => .inr ⟨rfl, ?_, Dyn.Fits.refl _⟩, fun hx => .inl ⟨rfl, ?_, ?_⟩⟩, fun hf => ?_⟩
    · simpa [vaG] using hx
    · simpa [vaG] using hx
    · rw [Wn1 hi hn]; exact Dyn.Fits.refl _
    · rw [decide_eq_false_iff_not] at hf
      exact absurd (show (i : Int) < (n : Int) by omega) hf
  · refine ⟨fun ht => ?_, fun _ => ⟨rfl, Dyn.Fits.refl _⟩⟩
    rw [decide_eq_true_eq] at ht
    exact absurd (show (n : Int) < (n : Int) from ht) (by omega)
def vaO (g : Sh → Int → Int → Bool × Int) (sh : Nat → Sh) (s : Sh) (forms left : Int) : Dyn.RX :=
  .ite (decide (left < 1)) (.leaf (vb false) [[vi left]])
  (.side [ctrSelf s.l] (.ite (!(bareF s)) (.leaf (vb false) [[vi (W (left - 1))]])
  (.ite (s.k == 1) (.leaf (vb (andB (nearF s.a) (widF s.r))) [[vi (W (left - 1))]])
  (.ite (s.k == 2) (.side [CtrB s.l, ctrSelf s.l] (.leaf (vb (contoursF s.l)) [[vi (W (left - 1))]]))
  (.ite (s.k == 3) (.leaf (vb (andB (andB (nearF s.a) (nearF s.b)) (widF s.r))) [[vi (W (left - 1))]])
  (.ite (s.k == 4) (.leaf (vb (andB (andB (andB (nearF s.a) (nearF s.b)) (widF s.r)) (!(bif s.a.x == s.b.x then bif s.a.y == s.b.y then true else false else false)))) [[vi (W (left - 1))]])
  (.ite (s.k == 5) (.leaf (vb (andB (andB (andB (andB (nearF s.a) (nearF s.b)) (nearF s.c)) (widF s.r)) (ringOk s.c s.a s.b))) [[vi (W (left - 1))]])
  (.ite (s.k == 6) (.ite (decide (forms ≥ 8)) (.leaf (vb false) [[vi (W (left - 1))]]) (.side [vaS s forms (W (left - 1)) 0 = vaS s forms (W (left - 1)) 0] (.ite (runN (vaG g sh forms) (W (left - 1)) s.n).1 (.leaf (vb true) [[vi (runN (vaG g sh forms) (W (left - 1)) s.n).2]]) (.leaf (vb false) [[vi (runN (vaG g sh forms) (W (left - 1)) s.n).2]]))))
  (.leaf (vb false) [[vi (W (left - 1))]])))))))))
theorem va_O (Pd : Sh → Prop) (g : Sh → Int → Int → Bool × Int) (s : Sh) (sh : Nat → Sh) (forms left : Int) : (Dyn.dfunX Try.prog (tabV Pd g) (vaLp g sh s forms (W (left - 1))) 3 Try.f56 [(3, [vi left])] [.d (dvS s), .d (dvI forms), .lp 0 0]).rx Try.prog [(3, [vi left])] Try.f56.results = vaO g sh s forms left := by kernel_rfl
theorem va_sat (g : Sh → Int → Int → Bool × Int) (sh : Nat → Sh) (s : Sh) (hl : CtrB s.l) (forms left : Int) : (vaO g sh s forms left).sat fun u os => u = vb (validG g sh s forms left).1 ∧ os = [[vi (validG g sh s forms left).2]] := by
  unfold validG
  refine ⟨fun h => ?_, fun h => ⟨⟨ctrSelf_ok _, trivial⟩, fun h1 => ?_, fun h1 => ⟨fun h2 => ?_, fun h2 => ⟨fun h3 => ⟨⟨hl, ctrSelf_ok _, trivial⟩, ?_⟩, fun h3 => ⟨fun h4 => ?_, fun h4 => ⟨fun h5 => ?_, fun h5 => ⟨fun h6 => ?_, fun h6 => ⟨fun h7 => ⟨fun h8 => ?_, fun h8 => ⟨⟨rfl, trivial⟩, fun h9 => ?_, fun h9 => ?_⟩⟩, fun h7 => ?_⟩⟩⟩⟩⟩⟩⟩⟩
  · rw [h]; exact ⟨rfl, rfl⟩
  · rw [h, h1]; exact ⟨rfl, rfl⟩
  · rw [h, h1, h2]; exact ⟨rfl, rfl⟩
  · rw [h, h1, h2, h3]; exact ⟨rfl, rfl⟩
  · rw [h, h1, h2, h3, h4]; exact ⟨rfl, rfl⟩
  · rw [h, h1, h2, h3, h4, h5]; exact ⟨rfl, rfl⟩
  · rw [h, h1, h2, h3, h4, h5, h6]; exact ⟨rfl, rfl⟩
  · rw [h, h1, h2, h3, h4, h5, h6, h7, h8]; exact ⟨rfl, rfl⟩
  · rw [h, h1, h2, h3, h4, h5, h6, h7, h8]; exact ⟨congrArg vb h9.symm, rfl⟩
  · rw [h, h1, h2, h3, h4, h5, h6, h7, h8]; exact ⟨congrArg vb h9.symm, rfl⟩
  · rw [h, h1, h2, h3, h4, h5, h6, h7]; exact ⟨rfl, rfl⟩
/-- one level -/
theorem valid_lvl {Pd : Sh → Prop} {g : Sh → Int → Int → Bool × Int} (ih : ∀ x, Pd x → VaOk x g) (k : Int) (a b c : P2) (r : Int) (l : Ctr) (n : Nat) (add : Nat → Bool) (sh : Nat → Sh) (hl : CtrB l) (hn : n ≤ 1000000000) (hP : ∀ i, i < n → Pd (sh i)) (forms left : Int) :
    Dyn.CallX Try.prog 56 [.d (dvS (mkSh k a b c r l n add sh)), .d (dvI forms), .lp 0 0] [(3, [vi left])] (vb (validG g sh (mkSh k a b c r l n add sh) forms left).1) [[vi (validG g sh (mkSh k a b c r l n add sh) forms left).2]] :=
  Dyn.xcontract (lp := vaLp g sh (mkSh k a b c r l n add sh) forms (W (left - 1))) (fuel := 3) (tabV_ok ih) mo Try.func56 (by kernel_rfl) (c := bodyD Try.f56.body) (by kernel_rfl)
    (fun w0 => by rw [va_blocks]; exact lpOk_cons (fun s o h => by cases h) (lpOk_cons (va_loop ih k a b c r l n add sh hn hP forms _ w0) (lpOk_cons (fun s o h => by cases h) lpOk_nil)))
    (by kernel_rfl) (by kernel_rfl) (by kernel_rfl) (va_O Pd g _ sh forms left) (va_sat g sh _ hl forms left)
/-- valid, all the way down -/
def validF : Shp → Int → Int → Bool × Int
  | .nil, _, left => (false, left)
  | .mk k a b c r l n add sub, forms, left =>
    bif decide (left < 1) then (false, left) else
    bif !(bareF (toSh (.mk k a b c r l n add sub))) then (false, W (left - 1)) else
    bif k == 1 then (andB (nearF a) (widF r), W (left - 1)) else
    bif k == 2 then (contoursF l, W (left - 1)) else
    bif k == 3 then (andB (andB (nearF a) (nearF b)) (widF r), W (left - 1)) else
    bif k == 4 then (andB (andB (andB (nearF a) (nearF b)) (widF r)) (!(bif a.x == b.x then bif a.y == b.y then true else false else false)), W (left - 1)) else
    bif k == 5 then (andB (andB (andB (andB (nearF a) (nearF b)) (nearF c)) (widF r)) (ringOk c a b), W (left - 1)) else
    bif k == 6 then (bif decide (forms ≥ 8) then (false, W (left - 1)) else runN (fun i lf => validF (sub i) (W (forms + 1)) lf) (W (left - 1)) n)
    else (false, W (left - 1))
noncomputable def vE (x : Sh) (forms left : Int) : Bool × Int := validF (ofSh x) forms left
theorem vE_eq (s : Shp) (forms left : Int) : vE (toSh s) forms left = validF s forms left := by unfold vE; rw [ofSh_toSh]
theorem validF_lvl (k : Int) (a b c : P2) (r : Int) (l : Ctr) (n : Nat) (add : Nat → Bool) (sub : Nat → Shp) (forms left : Int) : validF (.mk k a b c r l n add sub) forms left = validG vE (fun i => toSh (sub i)) (toSh (.mk k a b c r l n add sub)) forms left := by
  unfold validG
  simp only [vE_eq]
  rfl
theorem valid_ok : ∀ s : Shp, ShB s → VaOk (toSh s) vE := by
  intro s
  induction s with
  | nil => intro h; exact h.elim
  | mk k a b c r l n add sub ih =>
    intro h forms left
    rw [vE_eq, validF_lvl]
    exact valid_lvl (Pd := fun x => ∃ i, i < n ∧ x = toSh (sub i)) (fun x hx => by
      obtain ⟨i, hi, rfl⟩ := hx
      exact ih i (h.2.2 i hi)) k a b c r l n add (fun i => toSh (sub i)) h.1 h.2.1 (fun i hi => ⟨i, hi, rfl⟩) forms left
end Go.Proofs.Ytcbbjfaoijfdiaa

/-! ## Apz -/
namespace Go.Proofs.Ytcbbjfaoijfdiaa
open Go Go.RowKit Sym
def noF (_ : Nat) : List Dyn.DC := []
theorem ro_leaf {r r' : Dyn.RV} (h : r = r') : (Dyn.RO.leaf r).sat (fun q => Dyn.RVLe q r') := leafR h
def eqP (a b : P2) : Bool := bif a.x == b.x then bif a.y == b.y then true else false else false
def shV (nm off : Nat) (s : Sh) : List Value := [vi s.k, vi s.a.x, vi s.a.y, vi s.b.x, vi s.b.y, vi s.c.x, vi s.c.y, vi s.r, .slice (some ⟨nm, off, some 0⟩) s.l.n 0, .slice (some ⟨nm, off + 1, some 0⟩) s.n 0]
def ShW : Shp → Prop
  | .nil => False
  | .mk _ _ _ _ _ _ n _ sub => ∀ i, i < n → ShW (sub i)
def PdW (x : Sh) : Prop := ShW (ofSh x) ∧ SLe x (toSh (ofSh x))
theorem PdW_mk {s : Shp} (h : ShW s) : PdW (toSh s) := by unfold PdW; rw [ofSh_toSh]; exact ⟨h, SLe.refl _⟩
end Go.Proofs.Ytcbbjfaoijfdiaa

/-! ## Sam -/
namespace Go.Proofs.Ytcbbjfaoijfdiaa
open Go Go.RowKit Sym
set_option maxRecDepth 100000

def spI (l m : Ctr) (i k : Nat) (_ : Unit) : Bool × Unit := (!(!(eqP (l.p i k) (m.p i k))), ())
def spO (l m : Ctr) (i : Nat) (_ : Unit) : Bool × Unit := (bif (l.m i : Int) != (m.m i : Int) then false else (runN (spI l m i) () (l.m i)).1, ())
def sptF (l m : Ctr) : Bool := bif (l.n : Int) != (m.n : Int) then false else (runN (spO l m) () l.n).1
def spH (l m : Ctr) : List (Option Dyn.HE) := [some (.deep [cCtr l]), some (.deep [cCtr m])]
def spS (l m : Ctr) (i : Int) : Dyn.St := mkS 53 [(0, sH 0 0 l.n), (1, sH 1 0 m.n), (4, .k (vb false)), (5, sI i)] (spH l m)
def spT (l m : Ctr) (i k : Int) : Dyn.St := mkS 53 [(0, sH 0 0 l.n), (1, sH 1 0 m.n), (4, .k (vb false)), (5, sI i), (6, sI k)] (spH l m)
def spR : Dyn.St := mkS 53 [(4, .k (vb false))] []
def spK0 : List Nat := [0, 1, 4, 5]
def spK1 : List Nat := [0, 1, 4, 5, 6]
def spLp (l m : Ctr) : Dyn.Lp := fun id st => match id with
  | 0 => some (.side [keepA 53 [0, 1] [] spK0 (2 ^ 5) st = spS l m 0, l.n = m.n] (.ite (runN (spO l m) () l.n).1 (.leaf .normal (spS l m l.n)) (.leaf .ret spR)))
  | 2 =>
    let i := intD (st.slots.getD 5 .junk)
    some (.side [keepA 53 [0, 1] [] spK1 (2 ^ 6) st = spT l m i 0, (0 ≤ i ∧ i < l.n) ∧ l.n = m.n, l.m i.toNat = m.m i.toNat] (.ite (runN (spI l m i.toNat) () (l.m i.toNat)).1 (.leaf .normal (spT l m i (l.m i.toNat))) (.leaf .ret spR)))
  | _ => none
def spB2 (l m : Ctr) (i : Int) (k : Nat) : Dyn.Out :=
  .side [0 ≤ i ∧ i < l.n] (.ite (decide ((k : Int) < l.m i.toNat)) (.side [0 ≤ i ∧ i < l.n, 0 ≤ (k : Int) ∧ (k : Int) < l.m i.toNat, 0 ≤ i ∧ i < m.n, 0 ≤ (k : Int) ∧ (k : Int) < m.m i.toNat] (.ite (!(eqP (l.p i.toNat k) (m.p i.toNat k))) (.leaf .ret spR) (.leaf .normal (spT l m i (W (k + 1)))))) (.leaf (.exit 2) (spT l m i k)))
def spB0 (l m : Ctr) (i : Nat) : Dyn.Out :=
  .ite (decide ((i : Int) < l.n)) (.side [0 ≤ (i : Int) ∧ (i : Int) < l.n, 0 ≤ (i : Int) ∧ (i : Int) < m.n] (.ite ((l.m i : Int) != (m.m i : Int)) (.leaf .ret spR) (.side [spT l m i 0 = spT l m i 0, (0 ≤ (i : Int) ∧ (i : Int) < l.n) ∧ l.n = m.n, l.m i = m.m i] (.ite (runN (spI l m i) () (l.m i)).1 (.leaf .normal (spS l m (W (i + 1)))) (.leaf .ret spR))))) (.leaf (.exit 0) (spS l m i))
theorem sp_B2 (l m : Ctr) (i : Int) (k : Nat) : (Dyn.lexec Try.prog tabF1 (spLp l m) 3 (unloopD (blkD Try.f13.body 2)) .leaf (spT l m i k)).rl (keepR 53 [0, 1] [] spK1 [4]) = spB2 l m i k := by kernel_rfl
theorem sp_B0 (l m : Ctr) (i : Nat) : (Dyn.lexec Try.prog tabF1 (spLp l m) 3 (unloopD (blkD Try.f13.body 0)) .leaf (spS l m i)).rl (keepR 53 [0, 1] [] spK0 [4]) = spB0 l m i := by kernel_rfl
theorem sp_blocks : blocksL (bodyD Try.f13.body) = [(0, .loop (unloopD (blkD Try.f13.body 0))), (1, blkD Try.f13.body 1), (2, .loop (unloopD (blkD Try.f13.body 2))), (3, blkD Try.f13.body 3)] := by kernel_rfl
theorem sp_b0 : blocksL (unloopD (blkD Try.f13.body 0)) = [(1, blkD Try.f13.body 1), (2, .loop (unloopD (blkD Try.f13.body 2))), (3, blkD Try.f13.body 3)] := by kernel_rfl
theorem sp_b2 : blocksL (unloopD (blkD Try.f13.body 2)) = [(3, blkD Try.f13.body 3)] := by kernel_rfl
theorem side_three {P : Program} {w0 : Dyn.Base P} {id : Nat} {c : Code} {s : Dyn.St} {p q r : Prop} {o : Dyn.Out} (h : p → q → r → Dyn.BlockSound P w0 id c s o) : Dyn.BlockSound P w0 id c s (.side [p, q, r] o) := fun Q a w β m ng ho => h ho.1.1 ho.1.2.1 ho.1.2.2.1 Q a w β m ng ho.2
theorem sp_inner (l m : Ctr) (hl : CtrB l) (w0 : Dyn.Base Try.prog) (s : Dyn.St) (o : Dyn.Out) (h : spLp l m 2 s = some o) : Dyn.BlockSound Try.prog w0 2 (.loop (unloopD (blkD Try.f13.body 2))) s o := by
  simp only [spLp, Option.some.injEq] at h
  subst h
  refine side_three fun hS hi' he => ?_
  revert hS hi' he
  generalize intD (s.slots.getD 5 .junk) = i
  intro hS hi' he
  have hi := hi'.1
  have hn := hi'.2
  have hm : l.m i.toNat ≤ 1000000000 := hl.2 _ (by omega)
  refine run_block (fuel := 3) tabF1_ok mo (lp := spLp l m) (by rw [sp_b2]; exact lpOk_cons (fun s o h => by cases h) lpOk_nil) (fun k (_ : Unit) => spT l m i k) (l.m i.toNat) (spI l m i.toNat) () (fun _ => spR) (keepR 53 [0, 1] [] spK1 [4]) (keepR_ent 53 _ _ _ _) (fun k _ => spB2 l m i k) (fun k _ => sp_B2 l m i k) (fun k a hk ha => ?_) (fun a ha => ?_) (hS ▸ keepA_ent 53 _ _ _ _ s)
  · refine ⟨⟨hi, trivial⟩, fun _ => ⟨⟨hi, ⟨by omega, by omega⟩, ⟨hi.1, by omega⟩, ⟨by omega, by omega⟩, trivial⟩, fun hx => .inr ⟨rfl, ?_, Dyn.Fits.refl _⟩, fun hx => .inl ⟨rfl, ?_, ?_⟩⟩, fun hf => ?_⟩
    · unfold spI; rw [hx]; rfl
    · unfold spI; rw [hx]; rfl
    · rw [Wn1 hk hm]; exact Dyn.Fits.refl _
    · rw [decide_eq_false_iff_not] at hf; omega
  · refine ⟨⟨hi, trivial⟩, fun ht => ?_, fun _ => ⟨rfl, Dyn.Fits.refl _⟩⟩
    rw [decide_eq_true_eq] at ht; omega
theorem sp_outer (l m : Ctr) (hl : CtrB l) (w0 : Dyn.Base Try.prog) (hi2 : ∀ s o, spLp l m 2 s = some o → Dyn.BlockSound Try.prog w0 2 (.loop (unloopD (blkD Try.f13.body 2))) s o) (s : Dyn.St) (o : Dyn.Out) (h : spLp l m 0 s = some o) : Dyn.BlockSound Try.prog w0 0 (.loop (unloopD (blkD Try.f13.body 0))) s o := by
  simp only [spLp, Option.some.injEq] at h
  subst h
  refine side_two fun hS hn => ?_
  refine run_block (fuel := 3) tabF1_ok mo (lp := spLp l m) (by rw [sp_b0]; exact lpOk_cons (fun s o h => by cases h) (lpOk_cons hi2 (lpOk_cons (fun s o h => by cases h) lpOk_nil))) (fun i (_ : Unit) => spS l m i) l.n (spO l m) () (fun _ => spR) (keepR 53 [0, 1] [] spK0 [4]) (keepR_ent 53 _ _ _ _) (fun i _ => spB0 l m i) (fun i _ => sp_B0 l m i) (fun i a hi ha => ?_) (fun a ha => ?_) (hS ▸ keepA_ent 53 _ _ _ _ s)
  · unfold spO
    refine ⟨fun _ => ⟨⟨⟨by omega, by omega⟩, ⟨by omega, by omega⟩, trivial⟩, fun hx => .inr ⟨rfl, ?_, Dyn.Fits.refl _⟩, fun hx => ⟨⟨rfl, ⟨⟨by omega, by omega⟩, hn⟩, ?_, trivial⟩, fun hy => .inl ⟨rfl, ?_, ?_⟩, fun hy => .inr ⟨rfl, ?_, Dyn.Fits.refl _⟩⟩⟩, fun hf => ?_⟩
    · rw [hx]; rfl
    · have : (l.m i : Int) = (m.m i : Int) := by simpa using hx
      omega
    · rw [hx]; exact hy
    · rw [Wn1 hi hl.1]; exact Dyn.Fits.refl _
    · rw [hx]; exact hy
    · rw [decide_eq_false_iff_not] at hf; omega
  · refine ⟨fun ht => ?_, fun _ => ⟨rfl, Dyn.Fits.refl _⟩⟩
    rw [decide_eq_true_eq] at ht; omega
def spOO (l m : Ctr) : Dyn.RO := .ite ((l.n : Int) != (m.n : Int)) (.leaf (rB false)) (.side [spS l m 0 = spS l m 0, l.n = m.n] (.ite (runN (spO l m) () l.n).1 (.leaf (rB true)) (.leaf (rB false))))
theorem sp_OO (l m : Ctr) : (Dyn.dfun Try.prog tabF1 (spLp l m) 3 Try.f13 [dvC l, dvC m]).ro Try.prog Try.f13.results = spOO l m := by kernel_rfl
theorem samePts_ok (l m : Ctr) (hl : CtrB l) : Dyn.CallD Try.prog 13 [dvC l, dvC m] (rB (sptF l m)) :=
  Dyn.dcontract (lp := spLp l m) (fuel := 3) (X := tabF1) tabF1_ok mo Try.func13 (by kernel_rfl) (c := bodyD Try.f13.body) (by kernel_rfl)
    (fun w0 => by
      rw [sp_blocks]
      have hi := fun s o => sp_inner l m hl w0 s o
      exact lpOk_cons (sp_outer l m hl w0 hi) (lpOk_cons (fun s o h => by cases h) (lpOk_cons hi (lpOk_cons (fun s o h => by cases h) lpOk_nil))))
    (by kernel_rfl) (sp_OO l m) (by
      unfold sptF
      refine ⟨fun h => ?_, fun h => ⟨⟨rfl, ?_, trivial⟩, fun h2 => ?_, fun h2 => ?_⟩⟩
      · rw [h]; exact ro_leaf rfl
      · have : (l.n : Int) = (m.n : Int) := by simpa using h
        omega
      · rw [h, h2]; exact ro_leaf rfl
      · rw [h, h2]; exact ro_leaf rfl)
end Go.Proofs.Ytcbbjfaoijfdiaa

/-! ## San -/
namespace Go.Proofs.Ytcbbjfaoijfdiaa
open Go Go.RowKit Sym
set_option maxRecDepth 100000

def sqG (g : Sh → Sh → Bool) (add add' : Nat → Bool) (sh sh' : Nat → Sh) (i : Nat) (_ : Unit) : Bool × Unit := (!(bif add i != add' i then true else !(g (sh i) (sh' i))), ())
def SmeOk (x y : Sh) (g : Sh → Sh → Bool) : Prop := Dyn.CallD Try.prog 5 [dvS x, dvS y] (rB (g x y))
def tdE (Pd Qd : Sh → Prop) (g : Sh → Sh → Bool) : List Dyn.EntryD := [(13, en2D (qAnd qC CtrB) qC fun l m => rB (sptF l m)), (5, en2D (qAnd qS Pd) (qAnd qS Qd) fun x y => rB (g x y))]
def dtE (t : TypeId) : Bool := Nat.beq t 29
def tabE (Pd Qd : Sh → Prop) (g : Sh → Sh → Bool) : Dyn.Tabs := Dyn.tabs tbF (tdE Pd Qd g) noD dtE
theorem tabE_ok {Pd Qd : Sh → Prop} {g : Sh → Sh → Bool} (ih : ∀ x, Pd x → ∀ y, Qd y → SmeOk x y g) : Dyn.TabsOk Try.prog (tabE Pd Qd g) :=
  Dyn.tabs_ok tbF_ok (List.forall_mem_cons.2 ⟨en2D_ok (qAnd_ok qC_ok) qC_ok fun l m h _ => samePts_ok l m h.1, List.forall_mem_cons.2 ⟨en2D_ok (qAnd_ok qS_ok) (qAnd_ok qS_ok) fun x y h h2 => ih x h.1 y h2.1, fun _ h => by cases h⟩⟩)
def sqS (x y : Sh) (i : Int) : Dyn.St := mkS 92 [(2, sL 2), (3, sL 3), (4, .k (vb false)), (5, sI i)] [some (.deep (cS x)), some (.deep (cS y)), some (.cells 29 (shV 0 8 x)), some (.cells 29 (shV 1 8 y))]
def sqR : Dyn.St := mkS 92 [(4, .k (vb false))] []
def sqK : List Nat := [2, 3, 4, 5]
def sqH0 (x y : Sh) : Bool :=
  bif bif bif bif bif x.k != y.k then true else !(eqP x.a y.a) then true else !(eqP x.b y.b) then true else !(eqP x.c y.c) then true else x.r != y.r then true else (x.n : Int) != (y.n : Int)
def sqH (x y : Sh) : Bool := bif sqH0 x y then true else !(sptF x.l y.l)
def sqLp (g : Sh → Sh → Bool) (add add' : Nat → Bool) (sh sh' : Nat → Sh) (x y : Sh) : Dyn.Lp := fun id st => match id with
  | 0 => some (.side [keepA 92 [0, 1, 2, 3] [] sqK (2 ^ 5) st = sqS x y 0 ∧ x.n = y.n] (.ite (runN (sqG g add add' sh sh') () x.n).1 (.leaf .normal (sqS x y (x.n : Nat))) (.leaf .ret sqR)))
  | _ => none
def sqB (Pd Qd : Sh → Prop) (g : Sh → Sh → Bool) (add add' : Nat → Bool) (sh sh' : Nat → Sh) (x y : Sh) (i : Nat) : Dyn.Out :=
  .ite (decide ((i : Int) < x.n)) (.ite (add i != add' i)
    (.side [0 ≤ (i : Int) ∧ (i : Int) < x.n, 0 ≤ (i : Int) ∧ (i : Int) < y.n, (add i != add' i) = true] (.ite true (.leaf .ret sqR) (.leaf .normal (sqS x y (W (i + 1))))))
    (.side [0 ≤ (i : Int) ∧ (i : Int) < x.n, 0 ≤ (i : Int) ∧ (i : Int) < y.n, (add i != add' i) = false, 0 ≤ (i : Int) ∧ (i : Int) < x.n, 0 ≤ (i : Int) ∧ (i : Int) < y.n, Pd (sh i), ctrSelf (sh i).l, Qd (sh' i), ctrSelf (sh' i).l] (.ite (!(g (sh i) (sh' i))) (.leaf .ret sqR) (.leaf .normal (sqS x y (W (i + 1)))))))
    (.leaf (.exit 0) (sqS x y i))
theorem sq_B (Pd Qd : Sh → Prop) (g : Sh → Sh → Bool) (k : Int) (a b c : P2) (r : Int) (l : Ctr) (n : Nat) (add : Nat → Bool) (sh : Nat → Sh) (k' : Int) (a' b' c' : P2) (r' : Int) (l' : Ctr) (n' : Nat) (add' : Nat → Bool) (sh' : Nat → Sh) (i : Nat) :
    (Dyn.lexec Try.prog (tabE Pd Qd g) (sqLp g add add' sh sh' (mkSh k a b c r l n add sh) (mkSh k' a' b' c' r' l' n' add' sh')) 3 (unloopD (blkD Try.f5.body 0)) .leaf (sqS (mkSh k a b c r l n add sh) (mkSh k' a' b' c' r' l' n' add' sh') i)).rl (keepR 92 [0, 1, 2, 3] [] sqK [4])
      = sqB Pd Qd g add add' sh sh' (mkSh k a b c r l n add sh) (mkSh k' a' b' c' r' l' n' add' sh') i := by kernel_rfl
theorem sq_blocks : blocksL (bodyD Try.f5.body) = [(0, .loop (unloopD (blkD Try.f5.body 0))), (1, blkD Try.f5.body 1)] := by kernel_rfl
theorem sq_b0 : blocksL (unloopD (blkD Try.f5.body 0)) = [(1, blkD Try.f5.body 1)] := by kernel_rfl
theorem sq_loop {Pd Qd : Sh → Prop} {g : Sh → Sh → Bool} (ih : ∀ x, Pd x → ∀ y, Qd y → SmeOk x y g) (k : Int) (a b c : P2) (r : Int) (l : Ctr) (n : Nat) (add : Nat → Bool) (sh : Nat → Sh) (k' : Int) (a' b' c' : P2) (r' : Int) (l' : Ctr) (n' : Nat) (add' : Nat → Bool) (sh' : Nat → Sh) (hn : n ≤ 1000000000) (hP : ∀ i, i < n → Pd (sh i)) (hQ : ∀ i, i < n' → Qd (sh' i)) (w0 : Dyn.Base Try.prog) (st : Dyn.St) (o : Dyn.Out)
    (h : sqLp g add add' sh sh' (mkSh k a b c r l n add sh) (mkSh k' a' b' c' r' l' n' add' sh') 0 st = some o) : Dyn.BlockSound Try.prog w0 0 (.loop (unloopD (blkD Try.f5.body 0))) st o := by
  simp only [sqLp, Option.some.injEq] at h
  subst h
  refine side_one fun hSe => ?_
  have hS := hSe.1
  have he : n = n' := hSe.2
  refine run_block (fuel := 3) (tabE_ok ih) mo (lp := sqLp g add add' sh sh' (mkSh k a b c r l n add sh) (mkSh k' a' b' c' r' l' n' add' sh')) (by rw [sq_b0]; exact lpOk_cons (fun s o h => by cases h) lpOk_nil) (fun i (_ : Unit) => sqS (mkSh k a b c r l n add sh) (mkSh k' a' b' c' r' l' n' add' sh') i) n (sqG g add add' sh sh') () (fun _ => sqR) (keepR 92 [0, 1, 2, 3] [] sqK [4]) (keepR_ent 92 _ _ _ _) (fun i _ => sqB Pd Qd g add add' sh sh' (mkSh k a b c r l n add sh) (mkSh k' a' b' c' r' l' n' add' sh') i) (fun i _ => sq_B Pd Qd g k a b c r l n add sh k' a' b' c' r' l' n' add' sh' i) (fun i q hi ha => ?_) (fun q ha => ?_) (hS ▸ keepA_ent 92 _ _ _ _ st)
  · have s1 : 0 ≤ (i : Int) ∧ (i : Int) < (n : Int) := ⟨by omega, by omega⟩
    have s2 : 0 ≤ (i : Int) ∧ (i : Int) < (n' : Int) := ⟨by omega, by omega⟩
    unfold sqG
    refine ⟨fun _ => ⟨fun hx => ⟨⟨s1, s2, hx, trivial⟩, fun _ => .inr ⟨rfl, ?_, Dyn.Fits.refl _⟩, fun h => (by cases h)⟩, fun hx => ⟨⟨s1, s2, hx, s1, s2, hP i hi, ctrSelf_ok _, hQ i (by omega), ctrSelf_ok _, trivial⟩, fun hy => .inr ⟨rfl, ?_, Dyn.Fits.refl _⟩, fun hy => .inl ⟨rfl, ?_, ?_⟩⟩⟩, fun hf => ?_⟩
    · rw [hx]; rfl
    · rw [hx, hy]; rfl
    · rw [hx, hy]; rfl
    · rw [Wn1 hi hn]; exact Dyn.Fits.refl _
    · rw [decide_eq_false_iff_not] at hf
      exact absurd s1.2 hf
  · refine ⟨fun ht => ?_, fun _ => ⟨rfl, Dyn.Fits.refl _⟩⟩
    rw [decide_eq_true_eq] at ht
    exact absurd (show (n : Int) < (n : Int) from ht) (by omega)
def sqO (g : Sh → Sh → Bool) (add add' : Nat → Bool) (sh sh' : Nat → Sh) (x y : Sh) : Dyn.RO :=
  .side [some (sqH0 x y) = some false ∧ True → allP [CtrB x.l, ctrSelf x.l, ctrSelf y.l]] (.ite (sqH x y) (.leaf (rB false)) (.side [sqS x y 0 = sqS x y 0 ∧ x.n = y.n] (.ite (runN (sqG g add add' sh sh') () x.n).1 (.leaf (rB true)) (.leaf (rB false)))))
theorem sq_O (Pd Qd : Sh → Prop) (g : Sh → Sh → Bool) (add add' : Nat → Bool) (sh sh' : Nat → Sh) (x y : Sh) : (Dyn.dfun Try.prog (tabE Pd Qd g) (sqLp g add add' sh sh' x y) 3 Try.f5 [dvS x, dvS y]).ro Try.prog Try.f5.results = sqO g add add' sh sh' x y := by kernel_rfl
def sameG (g : Sh → Sh → Bool) (add add' : Nat → Bool) (sh sh' : Nat → Sh) (x y : Sh) : Bool := bif sqH x y then false else (runN (sqG g add add' sh sh') () x.n).1
theorem sqH_n {x y : Sh} (h : sqH x y = false) : x.n = y.n := by
  unfold sqH sqH0 at h
  cases hn : (x.n : Int) != (y.n : Int)
  · have : (x.n : Int) = (y.n : Int) := by simpa using hn
    omega
  · rw [hn] at h
    revert h
    cases x.r != y.r <;> cases x.k != y.k <;> cases eqP x.a y.a <;> cases eqP x.b y.b <;> cases eqP x.c y.c <;> intro h <;> cases h
theorem same_lvl {Pd Qd : Sh → Prop} {g : Sh → Sh → Bool} (ih : ∀ x, Pd x → ∀ y, Qd y → SmeOk x y g) (k : Int) (a b c : P2) (r : Int) (l : Ctr) (n : Nat) (add : Nat → Bool) (sh : Nat → Sh) (k' : Int) (a' b' c' : P2) (r' : Int) (l' : Ctr) (n' : Nat) (add' : Nat → Bool) (sh' : Nat → Sh) (hl : CtrB l) (hn : n ≤ 1000000000) (hP : ∀ i, i < n → Pd (sh i)) (hQ : ∀ i, i < n' → Qd (sh' i)) :
    Dyn.CallD Try.prog 5 [dvS (mkSh k a b c r l n add sh), dvS (mkSh k' a' b' c' r' l' n' add' sh')] (rB (sameG g add add' sh sh' (mkSh k a b c r l n add sh) (mkSh k' a' b' c' r' l' n' add' sh'))) :=
  Dyn.dcontract (lp := sqLp g add add' sh sh' (mkSh k a b c r l n add sh) (mkSh k' a' b' c' r' l' n' add' sh')) (fuel := 3) (tabE_ok ih) mo Try.func5 (by kernel_rfl) (c := bodyD Try.f5.body) (by kernel_rfl)
    (fun w0 => by
      rw [sq_blocks]
      exact lpOk_cons (sq_loop ih k a b c r l n add sh k' a' b' c' r' l' n' add' sh' hn hP hQ w0) (lpOk_cons (fun s o h => by cases h) lpOk_nil))
    (by kernel_rfl) (sq_O Pd Qd g add add' sh sh' _ _) (by
      unfold sameG
      refine ⟨⟨fun _ => ⟨hl, ctrSelf_ok _, ctrSelf_ok _, trivial⟩, trivial⟩, fun h => ?_, fun h => ⟨⟨⟨rfl, sqH_n h⟩, trivial⟩, fun h2 => ?_, fun h2 => ?_⟩⟩
      · rw [h]; exact ro_leaf rfl
      · rw [h]; exact (ro_leaf rfl : Dyn.RVLe _ _) |> fun z => by rw [show (bif false then false else (runN (sqG g add add' sh sh') () (mkSh k a b c r l n add sh).n).1) = true from h2]; exact z
      · rw [h]; exact (ro_leaf rfl : Dyn.RVLe _ _) |> fun z => by rw [show (bif false then false else (runN (sqG g add add' sh sh') () (mkSh k a b c r l n add sh).n).1) = false from h2]; exact z)
/-- Same, of all shapes -/
def sameF : Shp → Shp → Bool
  | .nil, _ => false
  | .mk _ _ _ _ _ _ _ _ _, .nil => false
  | .mk k a b c r l n add sub, .mk k' a' b' c' r' l' n' add' sub' =>
    bif sqH ⟨k, a, b, c, r, l, n, noF⟩ ⟨k', a', b', c', r', l', n', noF⟩ then false else (runN (fun i (_ : Unit) => (!(bif add i != add' i then true else !(sameF (sub i) (sub' i))), ())) () n).1
noncomputable def sameE (x y : Sh) : Bool := sameF (ofSh x) (ofSh y)
theorem sameE_lvl (k : Int) (a b c : P2) (r : Int) (l : Ctr) (n : Nat) (add : Nat → Bool) (sub : Nat → Shp) (k' : Int) (a' b' c' : P2) (r' : Int) (l' : Ctr) (n' : Nat) (add' : Nat → Bool) (sub' : Nat → Shp) :
    sameE (toSh (.mk k a b c r l n add sub)) (toSh (.mk k' a' b' c' r' l' n' add' sub')) = sameG sameE add add' (fun i => toSh (sub i)) (fun i => toSh (sub' i)) (mkSh k a b c r l n add (fun i => toSh (sub i))) (mkSh k' a' b' c' r' l' n' add' (fun i => toSh (sub' i))) := by
  unfold sameE sameG
  rw [ofSh_toSh, ofSh_toSh]
  show (bif _ then false else _) = (bif _ then false else _)
  have e : sqG sameE add add' (fun i => toSh (sub i)) (fun i => toSh (sub' i)) = fun i (_ : Unit) => (!(bif add i != add' i then true else !(sameF (sub i) (sub' i))), ()) := by
    funext i u
    unfold sqG sameE
    rw [ofSh_toSh, ofSh_toSh]
  show (bif _ then false else (runN _ () n).1) = (bif _ then false else (runN (sqG sameE add add' (fun i => toSh (sub i)) (fun i => toSh (sub' i))) () n).1)
  rw [e]
  rfl
theorem same_ok : ∀ s : Shp, ShB s → ∀ t : Shp, ShW t → SmeOk (toSh s) (toSh t) sameE := by
  intro s
  induction s with
  | nil => intro h; exact h.elim
  | mk k a b c r l n add sub ih =>
    intro h t
    cases t with
    | nil => intro h2; exact h2.elim
    | mk k' a' b' c' r' l' n' add' sub' =>
      intro h2
      unfold SmeOk
      rw [sameE_lvl]
      exact same_lvl (Pd := fun x => ∃ i, i < n ∧ x = toSh (sub i)) (Qd := fun y => ∃ t, ShW t ∧ y = toSh t) (fun x hx y hy => by
        obtain ⟨i, hi, rfl⟩ := hx
        obtain ⟨t, ht, rfl⟩ := hy
        exact ih i (h.2.2 i hi) t ht) k a b c r l n add (fun i => toSh (sub i)) k' a' b' c' r' l' n' add' (fun i => toSh (sub' i)) h.1 h.2.1 (fun i hi => ⟨i, hi, rfl⟩) (fun i hi => ⟨sub' i, h2 i hi, rfl⟩)
theorem same_all : ∀ x, PdS x → ∀ y, PdW y → SmeOk x y sameE := fun x hx y hy => by
  have k := same_ok _ hx.1 _ hy.1
  unfold SmeOk at k
  rw [show sameE (toSh (ofSh x)) (toSh (ofSh y)) = sameE x y by unfold sameE; rw [ofSh_toSh, ofSh_toSh]] at k
  exact CallD_le (args := [dvS (toSh (ofSh x)), dvS (toSh (ofSh y))]) ⟨SLe.dv hx.2, SLe.dv hy.2, trivial⟩ k
end Go.Proofs.Ytcbbjfaoijfdiaa

/-! ## Dla -/
namespace Go.Proofs.Ytcbbjfaoijfdiaa
open Go Go.RowKit Sym
set_option maxRecDepth 100000

inductive DLe : Dyn.DC → Dyn.DC → Prop where
  | refl (c : Dyn.DC) : DLe c c
  | row (n : Nat) (f g : Nat → List Dyn.DC) : (∀ i, i < n → (f i).length = (g i).length) → (∀ i j, i < n → j < (f i).length → DLe ((f i).getD j default) ((g i).getD j default)) → DLe (.row n f) (.row n g)
theorem DLe.den {w : World} {F : Nat → Prop} {c d : Dyn.DC} (h : DLe c d) : ∀ {u : Value}, Dyn.DenC w F c u → Dyn.DenC w F d u := by
  induction h with
  | refl c => exact fun h => h
  | row n f g hl _ ih =>
    intro u k
    cases k with
    | nil _ oa cap => exact .nil g oa cap
    | row _ _ b off cap size V hF hc hd =>
      refine .row n g b off cap size V hF (fun i hi => ⟨(hl i hi) ▸ (hc i hi).1, (hc i hi).2⟩) (fun i j hi hj => ih i j hi ?_ (hd i j hi hj))
      rw [(hc i hi).1]; exact hj
def DLL : List Dyn.DC → List Dyn.DC → Prop
  | [], [] => True
  | c :: cs, d :: ds => DLe c d ∧ DLL cs ds
  | _, _ => False
theorem DLL.refl : ∀ cs, DLL cs cs
  | [] => trivial
  | c :: cs => ⟨.refl c, DLL.refl cs⟩
theorem DLL.den {w : World} {F : Nat → Prop} : ∀ {cs ds : List Dyn.DC} {us : List Value}, DLL cs ds → Dyn.DenL w F cs us → Dyn.DenL w F ds us
  | [], [], [], _, h => h
  | [], [], _ :: _, _, h => h
  | [], _ :: _, _, h, _ => h.elim
  | _ :: _, [], _, h, _ => h.elim
  | c :: cs, d :: ds, [], _, k => k.elim
  | c :: cs, d :: ds, u :: us, h, k => ⟨h.1.den k.1, DLL.den h.2 k.2⟩
theorem DLL.get : ∀ {cs ds : List Dyn.DC}, DLL cs ds → cs.length = ds.length ∧ ∀ j, DLe (cs.getD j default) (ds.getD j default)
  | [], [], _ => ⟨rfl, fun j => .refl _⟩
  | [], _ :: _, h => h.elim
  | _ :: _, [], h => h.elim
  | c :: cs, d :: ds, h => by
    have k := DLL.get h.2
    exact ⟨congrArg Nat.succ k.1, fun j => match j with
      | 0 => h.1
      | j + 1 => k.2 j⟩
theorem DLe.rowL {n : Nat} {f g : Nat → List Dyn.DC} (h : ∀ i, i < n → DLL (f i) (g i)) : DLe (.row n f) (.row n g) := .row n f g (fun i hi => (h i hi).get.1) (fun i j hi _ => (h i hi).get.2 j)
def DVd : Dyn.DV → Dyn.DV → Prop
  | .one c, .one d => DLe c d
  | .agg cs, .agg ds => DLL cs ds
  | _, _ => False
theorem DVd.refl : ∀ v, DVd v v
  | .one c => DLe.refl c
  | .agg cs => DLL.refl cs
theorem DVd.den {w : World} {F : Nat → Prop} : ∀ {c d : Dyn.DV} {u : Value}, DVd c d → Dyn.DenV w F c u → Dyn.DenV w F d u
  | .one _, .one _, _, h, k => DLe.den h k
  | .agg _, .agg _, _, h, ⟨us, e, k⟩ => ⟨us, e, DLL.den h k⟩
  | .one _, .agg _, _, h, _ => h.elim
  | .agg _, .one _, _, h, _ => h.elim
/-- a contract, told of a first argument that shows the same -/
theorem CallD_d1 {P : Program} {K : Nat} {v v' : Dyn.DV} {l : List Dyn.DV} {r : Dyn.RV} (h : DVd v v') (k : Dyn.CallD P K (v' :: l) r) : Dyn.CallD P K (v :: l) r := fun w F us hF hd => k w F us hF (by
  cases us with
  | nil => exact hd
  | cons u us => exact ⟨DVd.den h hd.1, hd.2⟩)
end Go.Proofs.Ytcbbjfaoijfdiaa

/-! ## Auq -/
namespace Go.Proofs.Ytcbbjfaoijfdiaa
open Go Go.RowKit Sym
set_option maxRecDepth 100000

def unD : List Dyn.DC → Option ShD
  | [.p (.int .i64 k), .p (.int .i64 ax), .p (.int .i64 ay), .p (.int .i64 bx), .p (.int .i64 b_y), .p (.int .i64 cx), .p (.int .i64 cy), .p (.int .i64 r), .row ln lf, .row qn qf] => some { k := k, a := ⟨ax, ay⟩, b := ⟨bx, b_y⟩, c := ⟨cx, cy⟩, r := r, ln := ln, lf := lf, qn := qn, qf := qf }
  | _ => none
theorem unD_eq {l : List Dyn.DC} {s : ShD} (h : unD l = some s) : l = cD s := by
  unfold unD at h
  split at h
  · simp only [Option.some.injEq] at h; subst h; rfl
  · cases h
def zA : Ctr := ctrOf 0 fun _ => []
def ctD (s : ShD) : Ctr := bif Nat.beq s.ln 0 then zA else ctrOf s.ln s.lf
def leafD (s : ShD) : Shp := .mk s.k s.a s.b s.c s.r (ctD s) 0 (fun _ => false) (fun _ => .nil)
def pD : List Dyn.DC → Bool × Shp
  | .p (.bool add) :: l => match unD l with
    | some s => (add, leafD s)
    | none => (false, .nil)
  | _ => (false, .nil)
def shpA (s : ShD) : Shp := .mk s.k s.a s.b s.c s.r (ctD s) s.qn (fun i => (pD (s.qf i)).1) (fun i => (pD (s.qf i)).2)
def OkA (s : ShD) : Prop := DVd (dvD s) (dvS (toSh (shpA s))) ∧ ShB (shpA s)
/-! ### the shapes that are made -/
theorem row0 {f g : Nat → List Dyn.DC} : DLe (.row 0 f) (.row 0 g) := DLe.rowL fun i hi => absurd hi (Nat.not_lt_zero i)
theorem shb0 {k : Int} {a b c : P2} {r : Int} {l : Ctr} {add : Nat → Bool} {sub : Nat → Shp} (h : CtrB l) : ShB (.mk k a b c r l 0 add sub) := ⟨h, by omega, fun i hi => absurd hi (Nat.not_lt_zero i)⟩
theorem CtrB_zA : CtrB zA := ⟨by decide, fun i hi => absurd hi (Nat.not_lt_zero i)⟩
theorem rect_row (w h : Int) : rectL w h 0 = [cRow ((ctrOf 1 (rectL w h)).m 0) ((ctrOf 1 (rectL w h)).p 0)] := by kernel_rfl
theorem rect_le (w h : Int) : DLe (.row 1 (rectL w h)) (cCtr (ctrOf 1 (rectL w h))) := DLe.rowL fun i hi => by
  obtain rfl : i = 0 := by omega
  rw [rect_row w h]; exact DLL.refl _
theorem rect_B (w h : Int) : CtrB (ctrOf 1 (rectL w h)) := ⟨by show (1 : Nat) ≤ _; decide, fun i hi => by
  have hi : i < 1 := hi
  obtain rfl : i = 0 := by omega
  show (4 : Nat) ≤ _
  decide⟩
/-- a leaf shows as it is written -/
structure LfA (s : ShD) : Prop where
  q : s.qn = 0
  l : DLe (.row s.ln s.lf) (cCtr (ctD s))
  b : CtrB (ctD s)
theorem LfA.ok {s : ShD} (h : LfA s) : OkA s := by
  obtain ⟨k, a, b, c, r, ln, lf, qn, qf⟩ := s
  obtain ⟨rfl, h2, h3⟩ := h
  exact ⟨⟨.refl _, .refl _, .refl _, .refl _, .refl _, .refl _, .refl _, .refl _, h2, row0, trivial⟩, shb0 h3⟩
theorem circ_lf (r : Int) : LfA (circD r) := ⟨rfl, row0, CtrB_zA⟩
theorem obr_lf (w h : Int) : LfA (obrD w h) := ⟨rfl, row0, CtrB_zA⟩
theorem rect_lf (w h : Int) : LfA (rectD w h) := ⟨rfl, rect_le w h, rect_B w h⟩
theorem hole_p (s : ShD) (r : Int) : pD ((holeD s r).qf 0) = (true, leafD s) ∧ pD ((holeD s r).qf 1) = (false, leafD { k := 1, r := r }) := ⟨by kernel_rfl, by kernel_rfl⟩
theorem hole_ok {s : ShD} (h : LfA s) (r : Int) : OkA (holeD s r) := by
  obtain ⟨p0, p1⟩ := hole_p s r
  refine ⟨⟨.refl _, .refl _, .refl _, .refl _, .refl _, .refl _, .refl _, .refl _, row0, ?_, trivial⟩, CtrB_zA, by show (2 : Nat) ≤ _; decide, fun i hi => ?_⟩
  · refine DLe.rowL fun i hi => ?_
    show DLL ((holeD s r).qf i) (partC (pD ((holeD s r).qf i)).1 (toSh (pD ((holeD s r).qf i)).2))
    have hi : i < 2 := hi
    match i, hi with
    | 0, _ =>
      rw [p0]
      obtain ⟨k, a, b, c, r', ln, lf, qn, qf⟩ := s
      obtain ⟨rfl, h2, h3⟩ := h
      have h2 : DLe (.row ln lf) (cCtr (ctD ⟨k, a, b, c, r', ln, lf, 0, qf⟩)) := h2
      exact ⟨.refl _, .refl _, .refl _, .refl _, .refl _, .refl _, .refl _, .refl _, .refl _, h2, row0, trivial⟩
    | 1, _ =>
      rw [p1]
      exact ⟨.refl _, .refl _, .refl _, .refl _, .refl _, .refl _, .refl _, .refl _, .refl _, row0, row0, trivial⟩
  · have hi : i < 2 := hi
    show ShB (pD ((holeD s r).qf i)).2
    match i, hi with
    | 0, _ => rw [p0]; exact shb0 h.b
    | 1, _ => rw [p1]; exact shb0 CtrB_zA
theorem runN_inv {α : Type} {g : Nat → α → Bool × α} (I : Nat → α → Prop) {a : α} (h0 : I 0 a) : ∀ n, (∀ i x, i < n → I i x → (g i x).1 = true ∧ I (i + 1) (g i x).2) → (runN g a n).1 = true ∧ I n (runN g a n).2
  | 0, _ => ⟨rfl, h0⟩
  | n + 1, h => by
    have k := runN_inv I h0 n (fun i x hi => h i x (by omega))
    have e : runN g a n = (true, (runN g a n).2) := Prod.ext k.1 rfl
    rw [runN_go e]
    exact h n _ (by omega) k.2
theorem eqP_iff {a b : P2} : (bif a.x == b.x then bif a.y == b.y then true else false else false) = true ↔ a = b := by
  obtain ⟨x, y⟩ := a
  obtain ⟨x', y'⟩ := b
  by_cases h : x = x'
  · by_cases k : y = y'
    · subst h; subst k; simp
    · simp [h, k]
  · simp [h]
theorem spt_of {l m : Ctr} (hn : l.n = m.n) (h : ∀ i, i < l.n → l.m i = m.m i ∧ ∀ k, k < l.m i → l.p i k = m.p i k) : sptF l m = true := by
  unfold sptF
  rw [show ((l.n : Int) != (m.n : Int)) = false by simp [hn]]
  refine (runN_inv (fun _ _ => True) trivial l.n (fun i x hi _ => ⟨?_, trivial⟩)).1
  have q := h i hi
  unfold spO
  rw [show ((l.m i : Int) != (m.m i : Int)) = false by simp [q.1]]
  refine (runN_inv (fun _ _ => True) trivial (l.m i) (fun k _ hk _ => ⟨?_, trivial⟩)).1
  show (!(!(eqP (l.p i k) (m.p i k)))) = true
  rw [q.2 k hk, show eqP (m.p i k) (m.p i k) = true from eqP_iff.2 rfl]; rfl
theorem same_mk {k : Int} {a b c : P2} {r : Int} {l l' : Ctr} {n : Nat} {add add' : Nat → Bool} {sub sub' : Nat → Shp} (hl : sptF l l' = true) (h : ∀ i, i < n → add i = add' i ∧ sameF (sub i) (sub' i) = true) : sameF (.mk k a b c r l n add sub) (.mk k a b c r l' n add' sub') = true := by
  have e : sqH ⟨k, a, b, c, r, l, n, noF⟩ ⟨k, a, b, c, r, l', n, noF⟩ = false := by
    unfold sqH sqH0
    dsimp only
    rw [hl, show eqP a a = true from eqP_iff.2 rfl, show eqP b b = true from eqP_iff.2 rfl, show eqP c c = true from eqP_iff.2 rfl, show (k != k) = false by simp, show (r != r) = false by simp, show ((n : Int) != (n : Int)) = false by simp]; rfl
  simp only [sameF]
  rw [e]
  refine (runN_inv (fun _ _ => True) trivial n (fun i x hi _ => ⟨?_, trivial⟩)).1
  have q := h i hi
  show (!(bif add i != add' i then true else !(sameF (sub i) (sub' i)))) = true
  rw [q.1, q.2, show (add' i != add' i) = false by simp]; rfl
theorem spt_refl (l : Ctr) : sptF l l = true := spt_of rfl fun _ _ => ⟨rfl, fun _ _ => rfl⟩
theorem same_refl : ∀ s : Shp, ShB s → sameF s s = true := by
  intro s
  induction s with
  | nil => intro h; exact h.elim
  | mk k a b c r l n add sub ih => intro h; exact same_mk (spt_refl l) fun i hi => ⟨rfl, ih i (h.2.2 i hi)⟩
theorem band_le (x : Int) (m : Nat) (hm : m < 2 ^ 62) : 0 ≤ band x (m : Int) ∧ band x (m : Int) ≤ m := by
  have h : (BitVec.ofInt 64 x &&& BitVec.ofInt 64 (m : Int)).toNat ≤ m := by
    rw [BitVec.toNat_and]
    refine Nat.le_trans Nat.and_le_right ?_
    simp only [BitVec.toNat_ofInt]
    omega
  unfold band
  rw [W_id (by omega) (by omega)]
  omega
theorem dOk_in {x : Int} (h1 : -1000000000000 < x) (h2 : x < 1000000000000) : dOk x = true := by
  unfold dOk
  simp only [andB_eq, Bool.and_eq_true, decide_eq_true_eq]
  omega
theorem wid_in {r : Int} (h1 : 1 ≤ r) (h2 : r ≤ 536870912) : widF r = true := by
  unfold widF
  simp only [andB_eq, Bool.and_eq_true, decide_eq_true_eq]
  omega
theorem near_in {x y : Int} (h : -536870912 ≤ x ∧ x ≤ 536870912 ∧ -536870912 ≤ y ∧ y ≤ 536870912) : nearF ⟨x, y⟩ = true := by
  unfold nearF
  simp only [andB_eq, Bool.and_eq_true, decide_eq_true_eq]
  omega
end Go.Proofs.Ytcbbjfaoijfdiaa

/-! ## Aur -/
namespace Go.Proofs.Ytcbbjfaoijfdiaa
open Go Go.RowKit Sym
set_option maxRecDepth 100000

def quG (q : Int) : Int := (W (q.tmod 4 + 4)).tmod 4
theorem rnear_ok (p : P2) : CallOk Try.prog 29 [pt p] (vb (nearF p)) := fnOk (fuel := 16) (tbOf_ok tbF_ok) mo Try.func29 (by kernel_rfl) (by kernel_rfl) (by kernel_rfl) (by kernel_rfl)
theorem quG_ok (q : Int) : CallOk Try.prog 32 [vi q] (vi (quG q)) := fnOk (fuel := 16) (tbOf_ok tbF_ok) mo Try.func32 (by kernel_rfl) (by kernel_rfl) (by kernel_rfl) (by kernel_rfl)
def tbU : List Entry := (29, en1 dP fun p => vb (nearF p)) :: (32, en1 dI fun q => vi (quG q)) :: tbF
theorem tbU_ok : ∀ e ∈ tbU, EntryOk Try.prog e := List.forall_mem_cons.2 ⟨en1_ok dP_eq rnear_ok, List.forall_mem_cons.2 ⟨en1_ok dI_eq quG_ok, tbF_ok⟩⟩
def dvQ : Dyn.DV := .agg [cB false, cB false, cI 1, cI 0, cI 0]
def rotP (p : P2) : P2 := ⟨W (W (0 - p.y) + 0), W (p.x + 0)⟩
noncomputable def tabU0 : Dyn.Tabs := Dyn.tabs tbU [] noD dtyS
theorem tabU0_ok : Dyn.TabsOk Try.prog tabU0 := Dyn.tabs_ok tbU_ok (fun _ h => by cases h)
theorem rpt_ok (p : P2) : Dyn.CallD Try.prog 22 [dvP p, dvQ] (.val (dvP (rotP p))) :=
  dcontractC (lp := Dyn.noLp) (fuel := 3) tabU0_ok mo Try.func22 (by kernel_rfl) (c := bodyD Try.f22.body) (by kernel_rfl) (fun w0 => Dyn.noLp_ok _ w0) (.ff (.ff (.tt (.ff .lf)))) (.leaf (.val (dvP (rotP p)))) rfl (by kernel_rfl) (leafR rfl)
def D1 (r : Int) : ShD := { k := 1, r := r }
def D3 (a b : P2) (r : Int) : ShD := { k := 3, a := a, b := b, r := r }
def wdR (r : Int) : Bool := bif decide (r ≥ 1) then decide (r ≤ 536870912) else false
def nB (a b : P2) : Bool := bif bif bif false then true else !(nearF a) then true else !(nearF b) then true else !(nearF ⟨0, 0⟩)
theorem fm3 {a b : P2} {r : Int} (ha : nearF a = true) (hb : nearF b = true) (hr : wdR r = true) : Dyn.CallD Try.prog 20 [dvD (D3 a b r), dvI 8] (rB true) :=
  dcontractC (lp := Dyn.noLp) (fuel := 3) tabU0_ok mo Try.func20 (by kernel_rfl) (c := bodyD Try.f20.body) (by kernel_rfl) (fun w0 => Dyn.noLp_ok _ w0) (.it .lf (.ff (.ff (.tt .lf))))
    (.ite (nB a b) (.leaf (rB false)) (.leaf (rB (wdR r)))) rfl (by kernel_rfl) ⟨fun h => by (unfold nB at h; rw [ha, hb] at h; exact absurd h (by decide)), fun _ => leafR (by rw [hr])⟩
theorem fm1 {r : Int} (hr : wdR r = true) : Dyn.CallD Try.prog 20 [dvD (D1 r), dvI 8] (rB true) :=
  dcontractC (lp := Dyn.noLp) (fuel := 3) tabU0_ok mo Try.func20 (by kernel_rfl) (c := bodyD Try.f20.body) (by kernel_rfl) (fun w0 => Dyn.noLp_ok _ w0) (.ff (.tt .lf))
    (.leaf (rB (bif wdR r then true else false))) rfl (by kernel_rfl) (leafR (by rw [hr]; rfl))
theorem ctA3 (a b : P2) (r : Int) : Dyn.CallD Try.prog 21 [dvD (D3 a b r)] (rI 1) :=
  dcontractC (lp := Dyn.noLp) (fuel := 3) tabU0_ok mo Try.func21 (by kernel_rfl) (c := bodyD Try.f21.body) (by kernel_rfl) (fun w0 => Dyn.noLp_ok _ w0) (.ff .lf) (.leaf (rI 1)) rfl (by kernel_rfl) (leafR rfl)
theorem ctA1 (r : Int) : Dyn.CallD Try.prog 21 [dvD (D1 r)] (rI 1) :=
  dcontractC (lp := Dyn.noLp) (fuel := 3) tabU0_ok mo Try.func21 (by kernel_rfl) (c := bodyD Try.f21.body) (by kernel_rfl) (fun w0 => Dyn.noLp_ok _ w0) (.ff .lf) (.leaf (rI 1)) rfl (by kernel_rfl) (leafR rfl)
end Go.Proofs.Ytcbbjfaoijfdiaa

/-! ## Aus -/
namespace Go.Proofs.Ytcbbjfaoijfdiaa
open Go Go.RowKit Sym
set_option maxRecDepth 100000

def FmA (s : ShD) : Prop := s.ln = 0 ∧ s.qn = 0 ∧ s.c = ⟨0, 0⟩ ∧ wdR s.r = true ∧ ((s.k = 1 ∧ s.a = ⟨0, 0⟩ ∧ s.b = ⟨0, 0⟩) ∨ (s.k = 3 ∧ nearF s.a = true ∧ nearF s.b = true))
def cQ : List Dyn.DC := [cB false, cB false, cI 1, cI 0, cI 0]
def rotA (s : ShD) : ShD := bif s.k == 3 then D3 (rotP s.a) (rotP s.b) s.r else D1 s.r
theorem FmA_1 {s : ShD} (h1 : s.ln = 0) (h2 : s.qn = 0) (h3 : s.c = ⟨0, 0⟩) (h4 : s.k = 1) (h5 : s.a = ⟨0, 0⟩) (h6 : s.b = ⟨0, 0⟩) : DVd (dvD s) (dvD (D1 s.r)) := by
  obtain ⟨k, a, b, c, r, ln, lf, qn, qf⟩ := s
  subst h1 h2 h3 h4 h5 h6
  exact ⟨.refl _, .refl _, .refl _, .refl _, .refl _, .refl _, .refl _, .refl _, row0, row0, trivial⟩
theorem FmA_3 {s : ShD} (h1 : s.ln = 0) (h2 : s.qn = 0) (h3 : s.c = ⟨0, 0⟩) (h4 : s.k = 3) : DVd (dvD s) (dvD (D3 s.a s.b s.r)) := by
  obtain ⟨k, a, b, c, r, ln, lf, qn, qf⟩ := s
  subst h1 h2 h3 h4
  exact ⟨.refl _, .refl _, .refl _, .refl _, .refl _, .refl _, .refl _, .refl _, row0, row0, trivial⟩
theorem fmA_ok {s : ShD} (h : FmA s) : Dyn.CallD Try.prog 20 [dvD s, dvI 8] (rB true) := by
  obtain ⟨h1, h2, h3, h4, ⟨h5, h6, h7⟩ | ⟨h5, h6, h7⟩⟩ := h
  · exact CallD_d1 (FmA_1 h1 h2 h3 h5 h6 h7) (fm1 h4)
  · exact CallD_d1 (FmA_3 h1 h2 h3 h5) (fm3 h6 h7 h4)
theorem ctA_ok {s : ShD} (h : FmA s) : Dyn.CallD Try.prog 21 [dvD s] (rI 1) := by
  obtain ⟨h1, h2, h3, h4, ⟨h5, h6, h7⟩ | ⟨h5, h6, h7⟩⟩ := h
  · exact CallD_d1 (FmA_1 h1 h2 h3 h5 h6 h7) (ctA1 _)
  · exact CallD_d1 (FmA_3 h1 h2 h3 h5) (ctA3 _ _ _)
/-- an entry for a shape as it is written -/
def enS1 (K : Nat) (f : ShD → List Dyn.DV → Option (Dyn.RV × List Prop)) : Dyn.EntryD := (K, fun args => match args with
  | .agg l :: t => match unD l with
    | some s => f s t
    | none => none
  | _ => none)
theorem enS1_ok {P : Program} {K : Nat} {f : ShD → List Dyn.DV → Option (Dyn.RV × List Prop)} (h : ∀ s t r ps, f s t = some (r, ps) → allP ps → Dyn.CallD P K (dvD s :: t) r) : Dyn.EntryDOk P (enS1 K f) := fun args r ps h1 hp => by
  unfold enS1 at h1
  dsimp only at h1
  split at h1
  · rename_i l t
    split at h1
    · rename_i s hs
      rw [unD_eq hs]
      exact h s t r ps h1 hp
    · cases h1
  · cases h1
def isI8 : List Dyn.DV → Bool
  | [.one (.p (.int .i64 n))] => n == 8
  | _ => false
def enFm : Dyn.EntryD := enS1 20 fun s t => some (rB true, [FmA s, t = [dvI 8]])
theorem enFm_ok : Dyn.EntryDOk Try.prog enFm := enS1_ok fun s t r ps h hp => by
  simp only [Option.some.injEq, Prod.mk.injEq] at h
  obtain ⟨rfl, rfl⟩ := h
  rw [hp.2.1]
  exact fmA_ok hp.1
def enCt : Dyn.EntryD := enS1 21 fun s t => some (rI 1, [FmA s, t = []])
theorem enCt_ok : Dyn.EntryDOk Try.prog enCt := enS1_ok fun s t r ps h hp => by
  simp only [Option.some.injEq, Prod.mk.injEq] at h
  obtain ⟨rfl, rfl⟩ := h
  rw [hp.2.1]
  exact ctA_ok hp.1
noncomputable def tabU1 : Dyn.Tabs := Dyn.tabs tbU [enFm, enCt] noD dtyS
theorem tabU1_ok : Dyn.TabsOk Try.prog tabU1 := Dyn.tabs_ok tbU_ok (List.forall_mem_cons.2 ⟨enFm_ok, List.forall_mem_cons.2 ⟨enCt_ok, fun _ h => by cases h⟩⟩)
theorem okA_ok {s : ShD} (h : FmA s) : Dyn.CallD Try.prog 14 [dvD s] (rB true) :=
  Dyn.dcontractV (lp := Dyn.noLp) (fuel := 3) tabU1_ok mo Try.func14 (by kernel_rfl) (c := bodyD Try.f14.body) (by kernel_rfl) (fun w0 => Dyn.noLp_ok _ w0) (by kernel_rfl) (by kernel_rfl) (show _ = [FmA s, [dvI 8] = [dvI 8], some true = some true ∧ True → allP [FmA s, ([] : List Dyn.DV) = []]] by kernel_rfl) ⟨h, rfl, fun _ => ⟨h, rfl, trivial⟩, trivial⟩
def enPt : Dyn.EntryD := (22, fun args => match args with
  | [.agg [.p (.int .i64 x), .p (.int .i64 y)], v] => some (.val (dvP (rotP ⟨x, y⟩)), [v = dvQ])
  | _ => none)
theorem enPt_ok : Dyn.EntryDOk Try.prog enPt := fun args r ps h hp => by
  unfold enPt at h
  dsimp only at h
  split at h
  · simp only [Option.some.injEq, Prod.mk.injEq] at h
    obtain ⟨rfl, rfl⟩ := h
    rw [hp.1]
    exact rpt_ok ⟨_, _⟩
  · cases h
noncomputable def tabU2 : Dyn.Tabs := Dyn.tabs tbU [enPt] noD dtyS
theorem tabU2_ok : Dyn.TabsOk Try.prog tabU2 := Dyn.tabs_ok tbU_ok (List.forall_mem_cons.2 ⟨enPt_ok, fun _ h => by cases h⟩)
theorem tn1 (r : Int) : Dyn.CallD Try.prog 15 [dvD (D1 r), dvQ] (.val (dvD (D1 r))) :=
  dcontractC (lp := Dyn.noLp) (fuel := 3) tabU2_ok mo Try.func15 (by kernel_rfl) (c := bodyD Try.f15.body) (by kernel_rfl) (fun w0 => Dyn.noLp_ok _ w0) (.tt (.ff .lf)) (.side [dvQ = dvQ] (.leaf (.val (dvD (D1 r))))) rfl (by kernel_rfl) ⟨⟨rfl, trivial⟩, leafR rfl⟩
theorem tn3 (a b : P2) (r : Int) : Dyn.CallD Try.prog 15 [dvD (D3 a b r), dvQ] (.val (dvD (D3 (rotP a) (rotP b) r))) :=
  dcontractC (lp := Dyn.noLp) (fuel := 3) tabU2_ok mo Try.func15 (by kernel_rfl) (c := bodyD Try.f15.body) (by kernel_rfl) (fun w0 => Dyn.noLp_ok _ w0) (.ff (.tt (.ff (.ff .lf)))) (.side [dvQ = dvQ, dvQ = dvQ] (.leaf (.val (dvD (D3 (rotP a) (rotP b) r))))) rfl (by kernel_rfl) ⟨⟨rfl, rfl, trivial⟩, leafR rfl⟩
theorem tn_ok {s : ShD} (h : FmA s) : Dyn.CallD Try.prog 15 [dvD s, dvQ] (.val (dvD (rotA s))) := by
  obtain ⟨h1, h2, h3, h4, ⟨h5, h6, h7⟩ | ⟨h5, h6, h7⟩⟩ := h
  · have e : rotA s = D1 s.r := by unfold rotA; rw [h5]; rfl
    rw [e]; exact CallD_d1 (FmA_1 h1 h2 h3 h5 h6 h7) (tn1 _)
  · have e : rotA s = D3 (rotP s.a) (rotP s.b) s.r := by unfold rotA; rw [h5]; rfl
    rw [e]; exact CallD_d1 (FmA_3 h1 h2 h3 h5) (tn3 _ _ _)
def enOkU : Dyn.EntryD := enS1 14 fun s t => some (rB true, [FmA s, t = []])
theorem enOkU_ok : Dyn.EntryDOk Try.prog enOkU := enS1_ok fun s t r ps h hp => by
  simp only [Option.some.injEq, Prod.mk.injEq] at h
  obtain ⟨rfl, rfl⟩ := h
  rw [hp.2.1]
  exact okA_ok hp.1
def enTn : Dyn.EntryD := enS1 15 fun s t => some (.val (dvD (rotA s)), [FmA s, t = [dvQ]])
theorem enTn_ok : Dyn.EntryDOk Try.prog enTn := enS1_ok fun s t r ps h hp => by
  simp only [Option.some.injEq, Prod.mk.injEq] at h
  obtain ⟨rfl, rfl⟩ := h
  rw [hp.2.1]
  exact tn_ok hp.1
def drTn (K : Nat) : Bool := Nat.beq K 15
noncomputable def tabU3 : Dyn.Tabs := Dyn.tabs tbU [enOkU, enTn] drTn dtyS
theorem tabU3_ok : Dyn.TabsOk Try.prog tabU3 := Dyn.tabs_ok tbU_ok (List.forall_mem_cons.2 ⟨enOkU_ok, List.forall_mem_cons.2 ⟨enTn_ok, fun _ h => by cases h⟩⟩)
def apR (s : ShD) : Dyn.RV := .tup [dvD (rotA s), .one (.p (vb true))]
def dvQ2 : Dyn.DV := .agg [cB false, cB false, cI 1, cI (imin (imax 0 (-2147483648)) 2147483648), cI (imin (imax 0 (-2147483648)) 2147483648)]
theorem apU_ok {s : ShD} (h : FmA s) (h2 : FmA (rotA s)) : Dyn.CallD Try.prog 7 [dvD s, dvQ] (apR s) :=
  dcontractC (lp := Dyn.noLp) (fuel := 3) tabU3_ok mo Try.func7 (by kernel_rfl) (c := bodyD Try.f7.body) (by kernel_rfl) (fun w0 => Dyn.noLp_ok _ w0) (.ff (.ff .lf)) (.side [FmA s, ([] : List Dyn.DV) = []] (.side [FmA s, [dvQ2] = [dvQ]] (.side [FmA (rotA s), ([] : List Dyn.DV) = []] (.leaf (apR s))))) rfl (by kernel_rfl) ⟨⟨h, rfl, trivial⟩, ⟨h, by kernel_rfl, trivial⟩, ⟨h2, rfl, trivial⟩, leafR rfl⟩
def enAp : Dyn.EntryD := enS1 7 fun s t => some (apR s, [FmA s ∧ FmA (rotA s), t = [dvQ]])
theorem enAp_ok : Dyn.EntryDOk Try.prog enAp := enS1_ok fun s t r ps h hp => by
  simp only [Option.some.injEq, Prod.mk.injEq] at h
  obtain ⟨rfl, rfl⟩ := h
  rw [hp.2.1]
  exact apU_ok hp.1.1 hp.1.2
/-! ### Same -/
theorem CallD_d2 {P : Program} {K : Nat} {v v' w w' : Dyn.DV} {l : List Dyn.DV} {r : Dyn.RV} (h : DVd v v') (h2 : DVd w w') (k : Dyn.CallD P K (v' :: w' :: l) r) : Dyn.CallD P K (v :: w :: l) r := fun ww F us hF hd => k ww F us hF (by
  cases us with
  | nil => exact hd
  | cons u us => exact (by
    cases us with
    | nil => exact ⟨DVd.den h hd.1, hd.2⟩
    | cons u2 us => exact ⟨DVd.den h hd.1, DVd.den h2 hd.2.1, hd.2.2⟩))
noncomputable def samA (s s' : ShD) : Bool := sameE (toSh (shpA s)) (toSh (shpA s'))
theorem ShB_W : ∀ {s : Shp}, ShB s → ShW s := by
  intro s
  induction s with
  | nil => exact fun h => h
  | mk k a b c r l n add sub ih => exact fun h i hi => ih i (h.2.2 i hi)
noncomputable def enSm : Dyn.EntryD := enS1 5 fun s t => match t with
  | [.agg l] => match unD l with
    | some s' => some (rB (samA s s'), [OkA s, OkA s'])
    | none => none
  | _ => none
theorem enSm_ok : Dyn.EntryDOk Try.prog enSm := enS1_ok fun s t r ps h hp => by
  split at h
  · rename_i l
    split at h
    · rename_i s' hs
      simp only [Option.some.injEq, Prod.mk.injEq] at h
      obtain ⟨rfl, rfl⟩ := h
      rw [unD_eq hs]
      exact CallD_d2 hp.1.1 hp.2.1.1 (same_all _ (PdS_mk hp.1.2) _ (PdW_mk (ShB_W hp.2.1.2)))
    · cases h
  · cases h
end Go.Proofs.Ytcbbjfaoijfdiaa

/-! ## Aut -/
namespace Go.Proofs.Ytcbbjfaoijfdiaa
open Go Go.RowKit Sym
set_option maxRecDepth 100000

def drUn (K : Nat) : Bool := Nat.beq K 4 || Nat.beq K 7
noncomputable def tabUn : Dyn.Tabs := Dyn.tabs tbF [enMk, enSm, enAp, (6, en0R (rB true))] drUn dtyS
theorem tabUn_ok : Dyn.TabsOk Try.prog tabUn := Dyn.tabs_ok tbF_ok (List.forall_mem_cons.2 ⟨enMk_ok, List.forall_mem_cons.2 ⟨enSm_ok, List.forall_mem_cons.2 ⟨enAp_ok, List.forall_mem_cons.2 ⟨en0R_ok awake17, fun _ h => by cases h⟩⟩⟩⟩)
def unE (which : Int) : Int := (band which 255).tmod 3
def unW (w : Int) : Int := W (band w 1023 + 1)
def unH (h : Int) : Int := band h 1023
def unN (e : Int) : ByteArray := bif Nat.beq e.toNat 0 then sC else bif Nat.beq e.toNat 1 then sR else sO
noncomputable def unB1 (X Y : ApR) : Bool := bif bif X.e != 0 then true else Y.e != 0 then true else X.R != Y.R
noncomputable def unB2 (t z : ShD) : Bool := bif bif bif bif t.k == 3 then eqP t.a z.b else false then eqP t.b z.a else false then t.r == z.r else false then z.k == t.k else false
noncomputable def unB3 (x : ShD) (Z : ApR) : Bool := bif bif bif Z.e == 0 then true else false then bif samA (rotA x) Z.s then true else unB2 (rotA x) Z.s else false then true else false
noncomputable def unT (nm : ByteArray) (w h hole : Int) (n : Nat) (f g : Nat → List Dyn.DC) (X Y Z : ApR) : Dyn.RO :=
  .side [Good nm n, IsN n f] (.side [Good nm n, IsN n g] (.side [some (unB1 X Y) = some false ∧ True → allP [OkA X.s, OkA Y.s]] (.ite (bif unB1 X Y then true else !(samA X.s Y.s)) (.leaf (rB false))
    (.ite (bif !(nm.toList == sO.toList) then true else decide (hole > 0)) (.leaf (rB true))
      (.side [Good sO 2, IsN 2 (rwN [W (1000 * h), W (1000 * w)])] (.side [FmA X.s ∧ FmA (rotA X.s), [dvQ] = [dvQ]] (.side [some (bif Z.e == 0 then true else false) = some true ∧ True → allP [OkA (rotA X.s), OkA Z.s]] (.leaf (rB (unB3 X.s Z))))))))))
noncomputable def unZ (w h : Int) : ApR := makeM sO 2 (iF (rwN [W (1000 * h), W (1000 * w)])) 2
def un2 (k w hole : Int) : Nat → List Dyn.DC := rwN [W (k * w), W (k * hole)]
def un3 (k w h hole : Int) : Nat → List Dyn.DC := rwN [W (k * w), W (k * h), W (k * hole)]
noncomputable def unO (nm : ByteArray) (w h hole : Int) : Dyn.RO :=
  .ite (nm.toList == sC.toList) (unT nm w h hole 2 (un2 1000 w hole) (un2 25400 w hole) (makeM nm 2 (iF (un2 1000 w hole)) 2) (makeM nm 2 (iF (un2 25400 w hole)) 1) (unZ w h))
    (unT nm w h hole 3 (un3 1000 w h hole) (un3 25400 w h hole) (makeM nm 3 (iF (un3 1000 w h hole)) 2) (makeM nm 3 (iF (un3 25400 w h hole)) 1) (unZ w h))
theorem un_O (which w h hole : Int) : (Dyn.dfun Try.prog tabUn Dyn.noLp 3 Try.f3 [dvI which, dvI w, dvI h, dvI hole]).ro Try.prog Try.f3.results =
  .side [0 ≤ unE which ∧ unE which < ((3 : Nat) : Int)] (unO (unN (unE which)) (unW w) (unW h) (unH hole)) := by kernel_rfl
end Go.Proofs.Ytcbbjfaoijfdiaa

/-! ## Auu -/
namespace Go.Proofs.Ytcbbjfaoijfdiaa
open Go Go.RowKit Sym
set_option maxRecDepth 100000

structure Gr (x U v : Int) : Prop where
  gb : gB x U = true
  gv : gV x U = 254000 * v
  lo : 0 ≤ v
  hi : v ≤ 1024
theorem gr_of {x U v k : Int} (hx : x = k * v) (hp : gPer U * k = 254000) (hk : 1 ≤ k ∧ k ≤ 25400) (hg : 1 ≤ gPer U ∧ gPer U ≤ 254) (h0 : 0 ≤ v) (h1 : v ≤ 1024) : Gr x U v := by
  have e : x * gPer U = 254000 * v := by rw [hx, ← hp]; grind
  have bx : 0 ≤ x ∧ x ≤ 26009600 := by
    rw [hx]
    exact ⟨Int.mul_nonneg (by omega) h0, by have := Int.mul_le_mul hk.2 h1 h0 (by omega); omega⟩
  have hn : gNo x U = false := by
    unfold gNo
    rw [dOk_in (by omega) (by omega), show (gPer U == 0) = false from beq_eq_false_iff_ne.2 (by omega)]; rfl
  have hf : gFar x U = false := by
    unfold gFar
    rw [e, W_id (by omega) (by omega), decide_eq_false (by omega), decide_eq_false (by omega)]; rfl
  refine ⟨?_, ?_, h0, h1⟩
  · unfold gB; rw [hn, hf]; rfl
  · unfold gV; rw [hn, hf, e, W_id (by omega) (by omega)]; rfl
theorem gr_inch {v : Int} (h0 : 0 ≤ v) (h1 : v ≤ 1024) : Gr (W (1000 * v)) 2 v := gr_of (k := 1000) (W_id (by omega) (by omega)) (by decide) (by decide) (by decide) h0 h1
theorem gr_mm {v : Int} (h0 : 0 ≤ v) (h1 : v ≤ 1024) : Gr (W (25400 * v)) 1 v := gr_of (k := 25400) (W_id (by omega) (by omega)) (by decide) (by decide) (by decide) h0 h1
theorem Gr.c3 {x U v : Int} (g : Gr x U v) : c3F x U = false := by
  unfold c3F
  rw [g.gv]
  have : (254000 * v).tmod 2 = 0 := Int.tmod_eq_zero_of_dvd ⟨127000 * v, by omega⟩
  rw [this]; rfl
theorem Gr.pass {x U v : Int} (g : Gr x U v) (sd i : Int) (K : ApR) (h : 1 ≤ v ∨ (sd == 2) = false ∨ decide (i < sd) = false) : mkG sd i x U K = K := by
  have c : c2F sd i x U = false := by
    unfold c2F
    have := g.lo
    rw [g.gv, decide_eq_false (by omega)]
    rcases h with h | h | h
    · rw [show (254000 * v == 0) = false from beq_eq_false_iff_ne.2 (by omega)]; rfl
    · rw [h]; cases (254000 * v == 0) <;> simp
    · rw [h]; cases (254000 * v == 0) <;> simp
  unfold mkG
  rw [g.gb, c, g.c3]; rfl
theorem Gr.hf {x U v : Int} (g : Gr x U v) : hF x U = 127000 * v := by
  have := g.lo
  have := g.hi
  unfold hF
  rw [g.gv, Int.tdiv_eq_ediv_of_nonneg (by omega), show 254000 * v / 2 = 127000 * v by omega, W_id (by omega) (by omega)]
theorem un_C {x y U w o : Int} (gx : Gr x U w) (gy : Gr y U o) (hw : 1 ≤ w) : makeM sC 2 (iF (rwN [x, y])) U = ⟨hol (circD (127000 * w)) (127000 * o), bif 127000 * o == 0 then 127000 * w else 0, 0⟩ := by
  refine Eq.trans (b := mkG 1 0 x U (mkG 1 1 y U ⟨hol (circD (hF x U)) (hF y U), bif hF y U == 0 then hF x U else 0, 0⟩)) rfl ?_
  rw [gx.pass 1 0 _ (.inl hw), gy.pass 1 1 _ (.inr (.inl rfl)), gx.hf, gy.hf]
theorem un_3 {x y z U w h o : Int} (gx : Gr x U w) (gy : Gr y U h) (gz : Gr z U o) (hw : 1 ≤ w) (hh : 1 ≤ h) (g : Int → Int → ShD) : m3 g (iF (rwN [x, y, z])) U = ⟨hol (g (127000 * w) (127000 * h)) (127000 * o), 0, 0⟩ := by
  refine Eq.trans (b := mkG 2 0 x U (mkG 2 1 y U (mkG 2 2 z U ⟨hol (g (hF x U) (hF y U)) (hF z U), 0, 0⟩))) rfl ?_
  rw [gx.pass 2 0 _ (.inl hw), gy.pass 2 1 _ (.inl hh), gz.pass 2 2 _ (.inr (.inr rfl)), gx.hf, gy.hf, gz.hf]
theorem un_2 {x y U w h : Int} (gx : Gr x U w) (gy : Gr y U h) (hw : 1 ≤ w) (hh : 1 ≤ h) (g : Int → Int → ShD) : m2 g (iF (rwN [x, y])) U = ⟨g (127000 * w) (127000 * h), 0, 0⟩ := by
  refine Eq.trans (b := mkG 2 0 x U (mkG 2 1 y U ⟨g (hF x U) (hF y U), 0, 0⟩)) rfl ?_
  rw [gx.pass 2 0 _ (.inl hw), gy.pass 2 1 _ (.inl hh), gx.hf, gy.hf]
theorem sam_refl {s : ShD} (h : OkA s) : samA s s = true := by
  unfold samA sameE
  rw [ofSh_toSh]
  exact same_refl _ h.2
theorem hol_ok {s : ShD} (h : LfA s) (r : Int) : OkA (hol s r) := by
  unfold hol
  cases decide (r > 0)
  · exact h.ok
  · exact hole_ok h r
theorem wdR_in {r : Int} (h : 1 ≤ r ∧ r ≤ 536870912) : wdR r = true := by
  unfold wdR
  rw [decide_eq_true (show r ≥ 1 by omega), decide_eq_true (show r ≤ 536870912 by omega)]; rfl
theorem D1_lf (r : Int) : LfA (D1 r) := ⟨rfl, row0, CtrB_zA⟩
theorem D3_lf (a b : P2) (r : Int) : LfA (D3 a b r) := ⟨rfl, row0, CtrB_zA⟩
theorem D1_fm {r : Int} (h : 1 ≤ r ∧ r ≤ 536870912) : FmA (D1 r) := ⟨rfl, rfl, rfl, wdR_in h, .inl ⟨rfl, rfl, rfl⟩⟩
theorem D3_fm {a b : P2} {r : Int} (h : 1 ≤ r ∧ r ≤ 536870912) (ha : nearF a = true) (hb : nearF b = true) : FmA (D3 a b r) := ⟨rfl, rfl, rfl, wdR_in h, .inr ⟨rfl, ha, hb⟩⟩
theorem rot_in {x y : Int} (h : -536870912 ≤ x ∧ x ≤ 536870912 ∧ -536870912 ≤ y ∧ y ≤ 536870912) : rotP ⟨x, y⟩ = ⟨-y, x⟩ := by
  unfold rotP
  dsimp only
  rw [W_id (x := 0 - y) (by omega) (by omega), W_id (by omega) (by omega), W_id (by omega) (by omega)]
  congr 1 <;> omega
/-- an obround, turned by a quarter, is the one with exchanged sides, or that one from its other end -/
theorem obr_turn {a b : Int} (ha : 1 ≤ a ∧ a ≤ 266338304) (hb : 1 ≤ b ∧ b ≤ 266338304) : FmA (obrD a b) ∧ FmA (rotA (obrD a b)) ∧ OkA (rotA (obrD a b)) ∧ (bif samA (rotA (obrD a b)) (obrD b a) then true else unB2 (rotA (obrD a b)) (obrD b a)) = true := by
  have e1 : ∀ {p q : Int}, 1 ≤ q → p ≤ 266338304 → p > q → obrD p q = D3 ⟨-(p - q), 0⟩ ⟨p - q, 0⟩ q := fun {p q} h1 h2 c => by
    unfold obrD D3
    rw [decide_eq_true c, W_id (x := q - p) (by omega) (by omega), W_id (x := p - q) (by omega) (by omega), show q - p = -(p - q) by omega]; rfl
  have e2 : ∀ {p q : Int}, 1 ≤ p → q ≤ 266338304 → q > p → obrD p q = D3 ⟨0, -(q - p)⟩ ⟨0, q - p⟩ p := fun {p q} h1 h2 c => by
    unfold obrD D3
    rw [decide_eq_true c, decide_eq_false (show ¬ p > q by omega), W_id (x := q - p) (by omega) (by omega), W_id (x := p - q) (by omega) (by omega), show p - q = -(q - p) by omega]; rfl
  by_cases c1 : a > b
  · rw [e1 hb.1 ha.2 c1, e2 hb.1 ha.2 c1]
    have r : rotA (D3 ⟨-(a - b), 0⟩ ⟨a - b, 0⟩ b) = D3 ⟨0, -(a - b)⟩ ⟨0, a - b⟩ b := by
      show D3 (rotP ⟨-(a - b), 0⟩) (rotP ⟨a - b, 0⟩) b = _
      rw [rot_in (by omega), rot_in (by omega)]; rfl
    rw [r]
    refine ⟨D3_fm (by omega) (near_in (by omega)) (near_in (by omega)), D3_fm (by omega) (near_in (by omega)) (near_in (by omega)), (D3_lf _ _ _).ok, ?_⟩
    rw [sam_refl (D3_lf _ _ _).ok]; rfl
  · by_cases c2 : b > a
    · rw [e2 ha.1 hb.2 c2, e1 ha.1 hb.2 c2]
      have r : rotA (D3 ⟨0, -(b - a)⟩ ⟨0, b - a⟩ a) = D3 ⟨b - a, 0⟩ ⟨-(b - a), 0⟩ a := by
        show D3 (rotP ⟨0, -(b - a)⟩) (rotP ⟨0, b - a⟩) a = _
        rw [rot_in (by omega), rot_in (by omega)]
        congr 2 <;> omega
      rw [r]
      refine ⟨D3_fm (by omega) (near_in (by omega)) (near_in (by omega)), D3_fm (by omega) (near_in (by omega)) (near_in (by omega)), (D3_lf _ _ _).ok, ?_⟩
      have : unB2 (D3 ⟨b - a, 0⟩ ⟨-(b - a), 0⟩ a) (D3 ⟨-(b - a), 0⟩ ⟨b - a, 0⟩ a) = true := by
        show (bif bif bif bif ((3 : Int) == 3) then eqP ⟨b - a, 0⟩ ⟨b - a, 0⟩ else false then eqP ⟨-(b - a), 0⟩ ⟨-(b - a), 0⟩ else false then a == a else false then ((3 : Int) == 3) else false) = true
        rw [show ∀ p : P2, eqP p p = true from fun p => eqP_iff.2 rfl, show ∀ p : P2, eqP p p = true from fun p => eqP_iff.2 rfl]
        simp
      rw [this]
      cases samA (D3 ⟨b - a, 0⟩ ⟨-(b - a), 0⟩ a) (D3 ⟨-(b - a), 0⟩ ⟨b - a, 0⟩ a) <;> rfl
    · obtain rfl : a = b := by omega
      have e : obrD a a = D1 a := by
        unfold obrD
        rw [decide_eq_false c1]; rfl
      rw [e]
      have r : rotA (D1 a) = D1 a := rfl
      rw [r]
      refine ⟨D1_fm (by omega), D1_fm (by omega), (D1_lf _).ok, ?_⟩
      rw [sam_refl (D1_lf _).ok]; rfl
theorem unT_sat {nm : ByteArray} {w h hole : Int} {n : Nat} {f g : Nat → List Dyn.DC} {S : ShD} {R : Int} {Z : ApR} (gd : Good nm n) (f1 : IsN n f) (g1 : IsN n g) (z1 : IsN 2 (rwN [W (1000 * h), W (1000 * w)])) (ok : OkA S)
    (k : nm = sO → hole ≤ 0 → FmA S ∧ FmA (rotA S) ∧ OkA (rotA S) ∧ OkA Z.s ∧ unB3 S Z = true) : (unT nm w h hole n f g ⟨S, R, 0⟩ ⟨S, R, 0⟩ Z).sat fun r => Dyn.RVLe r (rB true) := by
  have b1 : unB1 ⟨S, R, 0⟩ ⟨S, R, 0⟩ = false := by unfold unB1; simp
  unfold unT
  rw [b1, sam_refl ok]
  refine ⟨⟨gd, f1, trivial⟩, ⟨gd, g1, trivial⟩, ⟨fun _ => ⟨ok, ok, trivial⟩, trivial⟩, fun h => (by cases h), fun _ => ⟨fun _ => leafR rfl, fun hn => ?_⟩⟩
  have hnm : nm = sO := by
    rcases gd.1 with rfl | rfl | rfl | rfl | rfl | rfl
    · exact absurd hn (by rw [show (sC.toList == sO.toList) = false from by decide +kernel]; exact fun k => (by cases k))
    · exact absurd hn (by rw [show (sR.toList == sO.toList) = false from by decide +kernel]; exact fun k => (by cases k))
    · rfl
    · exact absurd hn (by rw [show ((⟨#[99]⟩ : ByteArray).toList == sO.toList) = false from by decide +kernel]; exact fun k => (by cases k))
    · exact absurd hn (by rw [show ((⟨#[88]⟩ : ByteArray).toList == sO.toList) = false from by decide +kernel]; exact fun k => (by cases k))
    · exact absurd hn (by rw [show ((⟨#[]⟩ : ByteArray).toList == sO.toList) = false from by decide +kernel]; exact fun k => (by cases k))
  have hh : hole ≤ 0 := by
    by_cases c : hole > 0
    · rw [decide_eq_true c] at hn
      revert hn
      cases (!(nm.toList == sO.toList)) <;> intro hn <;> cases hn
    · omega
  obtain ⟨k1, k2, k3, k4, k5⟩ := k hnm hh
  refine ⟨⟨⟨.inr (.inr (.inl rfl)), by decide⟩, z1, trivial⟩, ⟨⟨k1, k2⟩, rfl, trivial⟩, ⟨fun _ => ⟨k3, k4, trivial⟩, trivial⟩, leafR (by rw [k5])⟩
theorem unE_cases (x : Int) : unE x = 0 ∨ unE x = 1 ∨ unE x = 2 := by
  have h := band_le x 255 (by decide)
  have e : ((255 : Nat) : Int) = 255 := rfl
  rw [e] at h
  unfold unE
  rw [Int.tmod_eq_emod_of_nonneg h.1]
  omega
theorem unW_bd (x : Int) : 1 ≤ unW x ∧ unW x ≤ 1024 := by
  have h := band_le x 1023 (by decide)
  have e : ((1023 : Nat) : Int) = 1023 := rfl
  rw [e] at h
  unfold unW
  rw [W_id (by omega) (by omega)]
  omega
theorem unH_bd (x : Int) : 0 ≤ unH x ∧ unH x ≤ 1023 := by
  have h := band_le x 1023 (by decide)
  have e : ((1023 : Nat) : Int) = 1023 := rfl
  rw [e] at h
  exact h
theorem un_i2 (x y : Int) : IsN 2 (rwN [x, y]) := fun i hi => match i, hi with
  | 0, _ => rfl
  | 1, _ => rfl
theorem un_i3 (x y z : Int) : IsN 3 (rwN [x, y, z]) := fun i hi => match i, hi with
  | 0, _ => rfl
  | 1, _ => rfl
  | 2, _ => rfl
theorem unO_sat {e w h o : Int} (he : e = 0 ∨ e = 1 ∨ e = 2) (hw : 1 ≤ w ∧ w ≤ 1024) (hh : 1 ≤ h ∧ h ≤ 1024) (ho : 0 ≤ o ∧ o ≤ 1023) : (unO (unN e) w h o).sat fun r => Dyn.RVLe r (rB true) := by
  have iw := gr_inch (v := w) (by omega) hw.2
  have ih := gr_inch (v := h) (by omega) hh.2
  have io := gr_inch (v := o) ho.1 (by omega)
  have mw := gr_mm (v := w) (by omega) hw.2
  have mh := gr_mm (v := h) (by omega) hh.2
  have mo := gr_mm (v := o) ho.1 (by omega)
  rcases he with rfl | rfl | rfl
  · show (unO sC w h o).sat _
    refine ⟨fun _ => ?_, fun k => absurd k (by decide +kernel)⟩
    unfold un2
    rw [un_C iw io hw.1, un_C mw mo hw.1]
    exact unT_sat ⟨.inl rfl, by decide⟩ (un_i2 _ _) (un_i2 _ _) (un_i2 _ _) (hol_ok (circ_lf _) _) (fun k => absurd k (by decide +kernel))
  · show (unO sR w h o).sat _
    refine ⟨fun k => absurd k (by decide +kernel), fun _ => ?_⟩
    unfold un3
    have X : makeM sR 3 (iF (rwN [W (1000 * w), W (1000 * h), W (1000 * o)])) 2 = _ := un_3 iw ih io hw.1 hh.1 rectD
    have Y : makeM sR 3 (iF (rwN [W (25400 * w), W (25400 * h), W (25400 * o)])) 1 = _ := un_3 mw mh mo hw.1 hh.1 rectD
    rw [X, Y]
    exact unT_sat ⟨.inr (.inl rfl), by decide⟩ (un_i3 _ _ _) (un_i3 _ _ _) (un_i2 _ _) (hol_ok (rect_lf _ _) _) (fun k => absurd k (by decide +kernel))
  · show (unO sO w h o).sat _
    refine ⟨fun k => absurd k (by decide +kernel), fun _ => ?_⟩
    unfold un3
    have X : makeM sO 3 (iF (rwN [W (1000 * w), W (1000 * h), W (1000 * o)])) 2 = _ := un_3 iw ih io hw.1 hh.1 obrD
    have Y : makeM sO 3 (iF (rwN [W (25400 * w), W (25400 * h), W (25400 * o)])) 1 = _ := un_3 mw mh mo hw.1 hh.1 obrD
    have Z : unZ w h = _ := un_2 ih iw hh.1 hw.1 obrD
    rw [X, Y, Z]
    refine unT_sat ⟨.inr (.inr (.inl rfl)), by decide⟩ (un_i3 _ _ _) (un_i3 _ _ _) (un_i2 _ _) (hol_ok (obr_lf _ _) _) (fun _ k => ?_)
    have e : hol (obrD (127000 * w) (127000 * h)) (127000 * o) = obrD (127000 * w) (127000 * h) := by
      unfold hol
      rw [decide_eq_false (by omega)]; rfl
    rw [e]
    obtain ⟨t1, t2, t3, t4⟩ := obr_turn (a := 127000 * w) (b := 127000 * h) (by omega) (by omega)
    refine ⟨t1, t2, t3, (obr_lf _ _).ok, ?_⟩
    unfold unB3
    dsimp only
    rw [t4]; rfl
theorem aperUnits_ok (which w h hole : Int) : Dyn.CallD Try.prog 3 [dvI which, dvI w, dvI h, dvI hole] (rB true) :=
  Dyn.dcontract (lp := Dyn.noLp) (fuel := 3) tabUn_ok mo Try.func3 (by kernel_rfl) (c := bodyD Try.f3.body) (by kernel_rfl) (fun w0 => Dyn.noLp_ok _ w0) (by kernel_rfl) (un_O which w h hole)
    ⟨⟨by rcases unE_cases which with e | e | e <;> rw [e] <;> decide, trivial⟩, unO_sat (unE_cases which) (unW_bd w) (unW_bd h) (unH_bd hole)⟩
end Go.Proofs.Ytcbbjfaoijfdiaa
