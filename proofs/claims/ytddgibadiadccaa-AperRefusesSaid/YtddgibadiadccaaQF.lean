/-
  OWN WORK. Joined by merge.py: Sha Ctt Apa Apb Apc Apd Ape Apf Apg.
-/
import Derived.Test.YtddgibadiadccaaQE
/-! ## Sha -/
namespace Go.Proofs.Ytddgibadiadccaa
open Go Go.RowKit Sym
set_option maxRecDepth 100000

/-! ### names that are found in cells -/
def nmCell (s : Dyn.St) (m j : Nat) : Nat := match s.heap.getD m none with
  | some (.cells _ cs) => nmOf (.v (cs.getD j (.bool false)))
  | _ => 0
def nmCells (s : Dyn.St) : List (Nat × Nat) → List Nat
  | [] => []
  | (m, j) :: l => nmCell s m j :: nmCells s l
/-- names σ, then those that the slots hs name, then those that the cells cl name; slots ks of n -/
def keepC (n : Nat) (σ hs : List Nat) (cl : List (Nat × Nat)) (ks : List Nat) (v : Nat) (s : Dyn.St) : Dyn.St :=
  match nodupB (σ ++ nmsOf s hs ++ nmCells s cl) with
  | true => Dyn.relabel (σ ++ nmsOf s hs ++ nmCells s cl) ((2 ^ n - 1) ^^^ maskOf ks) v s
  | false => s
theorem keepC_ent {P : Program} {w0 : Dyn.Base P} (n : Nat) (σ hs : List Nat) (cl : List (Nat × Nat)) (ks : List Nat) (v : Nat) (s : Dyn.St) : Dyn.Ent w0 s (keepC n σ hs cl ks v s) := by
  unfold keepC
  split
  · rename_i h; exact Dyn.Ent.label (nodupB_ok h) _ v s
  · exact Dyn.Ent.refl w0 s
def keepCR (n : Nat) (σ hs : List Nat) (cl : List (Nat × Nat)) (ks σr r : List Nat) : AExit → Dyn.St → Dyn.St
  | .ret, s => keepA n σr [] r 0 s
  | _, s => keepC n σ hs cl ks 0 s
theorem keepCR_ent {P : Program} {w0 : Dyn.Base P} (n : Nat) (σ hs : List Nat) (cl : List (Nat × Nat)) (ks σr r : List Nat) (e : AExit) (s : Dyn.St) : Dyn.Ent w0 s (keepCR n σ hs cl ks σr r e s) := by
  cases e
  · exact keepC_ent n σ hs cl ks 0 s
  · exact keepC_ent n σ hs cl ks 0 s
  · exact keepA_ent n σr [] r 0 s
/-! ### turns -/
structure Tn where
  mx : Bool
  my : Bool
  q : Int
  u : P2
abbrev tn (t : Tn) : Value := .agg ⟨[vb t.mx, vb t.my, vi t.q, vi t.u.x, vi t.u.y]⟩
def dT : Value → Option Tn | .agg ⟨[.bool a, .bool b, .int .i64 q, .int .i64 x, .int .i64 y]⟩ => some ⟨a, b, q, ⟨x, y⟩⟩ | _ => none
theorem dT_eq {v : Value} {x : Tn} (h : dT v = some x) : v = tn x := by
  unfold dT at h; split at h
  · simp only [Option.some.injEq] at h; subst h; rfl
  · cases h
def cT (t : Tn) : List Dyn.DC := [cB t.mx, cB t.my, cI t.q, cI t.u.x, cI t.u.y]
def dvT (t : Tn) : Dyn.DV := .agg (cT t)
def aT : Dyn.DV → Option Tn
  | .agg [.p (.bool a), .p (.bool b), .p (.int .i64 q), .p (.int .i64 x), .p (.int .i64 y)] => some ⟨a, b, q, ⟨x, y⟩⟩
  | _ => none
theorem aT_eq {d : Dyn.DV} {x : Tn} (h : aT d = some x) : Dyn.DVLe d (dvT x) := by
  unfold aT at h; split at h
  · simp only [Option.some.injEq] at h; subst h; exact Dyn.DVLe.refl _
  · cases h
def quF (q : Int) : Int := band q 3
def turnPtF (p : P2) (t : Tn) : P2 :=
  let x := bif t.mx then W (0 - p.x) else p.x
  let y := bif t.my then W (0 - p.y) else p.y
  let k := quF t.q
  let x2 := bif k == 1 then W (0 - y) else bif k == 2 then W (0 - x) else bif k == 3 then y else x
  let y2 := bif k == 1 then x else bif k == 2 then W (0 - y) else bif k == 3 then W (0 - x) else y
  ⟨W (x2 + t.u.x), W (y2 + t.u.y)⟩
/-! ### figure's scalars -/
def nearF (p : P2) : Bool := andB (andB (andB (decide (p.x ≥ -536870912)) (decide (p.x ≤ 536870912))) (decide (p.y ≥ -536870912))) (decide (p.y ≤ 536870912))
def widF (r : Int) : Bool := andB (decide (r ≥ 1)) (decide (r ≤ 536870912))
def foldF (was cls : Int) (add : Bool) : Int :=
  bif orB (orB (orB (decide (was < 0)) (decide (was > 2))) (decide (cls < 0))) (decide (cls > 2)) then 1 else
  bif cls == 0 then was else bif andB (cls == 2) add then 2 else bif cls == 2 then 0 else bif andB add (was == 2) then 2 else bif andB (!add) (was == 0) then 0 else 1
def aroundF (p q : P2) (r : Int) : B4 := ⟨imax (W (imin p.x q.x - r)) (-536870912), imax (W (imin p.y q.y - r)) (-536870912), imin (W (imax p.x q.x + r)) 536870912, imin (W (imax p.y q.y + r)) 536870912⟩
def plusF (a b : Int) : Int := bif decide (a > W (9223372036854775807 - b)) then 9223372036854775807 else W (a + b)
theorem near_ok (p : P2) : CallOk Try.prog 24 [pt p] (vb (nearF p)) := fnOk (fuel := 16) (tbOf_ok tbA_ok) mo Try.func24 (by kernel_rfl) (by kernel_rfl) (by kernel_rfl) (by kernel_rfl)
theorem width_ok (r : Int) : CallOk Try.prog 25 [vi r] (vb (widF r)) := fnOk (fuel := 16) (tbOf_ok tbA_ok) mo Try.func25 (by kernel_rfl) (by kernel_rfl) (by kernel_rfl) (by kernel_rfl)
theorem plus_ok (a b : Int) : CallOk Try.prog 70 [vi a, vi b] (vi (plusF a b)) := fnOk (fuel := 16) (tbOf_ok tbA_ok) mo Try.func70 (by kernel_rfl) (by kernel_rfl) (by kernel_rfl) (by kernel_rfl)
theorem quarters_ok (q : Int) : CallOk Try.prog 90 [vi q] (vi (quF q)) := fnOk (fuel := 16) (tbOf_ok tbA_ok) mo Try.func90 (by kernel_rfl) (by kernel_rfl) (by kernel_rfl) (by kernel_rfl)
/-- a table, one entry more where the function is there -/
def tf0 : List Entry := tbA
theorem tf0_ok : ∀ e ∈ tf0, EntryOk Try.prog e := tbA_ok
def tf1 : List Entry := (24, en1 dP (fun p => vb (nearF p))) :: (25, en1 dI (fun p => vb (widF p))) :: tf0
theorem tf1_ok : ∀ e ∈ tf1, EntryOk Try.prog e := List.forall_mem_cons.2 ⟨en1_ok dP_eq near_ok, List.forall_mem_cons.2 ⟨en1_ok dI_eq width_ok, tf0_ok⟩⟩
def tf2 : List Entry := tf1
theorem tf2_ok : ∀ e ∈ tf2, EntryOk Try.prog e := tf1_ok
def tf3 : List Entry := tf2
theorem tf3_ok : ∀ e ∈ tf3, EntryOk Try.prog e := tf2_ok
def tf4 : List Entry := (70, en2 dI dI (fun a b => vi (plusF a b))) :: tf3
theorem tf4_ok : ∀ e ∈ tf4, EntryOk Try.prog e := List.forall_mem_cons.2 ⟨en2_ok dI_eq dI_eq plus_ok, tf3_ok⟩
def tf5 : List Entry := (90, en1 dI (fun a => vi (quF a))) :: tf4
theorem tf5_ok : ∀ e ∈ tf5, EntryOk Try.prog e := List.forall_mem_cons.2 ⟨en1_ok dI_eq quarters_ok, tf4_ok⟩
def plX (t : Tn) : Bool := !(t.mx == t.my)
def plQ (t : Tn) : Int := quF (bif t.my then W (quF t.q + 2) else quF t.q)
def thenF (t u : Tn) : Tn := ⟨!(plX t == plX u), false, quF (W ((bif plX u then W (0 - plQ t) else plQ t) + plQ u)), turnPtF t.u u⟩
theorem turnPt_ok (p : P2) (t : Tn) : CallOk Try.prog 88 [pt p, tn t] (pt (turnPtF p t)) := fnOk (fuel := 16) (tbOf_ok tf5_ok) mo Try.func88 (by kernel_rfl) (by kernel_rfl) (by kernel_rfl) (by kernel_rfl)
def tf6 : List Entry := (88, en2 dP dT (fun a b => pt (turnPtF a b))) :: tf5
theorem tf6_ok : ∀ e ∈ tf6, EntryOk Try.prog e := List.forall_mem_cons.2 ⟨en2_ok dP_eq dT_eq turnPt_ok, tf5_ok⟩
def tf7 : List Entry := tf6
theorem tf7_ok : ∀ e ∈ tf7, EntryOk Try.prog e := tf6_ok
def tf8 : List Entry := tf7
theorem tf8_ok : ∀ e ∈ tf8, EntryOk Try.prog e := tf7_ok
/-- the scalars of figure and turn -/
def tbF : List Entry := tf8
theorem tbF_ok : ∀ e ∈ tbF, EntryOk Try.prog e := tf8_ok
/-! ### shapes: one level -/
structure Sh where
  k : Int
  a : P2
  b : P2
  c : P2
  r : Int
  l : Ctr
  n : Nat
  f : Nat → List Dyn.DC
def cS (s : Sh) : List Dyn.DC := [cI s.k, cI s.a.x, cI s.a.y, cI s.b.x, cI s.b.y, cI s.c.x, cI s.c.y, cI s.r, cCtr s.l, .row s.n s.f]
def dvS (s : Sh) : Dyn.DV := .agg (cS s)
/-- shapes, all of it -/
inductive Shp where
  | nil
  | mk (k : Int) (a b c : P2) (r : Int) (l : Ctr) (n : Nat) (add : Nat → Bool) (sub : Nat → Shp)
def partC (add : Bool) (s : Sh) : List Dyn.DC := cB add :: cS s
def toSh : Shp → Sh
  | .nil => ⟨0, ⟨0, 0⟩, ⟨0, 0⟩, ⟨0, 0⟩, 0, ⟨0, fun _ => 0, fun _ _ => ⟨0, 0⟩⟩, 1, fun _ => []⟩
  | .mk k a b c r l n add sub => ⟨k, a, b, c, r, l, n, fun i => partC (add i) (toSh (sub i))⟩
/-! ### decoders: what an argument shows, what is asked of it -/
abbrev Dec (α : Type) := Dyn.DV → Option (α × List Prop)
def DecOk {α : Type} (q : Dec α) (e : α → Dyn.DV) (p : α → Prop) : Prop := ∀ d x ps, q d = some (x, ps) → allP ps → Dyn.DVLe d (e x) ∧ p x
def qOf {α : Type} (a : Dyn.DV → Option α) : Dec α := fun d => match a d with
  | some x => some (x, [])
  | none => none
theorem qOf_ok {α : Type} {a : Dyn.DV → Option α} {e : α → Dyn.DV} (h : ∀ {d x}, a d = some x → Dyn.DVLe d (e x)) : DecOk (qOf a) e (fun _ => True) := fun d x ps hq _ => by
  unfold qOf at hq
  split at hq
  · rename_i y hy
    simp only [Option.some.injEq, Prod.mk.injEq] at hq
    obtain ⟨rfl, rfl⟩ := hq
    exact ⟨h hy, trivial⟩
  · cases hq
/-- .. with one thing more that is asked -/
def qAnd {α : Type} (q : Dec α) (r : α → Prop) : Dec α := fun d => match q d with
  | some (x, ps) => some (x, r x :: ps)
  | none => none
theorem qAnd_ok {α : Type} {q : Dec α} {e : α → Dyn.DV} {p r : α → Prop} (h : DecOk q e p) : DecOk (qAnd q r) e (fun x => r x ∧ p x) := fun d x ps hq hp => by
  unfold qAnd at hq
  split at hq
  · rename_i y ps' hy
    simp only [Option.some.injEq, Prod.mk.injEq] at hq
    obtain ⟨rfl, rfl⟩ := hq
    obtain ⟨h1, h2⟩ := h d _ _ hy hp.2
    exact ⟨h1, hp.1, h2⟩
  · cases hq
def qP : Dec P2 := qOf aP
def qX : Dec B4 := qOf aX
def qI : Dec Int := qOf aI
def qB : Dec Bool := qOf aB
def qT : Dec Tn := qOf aT
theorem qP_ok : DecOk qP dvP (fun _ => True) := qOf_ok aP_eq
theorem qX_ok : DecOk qX dvX (fun _ => True) := qOf_ok aX_eq
theorem qI_ok : DecOk qI dvI (fun _ => True) := qOf_ok aI_eq
theorem qB_ok : DecOk qB dvB (fun _ => True) := qOf_ok aB_eq
theorem qT_ok : DecOk qT dvT (fun _ => True) := qOf_ok aT_eq
def qC : Dec Ctr
  | .one (.row n f) => some (ctrOf n f, [ctrIs n f])
  | _ => none
theorem qC_ok : DecOk qC dvC (fun _ => True) := fun d x ps h hp => by
  unfold qC at h; split at h
  · simp only [Option.some.injEq, Prod.mk.injEq] at h
    obtain ⟨rfl, rfl⟩ := h
    exact ⟨⟨rfl, hp.1⟩, trivial⟩
  · cases h
def en1D {α : Type} (q : Dec α) (F : α → Dyn.RV) : List Dyn.DV → Option (Dyn.RV × List Prop)
  | [a] => match q a with
    | some (x, ps) => some (F x, ps)
    | none => none
  | _ => none
def en2D {α β : Type} (q : Dec α) (q2 : Dec β) (F : α → β → Dyn.RV) : List Dyn.DV → Option (Dyn.RV × List Prop)
  | [a, b] => match q a, q2 b with
    | some (x, ps), some (y, qs) => some (F x y, ps ++ qs)
    | _, _ => none
  | _ => none
def en3D {α β γ : Type} (q : Dec α) (q2 : Dec β) (q3 : Dec γ) (F : α → β → γ → Dyn.RV) : List Dyn.DV → Option (Dyn.RV × List Prop)
  | [a, b, c] => match q a, q2 b, q3 c with
    | some (x, ps), some (y, qs), some (z, rs) => some (F x y z, ps ++ qs ++ rs)
    | _, _, _ => none
  | _ => none
def en0R (r : Dyn.RV) : List Dyn.DV → Option (Dyn.RV × List Prop)
  | [] => some (r, [])
  | _ => none
theorem en0R_ok {P : Program} {K : Nat} {r : Dyn.RV} (h : Dyn.CallD P K [] r) : Dyn.EntryDOk P (K, en0R r) := fun args r' ps hr hp => by
  dsimp only at hr
  unfold en0R at hr
  split at hr
  · simp only [Option.some.injEq, Prod.mk.injEq] at hr
    rw [← hr.1]; exact h
  · cases hr
theorem en1D_ok {P : Program} {K : Nat} {α : Type} {q : Dec α} {e : α → Dyn.DV} {p : α → Prop} {F : α → Dyn.RV} (hq : DecOk q e p) (h : ∀ x, p x → Dyn.CallD P K [e x] (F x)) : Dyn.EntryDOk P (K, en1D q F) := fun args r ps hr hp => by
  dsimp only at hr
  unfold en1D at hr
  split at hr
  · split at hr
    · rename_i x ps' hx
      simp only [Option.some.injEq, Prod.mk.injEq] at hr
      obtain ⟨rfl, rfl⟩ := hr
      obtain ⟨h1, h2⟩ := hq _ _ _ hx hp
      exact CallD_le (args := [e x]) ⟨h1, trivial⟩ (h x h2)
    · cases hr
  · cases hr
theorem en2D_ok {P : Program} {K : Nat} {α β : Type} {q : Dec α} {q2 : Dec β} {e : α → Dyn.DV} {e2 : β → Dyn.DV} {p : α → Prop} {p2 : β → Prop} {F : α → β → Dyn.RV} (hq : DecOk q e p) (hq2 : DecOk q2 e2 p2) (h : ∀ x y, p x → p2 y → Dyn.CallD P K [e x, e2 y] (F x y)) : Dyn.EntryDOk P (K, en2D q q2 F) := fun args r ps hr hp => by
  dsimp only at hr
  unfold en2D at hr
  split at hr
  · split at hr
    · rename_i x ps' y qs' hx hy
      simp only [Option.some.injEq, Prod.mk.injEq] at hr
      obtain ⟨rfl, rfl⟩ := hr
      rw [allP_append] at hp
      obtain ⟨h1, h2⟩ := hq _ _ _ hx hp.1
      obtain ⟨h3, h4⟩ := hq2 _ _ _ hy hp.2
      exact CallD_le (args := [e x, e2 y]) ⟨h1, h3, trivial⟩ (h x y h2 h4)
    · cases hr
  · cases hr
theorem en3D_ok {P : Program} {K : Nat} {α β γ : Type} {q : Dec α} {q2 : Dec β} {q3 : Dec γ} {e : α → Dyn.DV} {e2 : β → Dyn.DV} {e3 : γ → Dyn.DV} {p : α → Prop} {p2 : β → Prop} {p3 : γ → Prop} {F : α → β → γ → Dyn.RV} (hq : DecOk q e p) (hq2 : DecOk q2 e2 p2) (hq3 : DecOk q3 e3 p3)
    (h : ∀ x y z, p x → p2 y → p3 z → Dyn.CallD P K [e x, e2 y, e3 z] (F x y z)) : Dyn.EntryDOk P (K, en3D q q2 q3 F) := fun args r ps hr hp => by
  dsimp only at hr
  unfold en3D at hr
  split at hr
  · split at hr
    · rename_i x ps' y qs' z rs' hx hy hz
      simp only [Option.some.injEq, Prod.mk.injEq] at hr
      obtain ⟨rfl, rfl⟩ := hr
      rw [allP_append, allP_append] at hp
      obtain ⟨h1, h2⟩ := hq _ _ _ hx hp.1.1
      obtain ⟨h3, h4⟩ := hq2 _ _ _ hy hp.1.2
      obtain ⟨h5, h6⟩ := hq3 _ _ _ hz hp.2
      exact CallD_le (args := [e x, e2 y, e3 z]) ⟨h1, h3, h5, trivial⟩ (h x y z h2 h4 h6)
    · cases hr
  · cases hr
/-- what a value of type Shape shows, one level -/
def aS : Dyn.DV → Option (Sh × List Prop)
  | .agg [.p (.int .i64 k), .p (.int .i64 a), .p (.int .i64 b), .p (.int .i64 c), .p (.int .i64 d), .p (.int .i64 e), .p (.int .i64 f), .p (.int .i64 r), .row nl fl, .row n g] => some (⟨k, ⟨a, b⟩, ⟨c, d⟩, ⟨e, f⟩, r, ctrOf nl fl, n, g⟩, [ctrIs nl fl])
  | _ => none
theorem aS_eq {d : Dyn.DV} {x : Sh} {ps : List Prop} (h : aS d = some (x, ps)) (hp : allP ps) : Dyn.DVLe d (dvS x) := by
  unfold aS at h; split at h
  · simp only [Option.some.injEq, Prod.mk.injEq] at h
    obtain ⟨rfl, rfl⟩ := h
    exact ⟨rfl, rfl, rfl, rfl, rfl, rfl, rfl, rfl, ⟨rfl, hp.1⟩, ⟨rfl, fun _ _ => rfl⟩, trivial⟩
  · cases h
def qS : Dec Sh := aS
theorem qS_ok : DecOk qS dvS (fun _ => True) := fun d x ps h hp => ⟨aS_eq h hp, trivial⟩
/-! ### shapes, all of it: from one level back -/
theorem cCtr_inj {l m : Ctr} (h : ctrOf l.n (fun i => [cRow (l.m i) (l.p i)]) = ctrOf m.n (fun i => [cRow (m.m i) (m.p i)])) : l = m := h
theorem cS_inj {s t : Sh} (h : cS s = cS t) : s = t := by
  have h2 : (aS (.agg (cS s))).map (·.1) = (aS (.agg (cS t))).map (·.1) := by rw [h]
  have e : ∀ s : Sh, (aS (.agg (cS s))).map (·.1) = some s := fun s => rfl
  rw [e, e] at h2
  exact Option.some.inj h2
theorem toSh_inj : ∀ (s t : Shp), toSh s = toSh t → s = t := by
  intro s
  induction s with
  | nil =>
    intro t h
    cases t with
    | nil => rfl
    | mk k' a' b' c' r' l' n' add' sub' =>
      simp only [toSh, Sh.mk.injEq] at h
      have := congrFun h.2.2.2.2.2.2.2 0
      cases this
  | mk k a b c r l n add sub ih =>
    intro t h
    cases t with
    | nil =>
      simp only [toSh, Sh.mk.injEq] at h
      have := congrFun h.2.2.2.2.2.2.2 0
      cases this
    | mk k' a' b' c' r' l' n' add' sub' =>
      simp only [toSh, Sh.mk.injEq] at h
      obtain ⟨rfl, rfl, rfl, rfl, rfl, rfl, rfl, hf⟩ := h
      have h1 : ∀ i, add i = add' i ∧ sub i = sub' i := fun i => by
        have := congrFun hf i
        simp only [partC, List.cons.injEq] at this
        refine ⟨?_, ih i _ (cS_inj this.2)⟩
        have h2 : cB (add i) = cB (add' i) := this.1
        simp only [cB, Dyn.DC.p.injEq, Value.bool.injEq] at h2
        exact h2
      have e1 : add = add' := funext fun i => (h1 i).1
      have e2 : sub = sub' := funext fun i => (h1 i).2
      rw [e1, e2]
instance : Inhabited Shp := ⟨.nil⟩
/-- nothing in it is too long to be counted -/
def ShB : Shp → Prop
  | .nil => False
  | .mk _ _ _ _ _ l n _ sub => CtrB l ∧ n ≤ 1000000000 ∧ ∀ i, i < n → ShB (sub i)
/-- two that differ at most in parts that are not there -/
def SLe (x y : Sh) : Prop := x.k = y.k ∧ x.a = y.a ∧ x.b = y.b ∧ x.c = y.c ∧ x.r = y.r ∧ x.l = y.l ∧ x.n = y.n ∧ ∀ i, i < x.n → x.f i = y.f i
theorem SLe.refl (x : Sh) : SLe x x := ⟨rfl, rfl, rfl, rfl, rfl, rfl, rfl, fun _ _ => rfl⟩
theorem SLe.dv {x y : Sh} (h : SLe x y) : Dyn.DVLe (dvS x) (dvS y) := by
  obtain ⟨k, a, b, c, r, l, n, f⟩ := x
  obtain ⟨k', a', b', c', r', l', n', f'⟩ := y
  obtain ⟨h1, h2, h3, h4, h5, h6, h7, h8⟩ := h
  dsimp only at h1 h2 h3 h4 h5 h6 h7 h8
  subst h1; subst h2; subst h3; subst h4; subst h5; subst h6; subst h7
  exact ⟨rfl, rfl, rfl, rfl, rfl, rfl, rfl, rfl, Dyn.DCLe.refl _, ⟨rfl, h8⟩, trivial⟩
theorem SLe_B {s t : Shp} (h : SLe (toSh s) (toSh t)) (ht : ShB t) : ShB s := by
  cases t with
  | nil => exact ht.elim
  | mk k' a' b' c' r' l' n' add' sub' =>
    obtain ⟨h1, h2, h3, h4, h5, h6, h7, h8⟩ := h
    cases s with
    | nil =>
      have := h8 0 (by show (0 : Nat) < 1; decide)
      cases this
    | mk k a b c r l n add sub =>
      have e6 : l = l' := h6
      have e7 : n = n' := h7
      subst e6; subst e7
      refine ⟨ht.1, ht.2.1, fun i hi => ?_⟩
      have := h8 i hi
      have e : toSh (sub i) = toSh (sub' i) := cS_inj (List.cons.inj this).2
      rw [toSh_inj _ _ e]
      exact ht.2.2 i hi
noncomputable def ofSh (x : Sh) : Shp := Classical.epsilon fun s => toSh s = x ∨ ((¬ ∃ t, toSh t = x) ∧ ShB s ∧ SLe x (toSh s))
theorem ofSh_toSh (s : Shp) : ofSh (toSh s) = s := by
  have h : toSh (ofSh (toSh s)) = toSh s ∨ ((¬ ∃ t, toSh t = toSh s) ∧ ShB (ofSh (toSh s)) ∧ SLe (toSh s) (toSh (ofSh (toSh s)))) := Classical.epsilon_spec (p := fun t => toSh t = toSh s ∨ ((¬ ∃ u, toSh u = toSh s) ∧ ShB t ∧ SLe (toSh s) (toSh t))) ⟨s, .inl rfl⟩
  rcases h with h | h
  · exact toSh_inj _ _ h
  · exact absurd ⟨s, rfl⟩ h.1
/-- a shape of which nothing is too long -/
def PdS (x : Sh) : Prop := ShB (ofSh x) ∧ SLe x (toSh (ofSh x))
theorem PdS_mk {s : Shp} (h : ShB s) : PdS (toSh s) := by unfold PdS; rw [ofSh_toSh]; exact ⟨h, SLe.refl _⟩
theorem PdS_le {x : Sh} {s : Shp} (hs : ShB s) (h : SLe x (toSh s)) : PdS x := by
  by_cases e : ∃ t, toSh t = x
  · obtain ⟨t, rfl⟩ := e
    exact PdS_mk (SLe_B h hs)
  · have q : toSh (ofSh x) = x ∨ ((¬ ∃ t, toSh t = x) ∧ ShB (ofSh x) ∧ SLe x (toSh (ofSh x))) := Classical.epsilon_spec (p := fun s => toSh s = x ∨ ((¬ ∃ t, toSh t = x) ∧ ShB s ∧ SLe x (toSh s))) ⟨s, .inr ⟨e, hs, h⟩⟩
    rcases q with q | q
    · exact absurd ⟨_, q⟩ e
    · exact q.2
theorem PdS_of {x : Sh} (h : PdS x) : ∃ add sub, ofSh x = .mk x.k x.a x.b x.c x.r x.l x.n add sub ∧ ∀ i, i < x.n → x.f i = partC (add i) (toSh (sub i)) := by
  obtain ⟨h1, h2⟩ := h
  revert h1 h2
  generalize ofSh x = s
  intro h1 h2
  cases s with
  | nil => exact h1.elim
  | mk k a b c r l n add sub =>
    obtain ⟨e1, e2, e3, e4, e5, e6, e7, e8⟩ := h2
    have e1 : x.k = k := e1
    have e2 : x.a = a := e2
    have e3 : x.b = b := e3
    have e4 : x.c = c := e4
    have e5 : x.r = r := e5
    have e6 : x.l = l := e6
    have e7 : x.n = n := e7
    subst e1; subst e2; subst e3; subst e4; subst e5; subst e6; subst e7
    exact ⟨add, sub, rfl, e8⟩
def lSelf (l : Ctr) : Prop := ctrSelf l
/-- types that show slices -/
def dtyS (t : TypeId) : Bool := dtyP t || Nat.beq t 31 || Nat.beq t 29 || Nat.beq t 50
end Go.Proofs.Ytddgibadiadccaa

/-! ## Ctt -/
namespace Go.Proofs.Ytddgibadiadccaa
open Go Go.RowKit Sym

inductive Pln where
  | lf
  | it (p q : Pln)
  | tt (p : Pln)
  | ff (p : Pln)
def cutP : Dyn.RO → Pln → Option Dyn.RO
  | .side ps x, p => match cutP x p with
    | some x' => some (.side ps x')
    | none => none
  | .leaf r, .lf => some (.leaf r)
  | .ite b x y, .it p q => match cutP x p, cutP y q with
    | some x', some y' => some (.ite b x' y')
    | _, _ => none
  | .ite b x y, .tt p => match b with
    | true => cutP x p
    | false => none
  | .ite b x y, .ff p => match b with
    | true => none
    | false => cutP y p
  | _, _ => none
theorem cutP_sat {Q : Dyn.RV → Prop} : ∀ {o : Dyn.RO} {p : Pln} {o' : Dyn.RO}, cutP o p = some o' → o'.sat Q → o.sat Q := by
  intro o
  induction o with
  | leaf r =>
    intro p o' h k
    cases p <;> simp only [cutP, Option.some.injEq, reduceCtorEq] at h
    subst h; exact k
  | fail => intro p o' h k; simp only [cutP, reduceCtorEq] at h
  | side ps x ih =>
    intro p o' h k
    simp only [cutP] at h
    split at h
    · rename_i x' hx
      simp only [Option.some.injEq] at h; subst h
      exact ⟨k.1, ih hx k.2⟩
    · cases h
  | ite b x y ihx ihy =>
    intro p o' h k
    cases p with
    | lf => simp only [cutP, reduceCtorEq] at h
    | it p q =>
      simp only [cutP] at h
      split at h
      · rename_i x' y' hx hy
        simp only [Option.some.injEq] at h; subst h
        exact ⟨fun hb => ihx hx (k.1 hb), fun hb => ihy hy (k.2 hb)⟩
      · cases h
    | tt p =>
      cases b with
      | true => exact ⟨fun _ => ihx h k, fun e => (by cases e)⟩
      | false => cases h
    | ff p =>
      cases b with
      | true => cases h
      | false => exact ⟨fun e => (by cases e), fun _ => ihy h k⟩
/-- a contract of which some branches are dead -/
theorem dcontractC {P : Program} {X : Dyn.Tabs} {lp : Dyn.Lp} (ht : Dyn.TabsOk P X) (hm : P.follows .mixedOrders = true) {K : Nat} {fn : Func} (hf : P.funcs[K]? = some fn) (hn : (fn.name == "runtime.NumGoroutine") = false) {c : Code} (hb : fn.body = some c) (hl : ∀ w0 : Dyn.Base P, Dyn.LpOk P w0 lp (blocksL c)) {fuel : Nat} {args : List Dyn.DV} {r : Dyn.RV} (p : Pln) (o' : Dyn.RO)
    (hp : Dyn.pOks args = true) (hO : cutP ((Dyn.dfun P X lp fuel fn args).ro P fn.results) p = some o') (hs : o'.sat fun r' => Dyn.RVLe r' r) : Dyn.CallD P K args r :=
  Dyn.dcontract (fuel := fuel) ht hm hf hn hb hl hp rfl (cutP_sat hO hs)
theorem leafR {r r' : Dyn.RV} (h : r = r') : (Dyn.RO.leaf r).sat (fun q => Dyn.RVLe q r') := by subst h; exact Dyn.RVLe.refl _
end Go.Proofs.Ytddgibadiadccaa

/-! ## Apa -/
namespace Go.Proofs.Ytddgibadiadccaa
open Go Go.RowKit Sym
set_option maxRecDepth 100000

def dOk (n : Int) : Bool := andB (decide (n > -1000000000000)) (decide (n < 1000000000000))
def gPer (u : Int) : Int := bif u == 1 then 10 else bif u == 2 then 254 else 0
def gNo (n u : Int) : Bool := bif !(dOk n) then true else gPer u == 0
def gFar (n u : Int) : Bool := bif decide (W (n * gPer u) < -536870912) then true else decide (W (n * gPer u) > 536870912)
def gV (n u : Int) : Int := bif gNo n u then 0 else bif gFar n u then 0 else W (n * gPer u)
def gB (n u : Int) : Bool := bif gNo n u then false else bif gFar n u then false else true
theorem dOk_ok (n : Int) : CallOk Try.prog 22 [vi n] (vb (dOk n)) := fnOk (fuel := 16) (tbOf_ok tbA_ok) mo Try.func22 (by kernel_rfl) (by kernel_rfl) (by kernel_rfl) (by kernel_rfl)
theorem gPer_ok (u : Int) : CallOk Try.prog 21 [vi u] (vi (gPer u)) := fnOk (fuel := 16) (tbOf_ok tbA_ok) mo Try.func21 (by kernel_rfl) (by kernel_rfl) (by kernel_rfl) (by kernel_rfl)
def tbG : List Entry := (22, en1 dI fun n => vb (dOk n)) :: (21, en1 dI fun n => vi (gPer n)) :: tbF
theorem tbG_ok : ∀ e ∈ tbG, EntryOk Try.prog e := List.forall_mem_cons.2 ⟨en1_ok dI_eq dOk_ok, List.forall_mem_cons.2 ⟨en1_ok dI_eq gPer_ok, tbF_ok⟩⟩
theorem grain_ok (n u : Int) : CallOk Try.prog 12 [vi n, vi u] (.tuple ⟨[vi (gV n u), vb (gB n u)]⟩) := fnOk (fuel := 16) (tbOf_ok tbG_ok) mo Try.func12 (by kernel_rfl) (by kernel_rfl) (by kernel_rfl) (by kernel_rfl)
def tbH : List Entry := (12, en2 dI dI fun n u => .tuple ⟨[vi (gV n u), vb (gB n u)]⟩) :: tbF
theorem tbH_ok : ∀ e ∈ tbH, EntryOk Try.prog e := List.forall_mem_cons.2 ⟨en2_ok dI_eq dI_eq grain_ok, tbF_ok⟩

/-! ### shapes as they are written -/
structure ShD where
  k : Int := 0
  a : P2 := ⟨0, 0⟩
  b : P2 := ⟨0, 0⟩
  c : P2 := ⟨0, 0⟩
  r : Int := 0
  ln : Nat := 0
  lf : Nat → List Dyn.DC := fun _ => []
  qn : Nat := 0
  qf : Nat → List Dyn.DC := fun _ => []
def cD (s : ShD) : List Dyn.DC := [cI s.k, cI s.a.x, cI s.a.y, cI s.b.x, cI s.b.y, cI s.c.x, cI s.c.y, cI s.r, .row s.ln s.lf, .row s.qn s.qf]
def dvD (s : ShD) : Dyn.DV := .agg (cD s)
def circD (r : Int) : ShD := { k := bif r == 0 then 6 else 1, r := bif r == 0 then 0 else r }
def rectL (w h : Int) : Nat → List Dyn.DC := (Dyn.pickL 0 [[.row 4 (Dyn.pickL 0 [[cI (W (0 - w)), cI (W (0 - h))], [cI w, cI (W (0 - h))], [cI w, cI h], [cI (W (0 - w)), cI h]])]])
def rectD (w h : Int) : ShD := { k := 2, ln := 1, lf := rectL w h }
def obrD (w h : Int) : ShD := { k := bif decide (w > h) then 3 else bif decide (h > w) then 3 else 1, a := ⟨bif decide (w > h) then W (h - w) else bif decide (h > w) then 0 else 0, bif decide (w > h) then 0 else bif decide (h > w) then W (w - h) else 0⟩, b := ⟨bif decide (w > h) then W (w - h) else bif decide (h > w) then 0 else 0, bif decide (w > h) then 0 else bif decide (h > w) then W (h - w) else 0⟩, r := bif decide (w > h) then h else bif decide (h > w) then w else w }
noncomputable def tabI : Dyn.Tabs := Dyn.tabs tbF [] noD dtyS
theorem tabI_ok : Dyn.TabsOk Try.prog tabI := Dyn.tabs_ok tbF_ok (fun _ h => by cases h)
theorem circ_ok2 (r : Int) : Dyn.CallD Try.prog 13 [dvI r] (.val (dvD (circD r))) :=
  Dyn.dcontract (lp := Dyn.noLp) (fuel := 3) tabI_ok mo Try.func13 (by kernel_rfl) (c := bodyD Try.f13.body) (by kernel_rfl) (fun w0 => Dyn.noLp_ok _ w0) (by kernel_rfl)
    (O := .ite (r == 0) (.leaf (.val (dvD { k := 6 }))) (.leaf (.val (dvD { k := 1, r := r })))) (by kernel_rfl) ⟨fun h => by unfold circD; rw [h]; exact leafR rfl, fun h => by unfold circD; rw [h]; exact leafR rfl⟩
theorem rect_ok (w h : Int) : Dyn.CallD Try.prog 14 [dvI w, dvI h] (.val (dvD (rectD w h))) :=
  Dyn.dcontract (lp := Dyn.noLp) (fuel := 3) tabI_ok mo Try.func14 (by kernel_rfl) (c := bodyD Try.f14.body) (by kernel_rfl) (fun w0 => Dyn.noLp_ok _ w0) (by kernel_rfl)
    (O := .leaf (.val (dvD (rectD w h)))) (by kernel_rfl) (leafR rfl)
theorem obr_ok (w h : Int) : Dyn.CallD Try.prog 15 [dvI w, dvI h] (.val (dvD (obrD w h))) :=
  Dyn.dcontract (lp := Dyn.noLp) (fuel := 3) tabI_ok mo Try.func15 (by kernel_rfl) (c := bodyD Try.f15.body) (by kernel_rfl) (fun w0 => Dyn.noLp_ok _ w0) (by kernel_rfl)
    (O := .ite (decide (w > h)) (.leaf (.val (dvD { k := 3, a := ⟨W (h - w), 0⟩, b := ⟨W (w - h), 0⟩, r := h }))) (.ite (decide (h > w)) (.leaf (.val (dvD { k := 3, a := ⟨0, W (w - h)⟩, b := ⟨0, W (h - w)⟩, r := w }))) (.leaf (.val (dvD { k := 1, r := w }))))) (by kernel_rfl)
    ⟨fun h => by unfold obrD; rw [h]; exact leafR rfl, fun h => ⟨fun h2 => by unfold obrD; rw [h, h2]; exact leafR rfl, fun h2 => by unfold obrD; rw [h, h2]; exact leafR rfl⟩⟩
/-- an aperture, an error -/
def dvAp (s : ShD) (R e : Int) : Dyn.RV := .tup [.agg (cD s ++ [cI R]), dvI e]
def dvSt (s : ByteArray) : Dyn.DV := .one (.p (.string s))
def dvN (n : Nat) (f : Nat → List Dyn.DC) : Dyn.DV := .one (.row n f)
def nilF (_ : Nat) : List Dyn.DC := []
def mF (_ : Nat) : List Dyn.DC := [.p (.string ⟨#[]⟩), .row 0 nilF]
/-- no macros: nothing is defined -/
theorem def_ok (s : ByteArray) (n : Nat) (f : Nat → List Dyn.DC) (u : Int) (g : Nat → List Dyn.DC) : Dyn.CallD Try.prog 11 [dvSt s, dvN n f, dvI u, dvN 0 g] (dvAp {} 0 4) :=
  CallD_le (args := [dvSt s, dvN n f, dvI u, dvN 0 mF]) ⟨rfl, ⟨rfl, fun _ _ => rfl⟩, rfl, ⟨rfl, fun i hi => absurd hi (Nat.not_lt_zero i)⟩, trivial⟩
  (dcontractC (lp := Dyn.noLp) (fuel := 2) tabI_ok mo Try.func11 (by kernel_rfl) (c := bodyD Try.f11.body) (by kernel_rfl) (fun w0 => Dyn.noLp_ok _ w0) (.ff (.tt .lf))
    (.side [some (decide (W (((0 : Nat) : Int) - 1) ≥ 0)) = some true ∧ True → allP [0 ≤ W (((0 : Nat) : Int) - 1) ∧ W (((0 : Nat) : Int) - 1) < ((0 : Nat) : Int)]] (.leaf (dvAp {} 0 4))) rfl (by kernel_rfl) ⟨⟨fun h => absurd h.1 (by decide), trivial⟩, leafR rfl⟩)
end Go.Proofs.Ytddgibadiadccaa

/-! ## Apb -/
namespace Go.Proofs.Ytddgibadiadccaa
open Go Go.RowKit Sym
set_option maxRecDepth 100000

def enDf : Dyn.EntryD := (11, fun args => match args with
  | [.one (.p (.string s)), .one (.row n f), .one (.p (.int .i64 u)), .one (.row 0 g)] => some (dvAp {} 0 4, [])
  | _ => none)
theorem enDf_ok : Dyn.EntryDOk Try.prog enDf := fun args r ps h hp => by
  unfold enDf at h
  dsimp only at h
  split at h
  · simp only [Option.some.injEq, Prod.mk.injEq] at h
    obtain ⟨rfl, rfl⟩ := h
    exact def_ok _ _ _ _ _
  · cases h
def tdMk : List Dyn.EntryD := [enDf, (13, en1D qI fun r => .val (dvD (circD r))), (14, en2D qI qI fun w h => .val (dvD (rectD w h))), (15, en2D qI qI fun w h => .val (dvD (obrD w h)))]
def drMk (K : Nat) : Bool := Nat.beq K 11 || Nat.beq K 13 || Nat.beq K 14 || Nat.beq K 15
noncomputable def tabMk : Dyn.Tabs := Dyn.tabs tbH tdMk drMk dtyS
theorem tabMk_ok : Dyn.TabsOk Try.prog tabMk := Dyn.tabs_ok tbH_ok (List.forall_mem_cons.2 ⟨enDf_ok, List.forall_mem_cons.2 ⟨en1D_ok qI_ok fun r _ => circ_ok2 r, List.forall_mem_cons.2 ⟨en2D_ok qI_ok qI_ok fun w h _ _ => rect_ok w h, List.forall_mem_cons.2 ⟨en2D_ok qI_ok qI_ok fun w h _ _ => obr_ok w h, fun _ h => by cases h⟩⟩⟩⟩)
def cf (v : Nat → Int) : Nat → List Dyn.DC := fun i => [cI (v i)]
end Go.Proofs.Ytddgibadiadccaa

/-! ## Apc -/
namespace Go.Proofs.Ytddgibadiadccaa
open Go Go.RowKit Sym
set_option maxRecDepth 100000

structure ApR where
  s : ShD := {}
  R : Int := 0
  e : Int := 0
def dvR (x : ApR) : Dyn.RV := dvAp x.s x.R x.e
def erA (e : Int) : ApR := { e := e }
def hF (x u : Int) : Int := W ((gV x u).tdiv 2)
def c2F (sd i x u : Int) : Bool := bif decide (gV x u < 0) then true else bif bif gV x u == 0 then sd == 2 else false then decide (i < sd) else false
def c3F (x u : Int) : Bool := (gV x u).tmod 2 != 0
def mkG (sd i x u : Int) (k : ApR) : ApR := bif !(gB x u) then erA 5 else bif c2F sd i x u then erA 4 else bif c3F x u then erA 7 else k
def erO (e : Int) : Dyn.RO := .leaf (dvR (erA e))
def stp (n : Nat) (sd i x u : Int) (k : Dyn.RO) : Dyn.RO := .side [0 ≤ i ∧ i < (n : Int)] (.ite (!(gB x u)) (erO 5) (.ite (c2F sd i x u) (erO 4) (.ite (c3F x u) (erO 7) k)))
theorem stp_sat {n : Nat} {sd i x u : Int} {k : Dyn.RO} {K : ApR} (hi : 0 ≤ i ∧ i < (n : Int)) (h : k.sat fun r => Dyn.RVLe r (dvR K)) : (stp n sd i x u k).sat fun r => Dyn.RVLe r (dvR (mkG sd i x u K)) := by
  unfold stp mkG erO
  refine ⟨⟨hi, trivial⟩, ⟨fun h1 => ?_, fun h1 => ⟨fun h2 => ?_, fun h2 => ⟨fun h3 => ?_, fun h3 => ?_⟩⟩⟩⟩
  · rw [h1]; exact leafR rfl
  · rw [h1, h2]; exact leafR rfl
  · rw [h1, h2, h3]; exact leafR rfl
  · rw [h1, h2, h3]; exact h
def holeD (s : ShD) (hole : Int) : ShD := { k := 6, qn := 2, qf := Dyn.pickL 0 [cB true :: cD s, cB false :: cD { k := 1, r := hole }] }
def hol (s : ShD) (hole : Int) : ShD := bif decide (hole > 0) then holeD s hole else s
def holO (s : ShD) (hole R : Int) : Dyn.RO := .ite (decide (hole > 0)) (.leaf (dvAp (holeD s hole) R 0)) (.leaf (dvAp s R 0))
theorem hol_sat (s : ShD) (hole R : Int) : (holO s hole R).sat fun r => Dyn.RVLe r (dvR ⟨hol s hole, R, 0⟩) := by
  unfold holO hol
  exact ⟨fun h => by rw [h]; exact leafR rfl, fun h => by rw [h]; exact leafR rfl⟩
def sC : ByteArray := ⟨#[67]⟩
def sR : ByteArray := ⟨#[82]⟩
def sO : ByteArray := ⟨#[79]⟩
def mC1 (v : Nat → Int) (u : Int) : ApR := mkG 1 0 (v 0) u ⟨circD (hF (v 0) u), hF (v 0) u, 0⟩
def mC2 (v : Nat → Int) (u : Int) : ApR := mkG 1 0 (v 0) u (mkG 1 1 (v 1) u ⟨hol (circD (hF (v 0) u)) (hF (v 1) u), bif hF (v 1) u == 0 then hF (v 0) u else 0, 0⟩)
def m2 (g : Int → Int → ShD) (v : Nat → Int) (u : Int) : ApR := mkG 2 0 (v 0) u (mkG 2 1 (v 1) u ⟨g (hF (v 0) u) (hF (v 1) u), 0, 0⟩)
def m3 (g : Int → Int → ShD) (v : Nat → Int) (u : Int) : ApR := mkG 2 0 (v 0) u (mkG 2 1 (v 1) u (mkG 2 2 (v 2) u ⟨hol (g (hF (v 0) u) (hF (v 1) u)) (hF (v 2) u), 0, 0⟩))
def erP (p : Pln) : Pln := .it .lf (.it .lf (.it .lf p))
def MkIs (s : ByteArray) (n : Nat) (v : Nat → Int) (u : Int) (x : ApR) : Prop := Dyn.CallD Try.prog 5 [dvSt s, dvN n (cf v), dvI u, dvN 0 nilF] (dvR x)
theorem mk_bad (s : ByteArray) (n : Nat) (v : Nat → Int) (u : Int) (p : Pln) (h : cutP ((Dyn.dfun Try.prog tabMk Dyn.noLp 3 Try.f5 [dvSt s, dvN n (cf v), dvI u, dvN 0 nilF]).ro Try.prog Try.f5.results) p = some (.leaf (dvAp {} 0 4))) : MkIs s n v u (erA 4) :=
  dcontractC (lp := Dyn.noLp) (fuel := 3) tabMk_ok mo Try.func5 (by kernel_rfl) (c := bodyD Try.f5.body) (by kernel_rfl) (fun w0 => Dyn.noLp_ok _ w0) p (.leaf (dvAp {} 0 4)) rfl h (leafR rfl)
theorem mk_C0 (v : Nat → Int) (u : Int) : MkIs sC 0 v u (erA 4) := mk_bad sC 0 v u (.tt (.tt .lf)) (by kernel_rfl)
theorem mk_C3 (v : Nat → Int) (u : Int) : MkIs sC 3 v u (erA 4) := mk_bad sC 3 v u (.tt (.tt .lf)) (by kernel_rfl)
theorem mk_C4 (v : Nat → Int) (u : Int) : MkIs sC 4 v u (erA 4) := mk_bad sC 4 v u (.tt (.tt .lf)) (by kernel_rfl)
theorem mk_R0 (v : Nat → Int) (u : Int) : MkIs sR 0 v u (erA 4) := mk_bad sR 0 v u (.ff (.tt (.tt .lf))) (by kernel_rfl)
theorem mk_R1 (v : Nat → Int) (u : Int) : MkIs sR 1 v u (erA 4) := mk_bad sR 1 v u (.ff (.tt (.tt .lf))) (by kernel_rfl)
theorem mk_R4 (v : Nat → Int) (u : Int) : MkIs sR 4 v u (erA 4) := mk_bad sR 4 v u (.ff (.tt (.tt .lf))) (by kernel_rfl)
theorem mk_O0 (v : Nat → Int) (u : Int) : MkIs sO 0 v u (erA 4) := mk_bad sO 0 v u (.ff (.tt (.tt .lf))) (by kernel_rfl)
theorem mk_O1 (v : Nat → Int) (u : Int) : MkIs sO 1 v u (erA 4) := mk_bad sO 1 v u (.ff (.tt (.tt .lf))) (by kernel_rfl)
theorem mk_O4 (v : Nat → Int) (u : Int) : MkIs sO 4 v u (erA 4) := mk_bad sO 4 v u (.ff (.tt (.tt .lf))) (by kernel_rfl)
theorem mk_c (n : Nat) (v : Nat → Int) (u : Int) : MkIs ⟨#[99]⟩ n v u (erA 4) := mk_bad ⟨#[99]⟩ n v u (.ff (.ff .lf)) (by kernel_rfl)
theorem mk_X (n : Nat) (v : Nat → Int) (u : Int) : MkIs ⟨#[88]⟩ n v u (erA 4) := mk_bad ⟨#[88]⟩ n v u (.ff (.ff .lf)) (by kernel_rfl)
theorem mk_e (n : Nat) (v : Nat → Int) (u : Int) : MkIs ⟨#[]⟩ n v u (erA 4) := mk_bad ⟨#[]⟩ n v u (.ff (.ff .lf)) (by kernel_rfl)
theorem mk_C1 (v : Nat → Int) (u : Int) : Dyn.CallD Try.prog 5 [dvSt sC, dvN 1 (cf v), dvI u, dvN 0 nilF] (dvR (mC1 v u)) :=
  dcontractC (lp := Dyn.noLp) (fuel := 3) tabMk_ok mo Try.func5 (by kernel_rfl) (c := bodyD Try.f5.body) (by kernel_rfl) (fun w0 => Dyn.noLp_ok _ w0) (.tt (.ff (.tt (erP (.ff (.tt (.tt (.ff .lf))))))))
    (stp 1 1 0 (v 0) u (.leaf (dvAp (circD (hF (v 0) u)) (hF (v 0) u) 0))) rfl (by kernel_rfl) (stp_sat (by decide) (leafR rfl))
theorem mk_C2 (v : Nat → Int) (u : Int) : Dyn.CallD Try.prog 5 [dvSt sC, dvN 2 (cf v), dvI u, dvN 0 nilF] (dvR (mC2 v u)) :=
  dcontractC (lp := Dyn.noLp) (fuel := 4) tabMk_ok mo Try.func5 (by kernel_rfl) (c := bodyD Try.f5.body) (by kernel_rfl) (fun w0 => Dyn.noLp_ok _ w0) (.tt (.ff (.tt (erP (.tt (erP (.ff (.tt (.it (.it .lf .lf) (.it .lf .lf))))))))))
    (stp 2 1 0 (v 0) u (stp 2 1 1 (v 1) u (.ite (hF (v 1) u == 0) (holO (circD (hF (v 0) u)) (hF (v 1) u) (hF (v 0) u)) (holO (circD (hF (v 0) u)) (hF (v 1) u) 0)))) rfl (by kernel_rfl)
    (stp_sat (by decide) (stp_sat (by decide) ⟨fun h => by rw [h]; exact hol_sat _ _ _, fun h => by rw [h]; exact hol_sat _ _ _⟩))
theorem mk_R2 (v : Nat → Int) (u : Int) : Dyn.CallD Try.prog 5 [dvSt sR, dvN 2 (cf v), dvI u, dvN 0 nilF] (dvR (m2 rectD v u)) :=
  dcontractC (lp := Dyn.noLp) (fuel := 4) tabMk_ok mo Try.func5 (by kernel_rfl) (c := bodyD Try.f5.body) (by kernel_rfl) (fun w0 => Dyn.noLp_ok _ w0) (.ff (.tt (.ff (.tt (erP (.tt (erP (.ff (.ff (.tt (.ff .lf)))))))))))
    (stp 2 2 0 (v 0) u (stp 2 2 1 (v 1) u (.leaf (dvAp (rectD (hF (v 0) u) (hF (v 1) u)) 0 0)))) rfl (by kernel_rfl) (stp_sat (by decide) (stp_sat (by decide) (leafR rfl)))
theorem mk_R3 (v : Nat → Int) (u : Int) : Dyn.CallD Try.prog 5 [dvSt sR, dvN 3 (cf v), dvI u, dvN 0 nilF] (dvR (m3 rectD v u)) :=
  dcontractC (lp := Dyn.noLp) (fuel := 5) tabMk_ok mo Try.func5 (by kernel_rfl) (c := bodyD Try.f5.body) (by kernel_rfl) (fun w0 => Dyn.noLp_ok _ w0) (.ff (.tt (.ff (.tt (erP (.tt (erP (.tt (erP (.ff (.ff (.tt (.it .lf .lf)))))))))))))
    (stp 3 2 0 (v 0) u (stp 3 2 1 (v 1) u (stp 3 2 2 (v 2) u (holO (rectD (hF (v 0) u) (hF (v 1) u)) (hF (v 2) u) 0)))) rfl (by kernel_rfl) (stp_sat (by decide) (stp_sat (by decide) (stp_sat (by decide) (hol_sat _ _ _))))
theorem mk_O2 (v : Nat → Int) (u : Int) : Dyn.CallD Try.prog 5 [dvSt sO, dvN 2 (cf v), dvI u, dvN 0 nilF] (dvR (m2 obrD v u)) :=
  dcontractC (lp := Dyn.noLp) (fuel := 4) tabMk_ok mo Try.func5 (by kernel_rfl) (c := bodyD Try.f5.body) (by kernel_rfl) (fun w0 => Dyn.noLp_ok _ w0) (.ff (.tt (.ff (.tt (erP (.tt (erP (.ff (.ff (.ff (.tt (.ff .lf))))))))))))
    (stp 2 2 0 (v 0) u (stp 2 2 1 (v 1) u (.leaf (dvAp (obrD (hF (v 0) u) (hF (v 1) u)) 0 0)))) rfl (by kernel_rfl) (stp_sat (by decide) (stp_sat (by decide) (leafR rfl)))
theorem mk_O3 (v : Nat → Int) (u : Int) : Dyn.CallD Try.prog 5 [dvSt sO, dvN 3 (cf v), dvI u, dvN 0 nilF] (dvR (m3 obrD v u)) :=
  dcontractC (lp := Dyn.noLp) (fuel := 5) tabMk_ok mo Try.func5 (by kernel_rfl) (c := bodyD Try.f5.body) (by kernel_rfl) (fun w0 => Dyn.noLp_ok _ w0) (.ff (.tt (.ff (.tt (erP (.tt (erP (.tt (erP (.ff (.ff (.ff (.tt (.it .lf .lf))))))))))))))
    (stp 3 2 0 (v 0) u (stp 3 2 1 (v 1) u (stp 3 2 2 (v 2) u (holO (obrD (hF (v 0) u) (hF (v 1) u)) (hF (v 2) u) 0)))) rfl (by kernel_rfl) (stp_sat (by decide) (stp_sat (by decide) (stp_sat (by decide) (hol_sat _ _ _))))
end Go.Proofs.Ytddgibadiadccaa

/-! ## Apd -/
namespace Go.Proofs.Ytddgibadiadccaa
open Go Go.RowKit Sym
set_option maxRecDepth 100000

def makeM (s : ByteArray) (n : Nat) (v : Nat → Int) (u : Int) : ApR :=
  if s = sC then (match n with
    | 1 => mC1 v u
    | 2 => mC2 v u
    | _ => erA 4)
  else if s = sR then (match n with
    | 2 => m2 rectD v u
    | 3 => m3 rectD v u
    | _ => erA 4)
  else if s = sO then (match n with
    | 2 => m2 obrD v u
    | 3 => m3 obrD v u
    | _ => erA 4)
  else erA 4
def Good (s : ByteArray) (n : Nat) : Prop := (s = sC ∨ s = sR ∨ s = sO ∨ s = ⟨#[99]⟩ ∨ s = ⟨#[88]⟩ ∨ s = ⟨#[]⟩) ∧ n ≤ 4
theorem make_ok {s : ByteArray} {n : Nat} (h : Good s n) (v : Nat → Int) (u : Int) : MkIs s n v u (makeM s n v u) := by
  obtain ⟨hs, hn⟩ := h
  unfold makeM
  rcases hs with rfl | rfl | rfl | rfl | rfl | rfl
  · rw [if_pos rfl]
    match n, hn with
    | 0, _ => exact mk_C0 v u
    | 1, _ => exact mk_C1 v u
    | 2, _ => exact mk_C2 v u
    | 3, _ => exact mk_C3 v u
    | 4, _ => exact mk_C4 v u
  · rw [if_neg (by decide), if_pos rfl]
    match n, hn with
    | 0, _ => exact mk_R0 v u
    | 1, _ => exact mk_R1 v u
    | 2, _ => exact mk_R2 v u
    | 3, _ => exact mk_R3 v u
    | 4, _ => exact mk_R4 v u
  · rw [if_neg (by decide), if_neg (by decide), if_pos rfl]
    match n, hn with
    | 0, _ => exact mk_O0 v u
    | 1, _ => exact mk_O1 v u
    | 2, _ => exact mk_O2 v u
    | 3, _ => exact mk_O3 v u
    | 4, _ => exact mk_O4 v u
  · rw [if_neg (by decide), if_neg (by decide), if_neg (by decide)]; exact mk_c n v u
  · rw [if_neg (by decide), if_neg (by decide), if_neg (by decide)]; exact mk_X n v u
  · rw [if_neg (by decide), if_neg (by decide), if_neg (by decide)]; exact mk_e n v u
def iF (f : Nat → List Dyn.DC) (i : Nat) : Int := match f i with
  | [.p (.int _ x)] => x
  | _ => 0
def IsN (n : Nat) (f : Nat → List Dyn.DC) : Prop := ∀ i, i < n → f i = [cI (iF f i)]
def enMk : Dyn.EntryD := (5, fun args => match args with
  | [.one (.p (.string s)), .one (.row n f), .one (.p (.int .i64 u)), .one (.row 0 _)] => some (dvR (makeM s n (iF f) u), [Good s n, IsN n f])
  | _ => none)
theorem enMk_ok : Dyn.EntryDOk Try.prog enMk := fun args r ps h hp => by
  unfold enMk at h
  dsimp only at h
  split at h
  · rename_i s n f u g
    simp only [Option.some.injEq, Prod.mk.injEq] at h
    obtain ⟨rfl, rfl⟩ := h
    obtain ⟨h1, h2, -⟩ := hp
    exact CallD_le (args := [dvSt s, dvN n (cf (iF f)), dvI u, dvN 0 nilF]) ⟨rfl, ⟨rfl, fun i hi => h2 i hi⟩, rfl, ⟨rfl, fun i hi => absurd hi (Nat.not_lt_zero i)⟩, trivial⟩ (make_ok h1 (iF f) u)
  · cases h
def drAw (K : Nat) : Bool := Nat.beq K 5
noncomputable def tabAp : Dyn.Tabs := Dyn.tabs tbF [enMk] drAw dtyS
theorem tabAp_ok : Dyn.TabsOk Try.prog tabAp := Dyn.tabs_ok tbF_ok (List.forall_mem_cons.2 ⟨enMk_ok, fun _ h => by cases h⟩)
end Go.Proofs.Ytddgibadiadccaa

/-! ## Ape -/
namespace Go.Proofs.Ytddgibadiadccaa
open Go Go.RowKit Sym
set_option maxRecDepth 100000

def rwN (l : List Int) : Nat → List Dyn.DC := Dyn.pickL 0 (l.map fun x => [cI x])
noncomputable def awX : ApR := makeM sC 1 (iF (rwN [1000000])) 1
noncomputable def awY : ApR := makeM sR 3 (iF (rwN [1000000, 500000, 200000])) 1
noncomputable def awZ : ApR := makeM ⟨#[88]⟩ 0 (iF fun _ => []) 1
noncomputable def aw17V : Bool := bif bif bif bif bif bif awX.e == 0 then awX.R == 5000000 else false then awX.s.k == 1 else false then awY.e == 0 else false then awY.R == 0 else false then awY.s.k == 6 else false then awZ.e == 4 else false
theorem aw17_O : (Dyn.dfun Try.prog tabAp Dyn.noLp 3 Try.f6 []).ro Try.prog Try.f6.results = .side [Good sC 1, IsN 1 (rwN [1000000])] (.side [Good sR 3, IsN 3 (rwN [1000000, 500000, 200000])] (.side [Good ⟨#[88]⟩ 0, IsN 0 fun _ => []] (.leaf (rB aw17V)))) := by kernel_rfl
theorem aw17_true : aw17V = true := by decide +kernel
theorem awake17 : Dyn.CallD Try.prog 6 [] (rB true) :=
  Dyn.dcontract (lp := Dyn.noLp) (fuel := 3) tabAp_ok mo Try.func6 (by kernel_rfl) (c := bodyD Try.f6.body) (by kernel_rfl) (fun w0 => Dyn.noLp_ok _ w0) (by kernel_rfl) aw17_O (by
    refine ⟨⟨⟨.inl rfl, by decide⟩, fun i hi => ?_, trivial⟩, ⟨⟨.inr (.inl rfl), by decide⟩, fun i hi => ?_, trivial⟩, ⟨⟨.inr (.inr (.inr (.inr (.inl rfl)))), by decide⟩, fun i hi => absurd hi (Nat.not_lt_zero i), trivial⟩, ?_⟩
    · match i, hi with
      | 0, _ => rfl
    · match i, hi with
      | 0, _ => rfl
      | 1, _ => rfl
      | 2, _ => rfl
    · rw [aw17_true]; exact leafR rfl)
end Go.Proofs.Ytddgibadiadccaa

/-! ## Apf -/
namespace Go.Proofs.Ytddgibadiadccaa
open Go Go.RowKit Sym
set_option maxRecDepth 100000

def dtyR (t : TypeId) : Bool := dtyS t || Nat.beq t 24
noncomputable def tabRf : Dyn.Tabs := Dyn.tabs tbF [enMk, (6, en0R (rB true))] drAw dtyR
theorem tabRf_ok : Dyn.TabsOk Try.prog tabRf := Dyn.tabs_ok tbF_ok (List.forall_mem_cons.2 ⟨enMk_ok, List.forall_mem_cons.2 ⟨en0R_ok awake17, fun _ h => by cases h⟩⟩)
def tri (s : ByteArray) (l : List Int) (e : Int) : List Dyn.DC := [.p (.string s), .row l.length (rwN l), cI e]
def tri0 (s : ByteArray) (e : Int) : List Dyn.DC := [.p (.string s), .row 0 (fun _ => []), cI e]
def allR (w : Int) : List (List Dyn.DC) :=
  [tri0 sC 4, tri sC [w, 0, 0] 4, tri sC [W (0 - w)] 4, tri sC [0] 0, tri sC [w, W (0 - w)] 4, tri sR [w] 4, tri sR [w, 0] 4, tri sR [0, w] 4, tri sR [w, w, 0] 0, tri sO [w, w, w, w] 4, tri sO [w, W (0 - w)] 4, tri sO [w, w] 0, tri sR [60000000, w] 5, tri sC [60000000] 5, tri ⟨#[99]⟩ [w] 4, tri0 ⟨#[]⟩ 4]
def rfE (which : Int) : Int := (band which 255).tmod ((16 : Nat) : Int)
def rfW (w : Int) : Int := W (band w 1048575 + 1)
def cur (m : Nat) (w : Int) : List Dyn.DC := Dyn.pickL 0 (allR w) m
def stA (l : List Dyn.DC) : ByteArray := match l with
  | [.p (.string s), _, _] => s
  | _ => ⟨#[]⟩
def rnA (l : List Dyn.DC) : Nat := match l with
  | [_, .row n _, _] => n
  | _ => 0
def rfA (l : List Dyn.DC) : Nat → List Dyn.DC := match l with
  | [_, .row _ f, _] => f
  | _ => fun _ => []
def rvA (l : List Dyn.DC) : Int := match l with
  | [_, _, .p (.int _ x)] => x
  | _ => 0
noncomputable def rfX (l : List Dyn.DC) : ApR := makeM (stA l) (rnA l) (iF (rfA l)) 1
noncomputable def rfV (l : List Dyn.DC) : Bool := bif bif (rfX l).e == rvA l then bif (rfX l).e == 0 then true else bif (rfX l).R == 0 then (rfX l).s.k == 0 else false else false then true else false
theorem rf_O (which w : Int) : (Dyn.dfun Try.prog tabRf Dyn.noLp 3 Try.f3 [dvI which, dvI w]).ro Try.prog Try.f3.results =
  .side [((16 : Nat) : Int) ≠ 0, 0 ≤ rfE which ∧ rfE which < ((16 : Nat) : Int)] (.side [Good (stA (cur (rfE which).toNat (rfW w))) (rnA (cur (rfE which).toNat (rfW w))), IsN (rnA (cur (rfE which).toNat (rfW w))) (rfA (cur (rfE which).toNat (rfW w)))] (.leaf (rB (rfV (cur (rfE which).toNat (rfW w)))))) := by kernel_rfl
end Go.Proofs.Ytddgibadiadccaa

/-! ## Apg -/
namespace Go.Proofs.Ytddgibadiadccaa
open Go Go.RowKit Sym
set_option maxRecDepth 100000

theorem band_le (x : Int) (m : Nat) (hm : m < 2 ^ 62) : 0 ≤ band x (m : Int) ∧ band x (m : Int) ≤ m := by
  have h : (BitVec.ofInt 64 x &&& BitVec.ofInt 64 (m : Int)).toNat ≤ m := by
    rw [BitVec.toNat_and]
    refine Nat.le_trans Nat.and_le_right ?_
    simp only [BitVec.toNat_ofInt]
    omega
  unfold band
  rw [W_id (by omega) (by omega)]
  omega
theorem rfW_bd (w : Int) : 1 ≤ rfW w ∧ rfW w ≤ 1048576 := by
  have h := band_le w 1048575 (by decide)
  unfold rfW
  have e : ((1048575 : Nat) : Int) = 1048575 := rfl
  rw [e] at h
  rw [W_id (by omega) (by omega)]
  omega
theorem rfE_bd (w : Int) : 0 ≤ rfE w ∧ rfE w < 16 := by
  have h := band_le w 255 (by decide)
  have e : ((255 : Nat) : Int) = 255 := rfl
  rw [e] at h
  unfold rfE
  have e2 : ((16 : Nat) : Int) = 16 := rfl
  rw [e2, Int.tmod_eq_emod_of_nonneg h.1]
  omega
theorem dOk_in {x : Int} (h1 : -1000000000000 < x) (h2 : x < 1000000000000) : dOk x = true := by
  unfold dOk
  simp only [andB_eq, Bool.and_eq_true, decide_eq_true_eq]
  omega
theorem grain_in {x : Int} (h1 : -50000000 ≤ x) (h2 : x ≤ 50000000) : gB x 1 = true ∧ gV x 1 = 10 * x := by
  have hn : gNo x 1 = false := by
    unfold gNo
    rw [dOk_in (by omega) (by omega)]; rfl
  have e : x * gPer 1 = 10 * x := by
    show x * 10 = 10 * x
    omega
  have hf : gFar x 1 = false := by
    unfold gFar
    rw [e, W_id (by omega) (by omega), decide_eq_false (by omega), decide_eq_false (by omega)]; rfl
  unfold gB gV
  rw [hn, hf, e, W_id (by omega) (by omega)]
  exact ⟨rfl, rfl⟩
theorem c3_in {x : Int} (h : gV x 1 = 10 * x) : c3F x 1 = false := by
  unfold c3F
  rw [h]
  have : (10 * x).tmod 2 = 0 := by
    have : (2 : Int) ∣ 10 * x := ⟨5 * x, by omega⟩
    exact Int.tmod_eq_zero_of_dvd this
  rw [this]; rfl
theorem mkG_pos {x : Int} (h1 : 1 ≤ x) (h2 : x ≤ 50000000) (sd i : Int) (K : ApR) : mkG sd i x 1 K = K := by
  obtain ⟨a, b⟩ := grain_in (x := x) (by omega) h2
  have c : c2F sd i x 1 = false := by
    unfold c2F
    rw [b, decide_eq_false (by omega), show (10 * x == 0) = false from beq_eq_false_iff_ne.2 (by omega)]; rfl
  unfold mkG
  rw [a, c, c3_in b]; rfl
theorem mkG_neg {x : Int} (h1 : 1 ≤ x) (h2 : x ≤ 50000000) (sd i : Int) (K : ApR) : mkG sd i (W (0 - x)) 1 K = erA 4 := by
  rw [W_id (x := 0 - x) (by omega) (by omega)]
  obtain ⟨a, b⟩ := grain_in (x := 0 - x) (by omega) (by omega)
  have c : c2F sd i (0 - x) 1 = true := by
    unfold c2F
    rw [b, decide_eq_true (by omega)]; rfl
  unfold mkG
  rw [a, c]; rfl
theorem pos_h {x : Int} (h1 : 1 ≤ x) (h2 : x ≤ 50000000) : hF x 1 = 5 * x := by
  obtain ⟨a, b⟩ := grain_in (x := x) (by omega) h2
  unfold hF
  rw [b, Int.tdiv_eq_ediv_of_nonneg (by omega), W_id (by omega) (by omega)]
  omega
theorem rf_true {w : Int} (h1 : 1 ≤ w) (h2 : w ≤ 50000000) : ∀ m, m < 16 → rfV (cur m w) = true := fun m hm => by
  have P := fun sd i K => mkG_pos h1 h2 sd i K
  have Ng := fun sd i K => mkG_neg h1 h2 sd i K
  match m, hm with
  | 0, _ => rfl
  | 1, _ => rfl
  | 2, _ =>
    have e : rfX (cur 2 w) = erA 4 := Ng 1 0 _
    unfold rfV; rw [e]; rfl
  | 3, _ => rfl
  | 4, _ =>
    have e : rfX (cur 4 w) = erA 4 := (P 1 0 _).trans (Ng 1 1 _)
    unfold rfV; rw [e]; rfl
  | 5, _ => rfl
  | 6, _ =>
    have e : rfX (cur 6 w) = erA 4 := (P 2 0 _).trans rfl
    unfold rfV; rw [e]; rfl
  | 7, _ => rfl
  | 8, _ =>
    have e : rfX (cur 8 w) = _ := (P 2 0 _).trans ((P 2 1 _).trans rfl)
    unfold rfV; rw [e]; rfl
  | 9, _ => rfl
  | 10, _ =>
    have e : rfX (cur 10 w) = erA 4 := (P 2 0 _).trans (Ng 2 1 _)
    unfold rfV; rw [e]; rfl
  | 11, _ =>
    have e : rfX (cur 11 w) = _ := (P 2 0 _).trans ((P 2 1 _).trans rfl)
    unfold rfV; rw [e]; rfl
  | 12, _ => rfl
  | 13, _ => rfl
  | 14, _ => rfl
  | 15, _ => rfl
  | m + 16, h => exact absurd h (by omega)
theorem rf_good (w : Int) : ∀ m, m < 16 → Good (stA (cur m w)) (rnA (cur m w)) ∧ IsN (rnA (cur m w)) (rfA (cur m w)) := fun m hm => by
  have C : Good sC 0 ∧ Good sC 1 ∧ Good sC 2 ∧ Good sC 3 := ⟨⟨.inl rfl, by decide⟩, ⟨.inl rfl, by decide⟩, ⟨.inl rfl, by decide⟩, ⟨.inl rfl, by decide⟩⟩
  have R : Good sR 1 ∧ Good sR 2 ∧ Good sR 3 := ⟨⟨.inr (.inl rfl), by decide⟩, ⟨.inr (.inl rfl), by decide⟩, ⟨.inr (.inl rfl), by decide⟩⟩
  have O : Good sO 2 ∧ Good sO 4 := ⟨⟨.inr (.inr (.inl rfl)), by decide⟩, ⟨.inr (.inr (.inl rfl)), by decide⟩⟩
  have i0 : ∀ f, IsN 0 f := fun f i hi => absurd hi (Nat.not_lt_zero i)
  have i1 : ∀ a, IsN 1 (rwN [a]) := fun a i hi => match i, hi with
    | 0, _ => rfl
  have i2 : ∀ a b, IsN 2 (rwN [a, b]) := fun a b i hi => match i, hi with
    | 0, _ => rfl
    | 1, _ => rfl
  have i3 : ∀ a b c, IsN 3 (rwN [a, b, c]) := fun a b c i hi => match i, hi with
    | 0, _ => rfl
    | 1, _ => rfl
    | 2, _ => rfl
  have i4 : ∀ a b c d, IsN 4 (rwN [a, b, c, d]) := fun a b c d i hi => match i, hi with
    | 0, _ => rfl
    | 1, _ => rfl
    | 2, _ => rfl
    | 3, _ => rfl
  match m, hm with
  | 0, _ => exact ⟨C.1, i0 _⟩
  | 1, _ => exact ⟨C.2.2.2, i3 _ _ _⟩
  | 2, _ => exact ⟨C.2.1, i1 _⟩
  | 3, _ => exact ⟨C.2.1, i1 _⟩
  | 4, _ => exact ⟨C.2.2.1, i2 _ _⟩
  | 5, _ => exact ⟨R.1, i1 _⟩
  | 6, _ => exact ⟨R.2.1, i2 _ _⟩
  | 7, _ => exact ⟨R.2.1, i2 _ _⟩
  | 8, _ => exact ⟨R.2.2, i3 _ _ _⟩
  | 9, _ => exact ⟨O.2, i4 _ _ _ _⟩
  | 10, _ => exact ⟨O.1, i2 _ _⟩
  | 11, _ => exact ⟨O.1, i2 _ _⟩
  | 12, _ => exact ⟨R.2.1, i2 _ _⟩
  | 13, _ => exact ⟨C.2.1, i1 _⟩
  | 14, _ => exact ⟨⟨.inr (.inr (.inr (.inl rfl))), show 1 ≤ 4 by decide⟩, i1 _⟩
  | 15, _ => exact ⟨⟨.inr (.inr (.inr (.inr (.inr rfl)))), show 0 ≤ 4 by decide⟩, i0 _⟩
  | m + 16, h => exact absurd h (by omega)
theorem aperRefuses_ok (which w : Int) : Dyn.CallD Try.prog 3 [dvI which, dvI w] (rB true) :=
  Dyn.dcontract (lp := Dyn.noLp) (fuel := 3) tabRf_ok mo Try.func3 (by kernel_rfl) (c := bodyD Try.f3.body) (by kernel_rfl) (fun w0 => Dyn.noLp_ok _ w0) (by kernel_rfl) (rf_O which w) (by
    have hE := rfE_bd which
    have hW := rfW_bd w
    have hm : (rfE which).toNat < 16 := by omega
    have g := rf_good (rfW w) _ hm
    refine ⟨⟨by decide, ⟨hE.1, hE.2⟩, trivial⟩, ⟨g.1, g.2, trivial⟩, ?_⟩
    rw [rf_true hW.1 (by omega) _ hm]
    exact leafR rfl)
end Go.Proofs.Ytddgibadiadccaa
