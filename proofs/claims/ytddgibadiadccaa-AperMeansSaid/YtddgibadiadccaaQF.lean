/-
  OWN WORK. Joined by merge.py: Sha Ctt Apa Apb Apc Apd Ape Shb Shc Shd Dla Aph Wid Bar Box Lin Disc Poi Api Apj Apk.
-/
import Derived.Test.YtddgibadiadccaaQE
/-! ## Sha -/
namespace Go.Proofs.Ytddgibadiadccaa
open Go Go.RowKit Sym
set_option maxRecDepth 100000

/-! ### names that are found in cells -/
def nmCell (s : Dyn.St) (m j : Nat) : Nat := match s.heap.getD m none with
  | some (.cells _ cs) => nmOf (.v (cs.getD j (.bool false)))
  | _ => 0
def nmCells (s : Dyn.St) : List (Nat × Nat) → List Nat
  | [] => []
  | (m, j) :: l => nmCell s m j :: nmCells s l
/-- names σ, then those that the slots hs name, then those that the cells cl name; slots ks of n -/
def keepC (n : Nat) (σ hs : List Nat) (cl : List (Nat × Nat)) (ks : List Nat) (v : Nat) (s : Dyn.St) : Dyn.St :=
  match nodupB (σ ++ nmsOf s hs ++ nmCells s cl) with
  | true => Dyn.relabel (σ ++ nmsOf s hs ++ nmCells s cl) ((2 ^ n - 1) ^^^ maskOf ks) v s
  | false => s
theorem keepC_ent {P : Program} {w0 : Dyn.Base P} (n : Nat) (σ hs : List Nat) (cl : List (Nat × Nat)) (ks : List Nat) (v : Nat) (s : Dyn.St) : Dyn.Ent w0 s (keepC n σ hs cl ks v s) := by
  unfold keepC
  split
  · rename_i h; exact Dyn.Ent.label (nodupB_ok h) _ v s
  · exact Dyn.Ent.refl w0 s
def keepCR (n : Nat) (σ hs : List Nat) (cl : List (Nat × Nat)) (ks σr r : List Nat) : AExit → Dyn.St → Dyn.St
  | .ret, s => keepA n σr [] r 0 s
  | _, s => keepC n σ hs cl ks 0 s
theorem keepCR_ent {P : Program} {w0 : Dyn.Base P} (n : Nat) (σ hs : List Nat) (cl : List (Nat × Nat)) (ks σr r : List Nat) (e : AExit) (s : Dyn.St) : Dyn.Ent w0 s (keepCR n σ hs cl ks σr r e s) := by
  cases e
  · exact keepC_ent n σ hs cl ks 0 s
  · exact keepC_ent n σ hs cl ks 0 s
  · exact keepA_ent n σr [] r 0 s
/-! ### turns -/
structure Tn where
  mx : Bool
  my : Bool
  q : Int
  u : P2
abbrev tn (t : Tn) : Value := .agg ⟨[vb t.mx, vb t.my, vi t.q, vi t.u.x, vi t.u.y]⟩
def dT : Value → Option Tn | .agg ⟨[.bool a, .bool b, .int .i64 q, .int .i64 x, .int .i64 y]⟩ => some ⟨a, b, q, ⟨x, y⟩⟩ | _ => none
theorem dT_eq {v : Value} {x : Tn} (h : dT v = some x) : v = tn x := by
  unfold dT at h; split at h
  · simp only [Option.some.injEq] at h; subst h; rfl
  · cases h
def cT (t : Tn) : List Dyn.DC := [cB t.mx, cB t.my, cI t.q, cI t.u.x, cI t.u.y]
def dvT (t : Tn) : Dyn.DV := .agg (cT t)
def aT : Dyn.DV → Option Tn
  | .agg [.p (.bool a), .p (.bool b), .p (.int .i64 q), .p (.int .i64 x), .p (.int .i64 y)] => some ⟨a, b, q, ⟨x, y⟩⟩
  | _ => none
theorem aT_eq {d : Dyn.DV} {x : Tn} (h : aT d = some x) : Dyn.DVLe d (dvT x) := by
  unfold aT at h; split at h
  · simp only [Option.some.injEq] at h; subst h; exact Dyn.DVLe.refl _
  · cases h
def quF (q : Int) : Int := band q 3
def turnPtF (p : P2) (t : Tn) : P2 :=
  let x := bif t.mx then W (0 - p.x) else p.x
  let y := bif t.my then W (0 - p.y) else p.y
  let k := quF t.q
  let x2 := bif k == 1 then W (0 - y) else bif k == 2 then W (0 - x) else bif k == 3 then y else x
  let y2 := bif k == 1 then x else bif k == 2 then W (0 - y) else bif k == 3 then W (0 - x) else y
  ⟨W (x2 + t.u.x), W (y2 + t.u.y)⟩
/-! ### figure's scalars -/
def nearF (p : P2) : Bool := andB (andB (andB (decide (p.x ≥ -536870912)) (decide (p.x ≤ 536870912))) (decide (p.y ≥ -536870912))) (decide (p.y ≤ 536870912))
def widF (r : Int) : Bool := andB (decide (r ≥ 1)) (decide (r ≤ 536870912))
def foldF (was cls : Int) (add : Bool) : Int :=
  bif orB (orB (orB (decide (was < 0)) (decide (was > 2))) (decide (cls < 0))) (decide (cls > 2)) then 1 else
  bif cls == 0 then was else bif andB (cls == 2) add then 2 else bif cls == 2 then 0 else bif andB add (was == 2) then 2 else bif andB (!add) (was == 0) then 0 else 1
def aroundF (p q : P2) (r : Int) : B4 := ⟨imax (W (imin p.x q.x - r)) (-536870912), imax (W (imin p.y q.y - r)) (-536870912), imin (W (imax p.x q.x + r)) 536870912, imin (W (imax p.y q.y + r)) 536870912⟩
def plusF (a b : Int) : Int := bif decide (a > W (9223372036854775807 - b)) then 9223372036854775807 else W (a + b)
theorem near_ok (p : P2) : CallOk Try.prog 24 [pt p] (vb (nearF p)) := fnOk (fuel := 16) (tbOf_ok tbA_ok) mo Try.func24 (by kernel_rfl) (by kernel_rfl) (by kernel_rfl) (by kernel_rfl)
theorem width_ok (r : Int) : CallOk Try.prog 25 [vi r] (vb (widF r)) := fnOk (fuel := 16) (tbOf_ok tbA_ok) mo Try.func25 (by kernel_rfl) (by kernel_rfl) (by kernel_rfl) (by kernel_rfl)
theorem plus_ok (a b : Int) : CallOk Try.prog 70 [vi a, vi b] (vi (plusF a b)) := fnOk (fuel := 16) (tbOf_ok tbA_ok) mo Try.func70 (by kernel_rfl) (by kernel_rfl) (by kernel_rfl) (by kernel_rfl)
theorem quarters_ok (q : Int) : CallOk Try.prog 90 [vi q] (vi (quF q)) := fnOk (fuel := 16) (tbOf_ok tbA_ok) mo Try.func90 (by kernel_rfl) (by kernel_rfl) (by kernel_rfl) (by kernel_rfl)
/-- a table, one entry more where the function is there -/
def tf0 : List Entry := tbA
theorem tf0_ok : ∀ e ∈ tf0, EntryOk Try.prog e := tbA_ok
def tf1 : List Entry := (24, en1 dP (fun p => vb (nearF p))) :: (25, en1 dI (fun p => vb (widF p))) :: tf0
theorem tf1_ok : ∀ e ∈ tf1, EntryOk Try.prog e := List.forall_mem_cons.2 ⟨en1_ok dP_eq near_ok, List.forall_mem_cons.2 ⟨en1_ok dI_eq width_ok, tf0_ok⟩⟩
def tf2 : List Entry := tf1
theorem tf2_ok : ∀ e ∈ tf2, EntryOk Try.prog e := tf1_ok
def tf3 : List Entry := tf2
theorem tf3_ok : ∀ e ∈ tf3, EntryOk Try.prog e := tf2_ok
def tf4 : List Entry := (70, en2 dI dI (fun a b => vi (plusF a b))) :: tf3
theorem tf4_ok : ∀ e ∈ tf4, EntryOk Try.prog e := List.forall_mem_cons.2 ⟨en2_ok dI_eq dI_eq plus_ok, tf3_ok⟩
def tf5 : List Entry := (90, en1 dI (fun a => vi (quF a))) :: tf4
theorem tf5_ok : ∀ e ∈ tf5, EntryOk Try.prog e := List.forall_mem_cons.2 ⟨en1_ok dI_eq quarters_ok, tf4_ok⟩
def plX (t : Tn) : Bool := !(t.mx == t.my)
def plQ (t : Tn) : Int := quF (bif t.my then W (quF t.q + 2) else quF t.q)
def thenF (t u : Tn) : Tn := ⟨!(plX t == plX u), false, quF (W ((bif plX u then W (0 - plQ t) else plQ t) + plQ u)), turnPtF t.u u⟩
theorem turnPt_ok (p : P2) (t : Tn) : CallOk Try.prog 88 [pt p, tn t] (pt (turnPtF p t)) := fnOk (fuel := 16) (tbOf_ok tf5_ok) mo Try.func88 (by kernel_rfl) (by kernel_rfl) (by kernel_rfl) (by kernel_rfl)
def tf6 : List Entry := (88, en2 dP dT (fun a b => pt (turnPtF a b))) :: tf5
theorem tf6_ok : ∀ e ∈ tf6, EntryOk Try.prog e := List.forall_mem_cons.2 ⟨en2_ok dP_eq dT_eq turnPt_ok, tf5_ok⟩
def tf7 : List Entry := tf6
theorem tf7_ok : ∀ e ∈ tf7, EntryOk Try.prog e := tf6_ok
def tf8 : List Entry := tf7
theorem tf8_ok : ∀ e ∈ tf8, EntryOk Try.prog e := tf7_ok
/-- the scalars of figure and turn -/
def tbF : List Entry := tf8
theorem tbF_ok : ∀ e ∈ tbF, EntryOk Try.prog e := tf8_ok
/-! ### shapes: one level -/
structure Sh where
  k : Int
  a : P2
  b : P2
  c : P2
  r : Int
  l : Ctr
  n : Nat
  f : Nat → List Dyn.DC
def cS (s : Sh) : List Dyn.DC := [cI s.k, cI s.a.x, cI s.a.y, cI s.b.x, cI s.b.y, cI s.c.x, cI s.c.y, cI s.r, cCtr s.l, .row s.n s.f]
def dvS (s : Sh) : Dyn.DV := .agg (cS s)
/-- shapes, all of it -/
inductive Shp where
  | nil
  | mk (k : Int) (a b c : P2) (r : Int) (l : Ctr) (n : Nat) (add : Nat → Bool) (sub : Nat → Shp)
def partC (add : Bool) (s : Sh) : List Dyn.DC := cB add :: cS s
def toSh : Shp → Sh
  | .nil => ⟨0, ⟨0, 0⟩, ⟨0, 0⟩, ⟨0, 0⟩, 0, ⟨0, fun _ => 0, fun _ _ => ⟨0, 0⟩⟩, 1, fun _ => []⟩
  | .mk k a b c r l n add sub => ⟨k, a, b, c, r, l, n, fun i => partC (add i) (toSh (sub i))⟩
/-! ### decoders: what an argument shows, what is asked of it -/
abbrev Dec (α : Type) := Dyn.DV → Option (α × List Prop)
def DecOk {α : Type} (q : Dec α) (e : α → Dyn.DV) (p : α → Prop) : Prop := ∀ d x ps, q d = some (x, ps) → allP ps → Dyn.DVLe d (e x) ∧ p x
def qOf {α : Type} (a : Dyn.DV → Option α) : Dec α := fun d => match a d with
  | some x => some (x, [])
  | none => none
theorem qOf_ok {α : Type} {a : Dyn.DV → Option α} {e : α → Dyn.DV} (h : ∀ {d x}, a d = some x → Dyn.DVLe d (e x)) : DecOk (qOf a) e (fun _ => True) := fun d x ps hq _ => by
  unfold qOf at hq
  split at hq
  · rename_i y hy
    simp only [Option.some.injEq, Prod.mk.injEq] at hq
    obtain ⟨rfl, rfl⟩ := hq
    exact ⟨h hy, trivial⟩
  · cases hq
/-- .. with one thing more that is asked -/
def qAnd {α : Type} (q : Dec α) (r : α → Prop) : Dec α := fun d => match q d with
  | some (x, ps) => some (x, r x :: ps)
  | none => none
theorem qAnd_ok {α : Type} {q : Dec α} {e : α → Dyn.DV} {p r : α → Prop} (h : DecOk q e p) : DecOk (qAnd q r) e (fun x => r x ∧ p x) := fun d x ps hq hp => by
  unfold qAnd at hq
  split at hq
  · rename_i y ps' hy
    simp only [Option.some.injEq, Prod.mk.injEq] at hq
    obtain ⟨rfl, rfl⟩ := hq
    obtain ⟨h1, h2⟩ := h d _ _ hy hp.2
    exact ⟨h1, hp.1, h2⟩
  · cases hq
def qP : Dec P2 := qOf aP
def qX : Dec B4 := qOf aX
def qI : Dec Int := qOf aI
def qB : Dec Bool := qOf aB
def qT : Dec Tn := qOf aT
theorem qP_ok : DecOk qP dvP (fun _ => True) := qOf_ok aP_eq
theorem qX_ok : DecOk qX dvX (fun _ => True) := qOf_ok aX_eq
theorem qI_ok : DecOk qI dvI (fun _ => True) := qOf_ok aI_eq
theorem qB_ok : DecOk qB dvB (fun _ => True) := qOf_ok aB_eq
theorem qT_ok : DecOk qT dvT (fun _ => True) := qOf_ok aT_eq
def qC : Dec Ctr
  | .one (.row n f) => some (ctrOf n f, [ctrIs n f])
  | _ => none
theorem qC_ok : DecOk qC dvC (fun _ => True) := fun d x ps h hp => by
  unfold qC at h; split at h
  · simp only [Option.some.injEq, Prod.mk.injEq] at h
    obtain ⟨rfl, rfl⟩ := h
    exact ⟨⟨rfl, hp.1⟩, trivial⟩
  · cases h
def en1D {α : Type} (q : Dec α) (F : α → Dyn.RV) : List Dyn.DV → Option (Dyn.RV × List Prop)
  | [a] => match q a with
    | some (x, ps) => some (F x, ps)
    | none => none
  | _ => none
def en2D {α β : Type} (q : Dec α) (q2 : Dec β) (F : α → β → Dyn.RV) : List Dyn.DV → Option (Dyn.RV × List Prop)
  | [a, b] => match q a, q2 b with
    | some (x, ps), some (y, qs) => some (F x y, ps ++ qs)
    | _, _ => none
  | _ => none
def en3D {α β γ : Type} (q : Dec α) (q2 : Dec β) (q3 : Dec γ) (F : α → β → γ → Dyn.RV) : List Dyn.DV → Option (Dyn.RV × List Prop)
  | [a, b, c] => match q a, q2 b, q3 c with
    | some (x, ps), some (y, qs), some (z, rs) => some (F x y z, ps ++ qs ++ rs)
    | _, _, _ => none
  | _ => none
def en0R (r : Dyn.RV) : List Dyn.DV → Option (Dyn.RV × List Prop)
  | [] => some (r, [])
  | _ => none
theorem en0R_ok {P : Program} {K : Nat} {r : Dyn.RV} (h : Dyn.CallD P K [] r) : Dyn.EntryDOk P (K, en0R r) := fun args r' ps hr hp => by
  dsimp only at hr
  unfold en0R at hr
  split at hr
  · simp only [Option.some.injEq, Prod.mk.injEq] at hr
    rw [← hr.1]; exact h
  · cases hr
theorem en1D_ok {P : Program} {K : Nat} {α : Type} {q : Dec α} {e : α → Dyn.DV} {p : α → Prop} {F : α → Dyn.RV} (hq : DecOk q e p) (h : ∀ x, p x → Dyn.CallD P K [e x] (F x)) : Dyn.EntryDOk P (K, en1D q F) := fun args r ps hr hp => by
  dsimp only at hr
  unfold en1D at hr
  split at hr
  · split at hr
    · rename_i x ps' hx
      simp only [Option.some.injEq, Prod.mk.injEq] at hr
      obtain ⟨rfl, rfl⟩ := hr
      obtain ⟨h1, h2⟩ := hq _ _ _ hx hp
      exact CallD_le (args := [e x]) ⟨h1, trivial⟩ (h x h2)
    · cases hr
  · cases hr
theorem en2D_ok {P : Program} {K : Nat} {α β : Type} {q : Dec α} {q2 : Dec β} {e : α → Dyn.DV} {e2 : β → Dyn.DV} {p : α → Prop} {p2 : β → Prop} {F : α → β → Dyn.RV} (hq : DecOk q e p) (hq2 : DecOk q2 e2 p2) (h : ∀ x y, p x → p2 y → Dyn.CallD P K [e x, e2 y] (F x y)) : Dyn.EntryDOk P (K, en2D q q2 F) := fun args r ps hr hp => by
  dsimp only at hr
  unfold en2D at hr
  split at hr
  · split at hr
    · rename_i x ps' y qs' hx hy
      simp only [Option.some.injEq, Prod.mk.injEq] at hr
      obtain ⟨rfl, rfl⟩ := hr
      rw [allP_append] at hp
      obtain ⟨h1, h2⟩ := hq _ _ _ hx hp.1
      obtain ⟨h3, h4⟩ := hq2 _ _ _ hy hp.2
      exact CallD_le (args := [e x, e2 y]) ⟨h1, h3, trivial⟩ (h x y h2 h4)
    · cases hr
  · cases hr
theorem en3D_ok {P : Program} {K : Nat} {α β γ : Type} {q : Dec α} {q2 : Dec β} {q3 : Dec γ} {e : α → Dyn.DV} {e2 : β → Dyn.DV} {e3 : γ → Dyn.DV} {p : α → Prop} {p2 : β → Prop} {p3 : γ → Prop} {F : α → β → γ → Dyn.RV} (hq : DecOk q e p) (hq2 : DecOk q2 e2 p2) (hq3 : DecOk q3 e3 p3)
    (h : ∀ x y z, p x → p2 y → p3 z → Dyn.CallD P K [e x, e2 y, e3 z] (F x y z)) : Dyn.EntryDOk P (K, en3D q q2 q3 F) := fun args r ps hr hp => by
  dsimp only at hr
  unfold en3D at hr
  split at hr
  · split at hr
    · rename_i x ps' y qs' z rs' hx hy hz
      simp only [Option.some.injEq, Prod.mk.injEq] at hr
      obtain ⟨rfl, rfl⟩ := hr
      rw [allP_append, allP_append] at hp
      obtain ⟨h1, h2⟩ := hq _ _ _ hx hp.1.1
      obtain ⟨h3, h4⟩ := hq2 _ _ _ hy hp.1.2
      obtain ⟨h5, h6⟩ := hq3 _ _ _ hz hp.2
      exact CallD_le (args := [e x, e2 y, e3 z]) ⟨h1, h3, h5, trivial⟩ (h x y z h2 h4 h6)
    · cases hr
  · cases hr
/-- what a value of type Shape shows, one level -/
def aS : Dyn.DV → Option (Sh × List Prop)
  | .agg [.p (.int .i64 k), .p (.int .i64 a), .p (.int .i64 b), .p (.int .i64 c), .p (.int .i64 d), .p (.int .i64 e), .p (.int .i64 f), .p (.int .i64 r), .row nl fl, .row n g] => some (⟨k, ⟨a, b⟩, ⟨c, d⟩, ⟨e, f⟩, r, ctrOf nl fl, n, g⟩, [ctrIs nl fl])
  | _ => none
theorem aS_eq {d : Dyn.DV} {x : Sh} {ps : List Prop} (h : aS d = some (x, ps)) (hp : allP ps) : Dyn.DVLe d (dvS x) := by
  unfold aS at h; split at h
  · simp only [Option.some.injEq, Prod.mk.injEq] at h
    obtain ⟨rfl, rfl⟩ := h
    exact ⟨rfl, rfl, rfl, rfl, rfl, rfl, rfl, rfl, ⟨rfl, hp.1⟩, ⟨rfl, fun _ _ => rfl⟩, trivial⟩
  · cases h
def qS : Dec Sh := aS
theorem qS_ok : DecOk qS dvS (fun _ => True) := fun d x ps h hp => ⟨aS_eq h hp, trivial⟩
/-! ### shapes, all of it: from one level back -/
theorem cCtr_inj {l m : Ctr} (h : ctrOf l.n (fun i => [cRow (l.m i) (l.p i)]) = ctrOf m.n (fun i => [cRow (m.m i) (m.p i)])) : l = m := h
theorem cS_inj {s t : Sh} (h : cS s = cS t) : s = t := by
  have h2 : (aS (.agg (cS s))).map (·.1) = (aS (.agg (cS t))).map (·.1) := by rw [h]
  have e : ∀ s : Sh, (aS (.agg (cS s))).map (·.1) = some s := fun s => rfl
  rw [e, e] at h2
  exact Option.some.inj h2
theorem toSh_inj : ∀ (s t : Shp), toSh s = toSh t → s = t := by
  intro s
  induction s with
  | nil =>
    intro t h
    cases t with
    | nil => rfl
    | mk k' a' b' c' r' l' n' add' sub' =>
      simp only [toSh, Sh.mk.injEq] at h
      have := congrFun h.2.2.2.2.2.2.2 0
      cases this
  | mk k a b c r l n add sub ih =>
    intro t h
    cases t with
    | nil =>
      simp only [toSh, Sh.mk.injEq] at h
      have := congrFun h.2.2.2.2.2.2.2 0
      cases this
    | mk k' a' b' c' r' l' n' add' sub' =>
      simp only [toSh, Sh.mk.injEq] at h
      obtain ⟨rfl, rfl, rfl, rfl, rfl, rfl, rfl, hf⟩ := h
      have h1 : ∀ i, add i = add' i ∧ sub i = sub' i := fun i => by
        have := congrFun hf i
        simp only [partC, List.cons.injEq] at this
        refine ⟨?_, ih i _ (cS_inj this.2)⟩
        have h2 : cB (add i) = cB (add' i) := this.1
        simp only [cB, Dyn.DC.p.injEq, Value.bool.injEq] at h2
        exact h2
      have e1 : add = add' := funext fun i => (h1 i).1
      have e2 : sub = sub' := funext fun i => (h1 i).2
      rw [e1, e2]
instance : Inhabited Shp := ⟨.nil⟩
/-- nothing in it is too long to be counted -/
def ShB : Shp → Prop
  | .nil => False
  | .mk _ _ _ _ _ l n _ sub => CtrB l ∧ n ≤ 1000000000 ∧ ∀ i, i < n → ShB (sub i)
/-- two that differ at most in parts that are not there -/
def SLe (x y : Sh) : Prop := x.k = y.k ∧ x.a = y.a ∧ x.b = y.b ∧ x.c = y.c ∧ x.r = y.r ∧ x.l = y.l ∧ x.n = y.n ∧ ∀ i, i < x.n → x.f i = y.f i
theorem SLe.refl (x : Sh) : SLe x x := ⟨rfl, rfl, rfl, rfl, rfl, rfl, rfl, fun _ _ => rfl⟩
theorem SLe.dv {x y : Sh} (h : SLe x y) : Dyn.DVLe (dvS x) (dvS y) := by
  obtain ⟨k, a, b, c, r, l, n, f⟩ := x
  obtain ⟨k', a', b', c', r', l', n', f'⟩ := y
  obtain ⟨h1, h2, h3, h4, h5, h6, h7, h8⟩ := h
  dsimp only at h1 h2 h3 h4 h5 h6 h7 h8
  subst h1; subst h2; subst h3; subst h4; subst h5; subst h6; subst h7
  exact ⟨rfl, rfl, rfl, rfl, rfl, rfl, rfl, rfl, Dyn.DCLe.refl _, ⟨rfl, h8⟩, trivial⟩
theorem SLe_B {s t : Shp} (h : SLe (toSh s) (toSh t)) (ht : ShB t) : ShB s := by
  cases t with
  | nil => exact ht.elim
  | mk k' a' b' c' r' l' n' add' sub' =>
    obtain ⟨h1, h2, h3, h4, h5, h6, h7, h8⟩ := h
    cases s with
    | nil =>
      have := h8 0 (by show (0 : Nat) < 1; decide)
      cases this
    | mk k a b c r l n add sub =>
      have e6 : l = l' := h6
      have e7 : n = n' := h7
      subst e6; subst e7
      refine ⟨ht.1, ht.2.1, fun i hi => ?_⟩
      have := h8 i hi
      have e : toSh (sub i) = toSh (sub' i) := cS_inj (List.cons.inj this).2
      rw [toSh_inj _ _ e]
      exact ht.2.2 i hi
noncomputable def ofSh (x : Sh) : Shp := Classical.epsilon fun s => toSh s = x ∨ ((¬ ∃ t, toSh t = x) ∧ ShB s ∧ SLe x (toSh s))
theorem ofSh_toSh (s : Shp) : ofSh (toSh s) = s := by
  have h : toSh (ofSh (toSh s)) = toSh s ∨ ((¬ ∃ t, toSh t = toSh s) ∧ ShB (ofSh (toSh s)) ∧ SLe (toSh s) (toSh (ofSh (toSh s)))) := Classical.epsilon_spec (p := fun t => toSh t = toSh s ∨ ((¬ ∃ u, toSh u = toSh s) ∧ ShB t ∧ SLe (toSh s) (toSh t))) ⟨s, .inl rfl⟩
  rcases h with h | h
  · exact toSh_inj _ _ h
  · exact absurd ⟨s, rfl⟩ h.1
/-- a shape of which nothing is too long -/
def PdS (x : Sh) : Prop := ShB (ofSh x) ∧ SLe x (toSh (ofSh x))
theorem PdS_mk {s : Shp} (h : ShB s) : PdS (toSh s) := by unfold PdS; rw [ofSh_toSh]; exact ⟨h, SLe.refl _⟩
theorem PdS_le {x : Sh} {s : Shp} (hs : ShB s) (h : SLe x (toSh s)) : PdS x := by
  by_cases e : ∃ t, toSh t = x
  · obtain ⟨t, rfl⟩ := e
    exact PdS_mk (SLe_B h hs)
  · have q : toSh (ofSh x) = x ∨ ((¬ ∃ t, toSh t = x) ∧ ShB (ofSh x) ∧ SLe x (toSh (ofSh x))) := Classical.epsilon_spec (p := fun s => toSh s = x ∨ ((¬ ∃ t, toSh t = x) ∧ ShB s ∧ SLe x (toSh s))) ⟨s, .inr ⟨e, hs, h⟩⟩
    rcases q with q | q
    · exact absurd ⟨_, q⟩ e
    · exact q.2
theorem PdS_of {x : Sh} (h : PdS x) : ∃ add sub, ofSh x = .mk x.k x.a x.b x.c x.r x.l x.n add sub ∧ ∀ i, i < x.n → x.f i = partC (add i) (toSh (sub i)) := by
  obtain ⟨h1, h2⟩ := h
  revert h1 h2
  generalize ofSh x = s
  intro h1 h2
  cases s with
  | nil => exact h1.elim
  | mk k a b c r l n add sub =>
    obtain ⟨e1, e2, e3, e4, e5, e6, e7, e8⟩ := h2
    have e1 : x.k = k := e1
    have e2 : x.a = a := e2
    have e3 : x.b = b := e3
    have e4 : x.c = c := e4
    have e5 : x.r = r := e5
    have e6 : x.l = l := e6
    have e7 : x.n = n := e7
    subst e1; subst e2; subst e3; subst e4; subst e5; subst e6; subst e7
    exact ⟨add, sub, rfl, e8⟩
def lSelf (l : Ctr) : Prop := ctrSelf l
/-- types that show slices -/
def dtyS (t : TypeId) : Bool := dtyP t || Nat.beq t 31 || Nat.beq t 29 || Nat.beq t 50
end Go.Proofs.Ytddgibadiadccaa

/-! ## Ctt -/
namespace Go.Proofs.Ytddgibadiadccaa
open Go Go.RowKit Sym

inductive Pln where
  | lf
  | it (p q : Pln)
  | tt (p : Pln)
  | ff (p : Pln)
def cutP : Dyn.RO → Pln → Option Dyn.RO
  | .side ps x, p => match cutP x p with
    | some x' => some (.side ps x')
    | none => none
  | .leaf r, .lf => some (.leaf r)
  | .ite b x y, .it p q => match cutP x p, cutP y q with
    | some x', some y' => some (.ite b x' y')
    | _, _ => none
  | .ite b x y, .tt p => match b with
    | true => cutP x p
    | false => none
  | .ite b x y, .ff p => match b with
    | true => none
    | false => cutP y p
  | _, _ => none
theorem cutP_sat {Q : Dyn.RV → Prop} : ∀ {o : Dyn.RO} {p : Pln} {o' : Dyn.RO}, cutP o p = some o' → o'.sat Q → o.sat Q := by
  intro o
  induction o with
  | leaf r =>
    intro p o' h k
    cases p <;> simp only [cutP, Option.some.injEq, reduceCtorEq] at h
    subst h; exact k
  | fail => intro p o' h k; simp only [cutP, reduceCtorEq] at h
  | side ps x ih =>
    intro p o' h k
    simp only [cutP] at h
    split at h
    · rename_i x' hx
      simp only [Option.some.injEq] at h; subst h
      exact ⟨k.1, ih hx k.2⟩
    · cases h
  | ite b x y ihx ihy =>
    intro p o' h k
    cases p with
    | lf => simp only [cutP, reduceCtorEq] at h
    | it p q =>
      simp only [cutP] at h
      split at h
      · rename_i x' y' hx hy
        simp only [Option.some.injEq] at h; subst h
        exact ⟨fun hb => ihx hx (k.1 hb), fun hb => ihy hy (k.2 hb)⟩
      · cases h
    | tt p =>
      cases b with
      | true => exact ⟨fun _ => ihx h k, fun e => (by cases e)⟩
      | false => cases h
    | ff p =>
      cases b with
      | true => cases h
      | false => exact ⟨fun e => (by cases e), fun _ => ihy h k⟩
/-- a contract of which some branches are dead -/
theorem dcontractC {P : Program} {X : Dyn.Tabs} {lp : Dyn.Lp} (ht : Dyn.TabsOk P X) (hm : P.follows .mixedOrders = true) {K : Nat} {fn : Func} (hf : P.funcs[K]? = some fn) (hn : (fn.name == "runtime.NumGoroutine") = false) {c : Code} (hb : fn.body = some c) (hl : ∀ w0 : Dyn.Base P, Dyn.LpOk P w0 lp (blocksL c)) {fuel : Nat} {args : List Dyn.DV} {r : Dyn.RV} (p : Pln) (o' : Dyn.RO)
    (hp : Dyn.pOks args = true) (hO : cutP ((Dyn.dfun P X lp fuel fn args).ro P fn.results) p = some o') (hs : o'.sat fun r' => Dyn.RVLe r' r) : Dyn.CallD P K args r :=
  Dyn.dcontract (fuel := fuel) ht hm hf hn hb hl hp rfl (cutP_sat hO hs)
theorem leafR {r r' : Dyn.RV} (h : r = r') : (Dyn.RO.leaf r).sat (fun q => Dyn.RVLe q r') := by subst h; exact Dyn.RVLe.refl _
end Go.Proofs.Ytddgibadiadccaa

/-! ## Apa -/
namespace Go.Proofs.Ytddgibadiadccaa
open Go Go.RowKit Sym
set_option maxRecDepth 100000

def dOk (n : Int) : Bool := andB (decide (n > -1000000000000)) (decide (n < 1000000000000))
def gPer (u : Int) : Int := bif u == 1 then 10 else bif u == 2 then 254 else 0
def gNo (n u : Int) : Bool := bif !(dOk n) then true else gPer u == 0
def gFar (n u : Int) : Bool := bif decide (W (n * gPer u) < -536870912) then true else decide (W (n * gPer u) > 536870912)
def gV (n u : Int) : Int := bif gNo n u then 0 else bif gFar n u then 0 else W (n * gPer u)
def gB (n u : Int) : Bool := bif gNo n u then false else bif gFar n u then false else true
theorem dOk_ok (n : Int) : CallOk Try.prog 22 [vi n] (vb (dOk n)) := fnOk (fuel := 16) (tbOf_ok tbA_ok) mo Try.func22 (by kernel_rfl) (by kernel_rfl) (by kernel_rfl) (by kernel_rfl)
theorem gPer_ok (u : Int) : CallOk Try.prog 21 [vi u] (vi (gPer u)) := fnOk (fuel := 16) (tbOf_ok tbA_ok) mo Try.func21 (by kernel_rfl) (by kernel_rfl) (by kernel_rfl) (by kernel_rfl)
def tbG : List Entry := (22, en1 dI fun n => vb (dOk n)) :: (21, en1 dI fun n => vi (gPer n)) :: tbF
theorem tbG_ok : ∀ e ∈ tbG, EntryOk Try.prog e := List.forall_mem_cons.2 ⟨en1_ok dI_eq dOk_ok, List.forall_mem_cons.2 ⟨en1_ok dI_eq gPer_ok, tbF_ok⟩⟩
theorem grain_ok (n u : Int) : CallOk Try.prog 12 [vi n, vi u] (.tuple ⟨[vi (gV n u), vb (gB n u)]⟩) := fnOk (fuel := 16) (tbOf_ok tbG_ok) mo Try.func12 (by kernel_rfl) (by kernel_rfl) (by kernel_rfl) (by kernel_rfl)
def tbH : List Entry := (12, en2 dI dI fun n u => .tuple ⟨[vi (gV n u), vb (gB n u)]⟩) :: tbF
theorem tbH_ok : ∀ e ∈ tbH, EntryOk Try.prog e := List.forall_mem_cons.2 ⟨en2_ok dI_eq dI_eq grain_ok, tbF_ok⟩

/-! ### shapes as they are written -/
structure ShD where
  k : Int := 0
  a : P2 := ⟨0, 0⟩
  b : P2 := ⟨0, 0⟩
  c : P2 := ⟨0, 0⟩
  r : Int := 0
  ln : Nat := 0
  lf : Nat → List Dyn.DC := fun _ => []
  qn : Nat := 0
  qf : Nat → List Dyn.DC := fun _ => []
def cD (s : ShD) : List Dyn.DC := [cI s.k, cI s.a.x, cI s.a.y, cI s.b.x, cI s.b.y, cI s.c.x, cI s.c.y, cI s.r, .row s.ln s.lf, .row s.qn s.qf]
def dvD (s : ShD) : Dyn.DV := .agg (cD s)
def circD (r : Int) : ShD := { k := bif r == 0 then 6 else 1, r := bif r == 0 then 0 else r }
def rectL (w h : Int) : Nat → List Dyn.DC := (Dyn.pickL 0 [[.row 4 (Dyn.pickL 0 [[cI (W (0 - w)), cI (W (0 - h))], [cI w, cI (W (0 - h))], [cI w, cI h], [cI (W (0 - w)), cI h]])]])
def rectD (w h : Int) : ShD := { k := 2, ln := 1, lf := rectL w h }
def obrD (w h : Int) : ShD := { k := bif decide (w > h) then 3 else bif decide (h > w) then 3 else 1, a := ⟨bif decide (w > h) then W (h - w) else bif decide (h > w) then 0 else 0, bif decide (w > h) then 0 else bif decide (h > w) then W (w - h) else 0⟩, b := ⟨bif decide (w > h) then W (w - h) else bif decide (h > w) then 0 else 0, bif decide (w > h) then 0 else bif decide (h > w) then W (h - w) else 0⟩, r := bif decide (w > h) then h else bif decide (h > w) then w else w }
noncomputable def tabI : Dyn.Tabs := Dyn.tabs tbF [] noD dtyS
theorem tabI_ok : Dyn.TabsOk Try.prog tabI := Dyn.tabs_ok tbF_ok (fun _ h => by cases h)
theorem circ_ok2 (r : Int) : Dyn.CallD Try.prog 13 [dvI r] (.val (dvD (circD r))) :=
  Dyn.dcontract (lp := Dyn.noLp) (fuel := 3) tabI_ok mo Try.func13 (by kernel_rfl) (c := bodyD Try.f13.body) (by kernel_rfl) (fun w0 => Dyn.noLp_ok _ w0) (by kernel_rfl)
    (O := .ite (r == 0) (.leaf (.val (dvD { k := 6 }))) (.leaf (.val (dvD { k := 1, r := r })))) (by kernel_rfl) ⟨fun h => by unfold circD; rw [h]; exact leafR rfl, fun h => by unfold circD; rw [h]; exact leafR rfl⟩
theorem rect_ok (w h : Int) : Dyn.CallD Try.prog 14 [dvI w, dvI h] (.val (dvD (rectD w h))) :=
  Dyn.dcontract (lp := Dyn.noLp) (fuel := 3) tabI_ok mo Try.func14 (by kernel_rfl) (c := bodyD Try.f14.body) (by kernel_rfl) (fun w0 => Dyn.noLp_ok _ w0) (by kernel_rfl)
    (O := .leaf (.val (dvD (rectD w h)))) (by kernel_rfl) (leafR rfl)
theorem obr_ok (w h : Int) : Dyn.CallD Try.prog 15 [dvI w, dvI h] (.val (dvD (obrD w h))) :=
  Dyn.dcontract (lp := Dyn.noLp) (fuel := 3) tabI_ok mo Try.func15 (by kernel_rfl) (c := bodyD Try.f15.body) (by kernel_rfl) (fun w0 => Dyn.noLp_ok _ w0) (by kernel_rfl)
    (O := .ite (decide (w > h)) (.leaf (.val (dvD { k := 3, a := ⟨W (h - w), 0⟩, b := ⟨W (w - h), 0⟩, r := h }))) (.ite (decide (h > w)) (.leaf (.val (dvD { k := 3, a := ⟨0, W (w - h)⟩, b := ⟨0, W (h - w)⟩, r := w }))) (.leaf (.val (dvD { k := 1, r := w }))))) (by kernel_rfl)
    ⟨fun h => by unfold obrD; rw [h]; exact leafR rfl, fun h => ⟨fun h2 => by unfold obrD; rw [h, h2]; exact leafR rfl, fun h2 => by unfold obrD; rw [h, h2]; exact leafR rfl⟩⟩
/-- an aperture, an error -/
def dvAp (s : ShD) (R e : Int) : Dyn.RV := .tup [.agg (cD s ++ [cI R]), dvI e]
def dvSt (s : ByteArray) : Dyn.DV := .one (.p (.string s))
def dvN (n : Nat) (f : Nat → List Dyn.DC) : Dyn.DV := .one (.row n f)
def nilF (_ : Nat) : List Dyn.DC := []
def mF (_ : Nat) : List Dyn.DC := [.p (.string ⟨#[]⟩), .row 0 nilF]
/-- no macros: nothing is defined -/
theorem def_ok (s : ByteArray) (n : Nat) (f : Nat → List Dyn.DC) (u : Int) (g : Nat → List Dyn.DC) : Dyn.CallD Try.prog 11 [dvSt s, dvN n f, dvI u, dvN 0 g] (dvAp {} 0 4) :=
  CallD_le (args := [dvSt s, dvN n f, dvI u, dvN 0 mF]) ⟨rfl, ⟨rfl, fun _ _ => rfl⟩, rfl, ⟨rfl, fun i hi => absurd hi (Nat.not_lt_zero i)⟩, trivial⟩
  (dcontractC (lp := Dyn.noLp) (fuel := 2) tabI_ok mo Try.func11 (by kernel_rfl) (c := bodyD Try.f11.body) (by kernel_rfl) (fun w0 => Dyn.noLp_ok _ w0) (.ff (.tt .lf))
    (.side [some (decide (W (((0 : Nat) : Int) - 1) ≥ 0)) = some true ∧ True → allP [0 ≤ W (((0 : Nat) : Int) - 1) ∧ W (((0 : Nat) : Int) - 1) < ((0 : Nat) : Int)]] (.leaf (dvAp {} 0 4))) rfl (by kernel_rfl) ⟨⟨fun h => absurd h.1 (by decide), trivial⟩, leafR rfl⟩)
end Go.Proofs.Ytddgibadiadccaa

/-! ## Apb -/
namespace Go.Proofs.Ytddgibadiadccaa
open Go Go.RowKit Sym
set_option maxRecDepth 100000

def enDf : Dyn.EntryD := (11, fun args => match args with
  | [.one (.p (.string s)), .one (.row n f), .one (.p (.int .i64 u)), .one (.row 0 g)] => some (dvAp {} 0 4, [])
  | _ => none)
theorem enDf_ok : Dyn.EntryDOk Try.prog enDf := fun args r ps h hp => by
  unfold enDf at h
  dsimp only at h
  split at h
  · simp only [Option.some.injEq, Prod.mk.injEq] at h
    obtain ⟨rfl, rfl⟩ := h
    exact def_ok _ _ _ _ _
  · cases h
def tdMk : List Dyn.EntryD := [enDf, (13, en1D qI fun r => .val (dvD (circD r))), (14, en2D qI qI fun w h => .val (dvD (rectD w h))), (15, en2D qI qI fun w h => .val (dvD (obrD w h)))]
def drMk (K : Nat) : Bool := Nat.beq K 11 || Nat.beq K 13 || Nat.beq K 14 || Nat.beq K 15
noncomputable def tabMk : Dyn.Tabs := Dyn.tabs tbH tdMk drMk dtyS
theorem tabMk_ok : Dyn.TabsOk Try.prog tabMk := Dyn.tabs_ok tbH_ok (List.forall_mem_cons.2 ⟨enDf_ok, List.forall_mem_cons.2 ⟨en1D_ok qI_ok fun r _ => circ_ok2 r, List.forall_mem_cons.2 ⟨en2D_ok qI_ok qI_ok fun w h _ _ => rect_ok w h, List.forall_mem_cons.2 ⟨en2D_ok qI_ok qI_ok fun w h _ _ => obr_ok w h, fun _ h => by cases h⟩⟩⟩⟩)
def cf (v : Nat → Int) : Nat → List Dyn.DC := fun i => [cI (v i)]
end Go.Proofs.Ytddgibadiadccaa

/-! ## Apc -/
namespace Go.Proofs.Ytddgibadiadccaa
open Go Go.RowKit Sym
set_option maxRecDepth 100000

structure ApR where
  s : ShD := {}
  R : Int := 0
  e : Int := 0
def dvR (x : ApR) : Dyn.RV := dvAp x.s x.R x.e
def erA (e : Int) : ApR := { e := e }
def hF (x u : Int) : Int := W ((gV x u).tdiv 2)
def c2F (sd i x u : Int) : Bool := bif decide (gV x u < 0) then true else bif bif gV x u == 0 then sd == 2 else false then decide (i < sd) else false
def c3F (x u : Int) : Bool := (gV x u).tmod 2 != 0
def mkG (sd i x u : Int) (k : ApR) : ApR := bif !(gB x u) then erA 5 else bif c2F sd i x u then erA 4 else bif c3F x u then erA 7 else k
def erO (e : Int) : Dyn.RO := .leaf (dvR (erA e))
def stp (n : Nat) (sd i x u : Int) (k : Dyn.RO) : Dyn.RO := .side [0 ≤ i ∧ i < (n : Int)] (.ite (!(gB x u)) (erO 5) (.ite (c2F sd i x u) (erO 4) (.ite (c3F x u) (erO 7) k)))
theorem stp_sat {n : Nat} {sd i x u : Int} {k : Dyn.RO} {K : ApR} (hi : 0 ≤ i ∧ i < (n : Int)) (h : k.sat fun r => Dyn.RVLe r (dvR K)) : (stp n sd i x u k).sat fun r => Dyn.RVLe r (dvR (mkG sd i x u K)) := by
  unfold stp mkG erO
  refine ⟨⟨hi, trivial⟩, ⟨fun h1 => ?_, fun h1 => ⟨fun h2 => ?_, fun h2 => ⟨fun h3 => ?_, fun h3 => ?_⟩⟩⟩⟩
  · rw [h1]; exact leafR rfl
  · rw [h1, h2]; exact leafR rfl
  · rw [h1, h2, h3]; exact leafR rfl
  · rw [h1, h2, h3]; exact h
def holeD (s : ShD) (hole : Int) : ShD := { k := 6, qn := 2, qf := Dyn.pickL 0 [cB true :: cD s, cB false :: cD { k := 1, r := hole }] }
def hol (s : ShD) (hole : Int) : ShD := bif decide (hole > 0) then holeD s hole else s
def holO (s : ShD) (hole R : Int) : Dyn.RO := .ite (decide (hole > 0)) (.leaf (dvAp (holeD s hole) R 0)) (.leaf (dvAp s R 0))
theorem hol_sat (s : ShD) (hole R : Int) : (holO s hole R).sat fun r => Dyn.RVLe r (dvR ⟨hol s hole, R, 0⟩) := by
  unfold holO hol
  exact ⟨fun h => by rw [h]; exact leafR rfl, fun h => by rw [h]; exact leafR rfl⟩
def sC : ByteArray := ⟨#[67]⟩
def sR : ByteArray := ⟨#[82]⟩
def sO : ByteArray := ⟨#[79]⟩
def mC1 (v : Nat → Int) (u : Int) : ApR := mkG 1 0 (v 0) u ⟨circD (hF (v 0) u), hF (v 0) u, 0⟩
def mC2 (v : Nat → Int) (u : Int) : ApR := mkG 1 0 (v 0) u (mkG 1 1 (v 1) u ⟨hol (circD (hF (v 0) u)) (hF (v 1) u), bif hF (v 1) u == 0 then hF (v 0) u else 0, 0⟩)
def m2 (g : Int → Int → ShD) (v : Nat → Int) (u : Int) : ApR := mkG 2 0 (v 0) u (mkG 2 1 (v 1) u ⟨g (hF (v 0) u) (hF (v 1) u), 0, 0⟩)
def m3 (g : Int → Int → ShD) (v : Nat → Int) (u : Int) : ApR := mkG 2 0 (v 0) u (mkG 2 1 (v 1) u (mkG 2 2 (v 2) u ⟨hol (g (hF (v 0) u) (hF (v 1) u)) (hF (v 2) u), 0, 0⟩))
def erP (p : Pln) : Pln := .it .lf (.it .lf (.it .lf p))
def MkIs (s : ByteArray) (n : Nat) (v : Nat → Int) (u : Int) (x : ApR) : Prop := Dyn.CallD Try.prog 5 [dvSt s, dvN n (cf v), dvI u, dvN 0 nilF] (dvR x)
theorem mk_bad (s : ByteArray) (n : Nat) (v : Nat → Int) (u : Int) (p : Pln) (h : cutP ((Dyn.dfun Try.prog tabMk Dyn.noLp 3 Try.f5 [dvSt s, dvN n (cf v), dvI u, dvN 0 nilF]).ro Try.prog Try.f5.results) p = some (.leaf (dvAp {} 0 4))) : MkIs s n v u (erA 4) :=
  dcontractC (lp := Dyn.noLp) (fuel := 3) tabMk_ok mo Try.func5 (by kernel_rfl) (c := bodyD Try.f5.body) (by kernel_rfl) (fun w0 => Dyn.noLp_ok _ w0) p (.leaf (dvAp {} 0 4)) rfl h (leafR rfl)
theorem mk_C0 (v : Nat → Int) (u : Int) : MkIs sC 0 v u (erA 4) := mk_bad sC 0 v u (.tt (.tt .lf)) (by kernel_rfl)
theorem mk_C3 (v : Nat → Int) (u : Int) : MkIs sC 3 v u (erA 4) := mk_bad sC 3 v u (.tt (.tt .lf)) (by kernel_rfl)
theorem mk_C4 (v : Nat → Int) (u : Int) : MkIs sC 4 v u (erA 4) := mk_bad sC 4 v u (.tt (.tt .lf)) (by kernel_rfl)
theorem mk_R0 (v : Nat → Int) (u : Int) : MkIs sR 0 v u (erA 4) := mk_bad sR 0 v u (.ff (.tt (.tt .lf))) (by kernel_rfl)
theorem mk_R1 (v : Nat → Int) (u : Int) : MkIs sR 1 v u (erA 4) := mk_bad sR 1 v u (.ff (.tt (.tt .lf))) (by kernel_rfl)
theorem mk_R4 (v : Nat → Int) (u : Int) : MkIs sR 4 v u (erA 4) := mk_bad sR 4 v u (.ff (.tt (.tt .lf))) (by kernel_rfl)
theorem mk_O0 (v : Nat → Int) (u : Int) : MkIs sO 0 v u (erA 4) := mk_bad sO 0 v u (.ff (.tt (.tt .lf))) (by kernel_rfl)
theorem mk_O1 (v : Nat → Int) (u : Int) : MkIs sO 1 v u (erA 4) := mk_bad sO 1 v u (.ff (.tt (.tt .lf))) (by kernel_rfl)
theorem mk_O4 (v : Nat → Int) (u : Int) : MkIs sO 4 v u (erA 4) := mk_bad sO 4 v u (.ff (.tt (.tt .lf))) (by kernel_rfl)
theorem mk_c (n : Nat) (v : Nat → Int) (u : Int) : MkIs ⟨#[99]⟩ n v u (erA 4) := mk_bad ⟨#[99]⟩ n v u (.ff (.ff .lf)) (by kernel_rfl)
theorem mk_X (n : Nat) (v : Nat → Int) (u : Int) : MkIs ⟨#[88]⟩ n v u (erA 4) := mk_bad ⟨#[88]⟩ n v u (.ff (.ff .lf)) (by kernel_rfl)
theorem mk_e (n : Nat) (v : Nat → Int) (u : Int) : MkIs ⟨#[]⟩ n v u (erA 4) := mk_bad ⟨#[]⟩ n v u (.ff (.ff .lf)) (by kernel_rfl)
theorem mk_C1 (v : Nat → Int) (u : Int) : Dyn.CallD Try.prog 5 [dvSt sC, dvN 1 (cf v), dvI u, dvN 0 nilF] (dvR (mC1 v u)) :=
  dcontractC (lp := Dyn.noLp) (fuel := 3) tabMk_ok mo Try.func5 (by kernel_rfl) (c := bodyD Try.f5.body) (by kernel_rfl) (fun w0 => Dyn.noLp_ok _ w0) (.tt (.ff (.tt (erP (.ff (.tt (.tt (.ff .lf))))))))
    (stp 1 1 0 (v 0) u (.leaf (dvAp (circD (hF (v 0) u)) (hF (v 0) u) 0))) rfl (by kernel_rfl) (stp_sat (by decide) (leafR rfl))
theorem mk_C2 (v : Nat → Int) (u : Int) : Dyn.CallD Try.prog 5 [dvSt sC, dvN 2 (cf v), dvI u, dvN 0 nilF] (dvR (mC2 v u)) :=
  dcontractC (lp := Dyn.noLp) (fuel := 4) tabMk_ok mo Try.func5 (by kernel_rfl) (c := bodyD Try.f5.body) (by kernel_rfl) (fun w0 => Dyn.noLp_ok _ w0) (.tt (.ff (.tt (erP (.tt (erP (.ff (.tt (.it (.it .lf .lf) (.it .lf .lf))))))))))
    (stp 2 1 0 (v 0) u (stp 2 1 1 (v 1) u (.ite (hF (v 1) u == 0) (holO (circD (hF (v 0) u)) (hF (v 1) u) (hF (v 0) u)) (holO (circD (hF (v 0) u)) (hF (v 1) u) 0)))) rfl (by kernel_rfl)
    (stp_sat (by decide) (stp_sat (by decide) ⟨fun h => by rw [h]; exact hol_sat _ _ _, fun h => by rw [h]; exact hol_sat _ _ _⟩))
theorem mk_R2 (v : Nat → Int) (u : Int) : Dyn.CallD Try.prog 5 [dvSt sR, dvN 2 (cf v), dvI u, dvN 0 nilF] (dvR (m2 rectD v u)) :=
  dcontractC (lp := Dyn.noLp) (fuel := 4) tabMk_ok mo Try.func5 (by kernel_rfl) (c := bodyD Try.f5.body) (by kernel_rfl) (fun w0 => Dyn.noLp_ok _ w0) (.ff (.tt (.ff (.tt (erP (.tt (erP (.ff (.ff (.tt (.ff .lf)))))))))))
    (stp 2 2 0 (v 0) u (stp 2 2 1 (v 1) u (.leaf (dvAp (rectD (hF (v 0) u) (hF (v 1) u)) 0 0)))) rfl (by kernel_rfl) (stp_sat (by decide) (stp_sat (by decide) (leafR rfl)))
theorem mk_R3 (v : Nat → Int) (u : Int) : Dyn.CallD Try.prog 5 [dvSt sR, dvN 3 (cf v), dvI u, dvN 0 nilF] (dvR (m3 rectD v u)) :=
  dcontractC (lp := Dyn.noLp) (fuel := 5) tabMk_ok mo Try.func5 (by kernel_rfl) (c := bodyD Try.f5.body) (by kernel_rfl) (fun w0 => Dyn.noLp_ok _ w0) (.ff (.tt (.ff (.tt (erP (.tt (erP (.tt (erP (.ff (.ff (.tt (.it .lf .lf)))))))))))))
    (stp 3 2 0 (v 0) u (stp 3 2 1 (v 1) u (stp 3 2 2 (v 2) u (holO (rectD (hF (v 0) u) (hF (v 1) u)) (hF (v 2) u) 0)))) rfl (by kernel_rfl) (stp_sat (by decide) (stp_sat (by decide) (stp_sat (by decide) (hol_sat _ _ _))))
theorem mk_O2 (v : Nat → Int) (u : Int) : Dyn.CallD Try.prog 5 [dvSt sO, dvN 2 (cf v), dvI u, dvN 0 nilF] (dvR (m2 obrD v u)) :=
  dcontractC (lp := Dyn.noLp) (fuel := 4) tabMk_ok mo Try.func5 (by kernel_rfl) (c := bodyD Try.f5.body) (by kernel_rfl) (fun w0 => Dyn.noLp_ok _ w0) (.ff (.tt (.ff (.tt (erP (.tt (erP (.ff (.ff (.ff (.tt (.ff .lf))))))))))))
    (stp 2 2 0 (v 0) u (stp 2 2 1 (v 1) u (.leaf (dvAp (obrD (hF (v 0) u) (hF (v 1) u)) 0 0)))) rfl (by kernel_rfl) (stp_sat (by decide) (stp_sat (by decide) (leafR rfl)))
theorem mk_O3 (v : Nat → Int) (u : Int) : Dyn.CallD Try.prog 5 [dvSt sO, dvN 3 (cf v), dvI u, dvN 0 nilF] (dvR (m3 obrD v u)) :=
  dcontractC (lp := Dyn.noLp) (fuel := 5) tabMk_ok mo Try.func5 (by kernel_rfl) (c := bodyD Try.f5.body) (by kernel_rfl) (fun w0 => Dyn.noLp_ok _ w0) (.ff (.tt (.ff (.tt (erP (.tt (erP (.tt (erP (.ff (.ff (.ff (.tt (.it .lf .lf))))))))))))))
    (stp 3 2 0 (v 0) u (stp 3 2 1 (v 1) u (stp 3 2 2 (v 2) u (holO (obrD (hF (v 0) u) (hF (v 1) u)) (hF (v 2) u) 0)))) rfl (by kernel_rfl) (stp_sat (by decide) (stp_sat (by decide) (stp_sat (by decide) (hol_sat _ _ _))))
end Go.Proofs.Ytddgibadiadccaa

/-! ## Apd -/
namespace Go.Proofs.Ytddgibadiadccaa
open Go Go.RowKit Sym
set_option maxRecDepth 100000

def makeM (s : ByteArray) (n : Nat) (v : Nat → Int) (u : Int) : ApR :=
  if s = sC then (match n with
    | 1 => mC1 v u
    | 2 => mC2 v u
    | _ => erA 4)
  else if s = sR then (match n with
    | 2 => m2 rectD v u
    | 3 => m3 rectD v u
    | _ => erA 4)
  else if s = sO then (match n with
    | 2 => m2 obrD v u
    | 3 => m3 obrD v u
    | _ => erA 4)
  else erA 4
def Good (s : ByteArray) (n : Nat) : Prop := (s = sC ∨ s = sR ∨ s = sO ∨ s = ⟨#[99]⟩ ∨ s = ⟨#[88]⟩ ∨ s = ⟨#[]⟩) ∧ n ≤ 4
theorem make_ok {s : ByteArray} {n : Nat} (h : Good s n) (v : Nat → Int) (u : Int) : MkIs s n v u (makeM s n v u) := by
  obtain ⟨hs, hn⟩ := h
  unfold makeM
  rcases hs with rfl | rfl | rfl | rfl | rfl | rfl
  · rw [if_pos rfl]
    match n, hn with
    | 0, _ => exact mk_C0 v u
    | 1, _ => exact mk_C1 v u
    | 2, _ => exact mk_C2 v u
    | 3, _ => exact mk_C3 v u
    | 4, _ => exact mk_C4 v u
  · rw [if_neg (by decide), if_pos rfl]
    match n, hn with
    | 0, _ => exact mk_R0 v u
    | 1, _ => exact mk_R1 v u
    | 2, _ => exact mk_R2 v u
    | 3, _ => exact mk_R3 v u
    | 4, _ => exact mk_R4 v u
  · rw [if_neg (by decide), if_neg (by decide), if_pos rfl]
    match n, hn with
    | 0, _ => exact mk_O0 v u
    | 1, _ => exact mk_O1 v u
    | 2, _ => exact mk_O2 v u
    | 3, _ => exact mk_O3 v u
    | 4, _ => exact mk_O4 v u
  · rw [if_neg (by decide), if_neg (by decide), if_neg (by decide)]; exact mk_c n v u
  · rw [if_neg (by decide), if_neg (by decide), if_neg (by decide)]; exact mk_X n v u
  · rw [if_neg (by decide), if_neg (by decide), if_neg (by decide)]; exact mk_e n v u
def iF (f : Nat → List Dyn.DC) (i : Nat) : Int := match f i with
  | [.p (.int _ x)] => x
  | _ => 0
def IsN (n : Nat) (f : Nat → List Dyn.DC) : Prop := ∀ i, i < n → f i = [cI (iF f i)]
def enMk : Dyn.EntryD := (5, fun args => match args with
  | [.one (.p (.string s)), .one (.row n f), .one (.p (.int .i64 u)), .one (.row 0 _)] => some (dvR (makeM s n (iF f) u), [Good s n, IsN n f])
  | _ => none)
theorem enMk_ok : Dyn.EntryDOk Try.prog enMk := fun args r ps h hp => by
  unfold enMk at h
  dsimp only at h
  split at h
  · rename_i s n f u g
    simp only [Option.some.injEq, Prod.mk.injEq] at h
    obtain ⟨rfl, rfl⟩ := h
    obtain ⟨h1, h2, -⟩ := hp
    exact CallD_le (args := [dvSt s, dvN n (cf (iF f)), dvI u, dvN 0 nilF]) ⟨rfl, ⟨rfl, fun i hi => h2 i hi⟩, rfl, ⟨rfl, fun i hi => absurd hi (Nat.not_lt_zero i)⟩, trivial⟩ (make_ok h1 (iF f) u)
  · cases h
def drAw (K : Nat) : Bool := Nat.beq K 5
noncomputable def tabAp : Dyn.Tabs := Dyn.tabs tbF [enMk] drAw dtyS
theorem tabAp_ok : Dyn.TabsOk Try.prog tabAp := Dyn.tabs_ok tbF_ok (List.forall_mem_cons.2 ⟨enMk_ok, fun _ h => by cases h⟩)
end Go.Proofs.Ytddgibadiadccaa

/-! ## Ape -/
namespace Go.Proofs.Ytddgibadiadccaa
open Go Go.RowKit Sym
set_option maxRecDepth 100000

def rwN (l : List Int) : Nat → List Dyn.DC := Dyn.pickL 0 (l.map fun x => [cI x])
noncomputable def awX : ApR := makeM sC 1 (iF (rwN [1000000])) 1
noncomputable def awY : ApR := makeM sR 3 (iF (rwN [1000000, 500000, 200000])) 1
noncomputable def awZ : ApR := makeM ⟨#[88]⟩ 0 (iF fun _ => []) 1
noncomputable def aw17V : Bool := bif bif bif bif bif bif awX.e == 0 then awX.R == 5000000 else false then awX.s.k == 1 else false then awY.e == 0 else false then awY.R == 0 else false then awY.s.k == 6 else false then awZ.e == 4 else false
theorem aw17_O : (Dyn.dfun Try.prog tabAp Dyn.noLp 3 Try.f6 []).ro Try.prog Try.f6.results = .side [Good sC 1, IsN 1 (rwN [1000000])] (.side [Good sR 3, IsN 3 (rwN [1000000, 500000, 200000])] (.side [Good ⟨#[88]⟩ 0, IsN 0 fun _ => []] (.leaf (rB aw17V)))) := by kernel_rfl
theorem aw17_true : aw17V = true := by decide +kernel
theorem awake17 : Dyn.CallD Try.prog 6 [] (rB true) :=
  Dyn.dcontract (lp := Dyn.noLp) (fuel := 3) tabAp_ok mo Try.func6 (by kernel_rfl) (c := bodyD Try.f6.body) (by kernel_rfl) (fun w0 => Dyn.noLp_ok _ w0) (by kernel_rfl) aw17_O (by
    refine ⟨⟨⟨.inl rfl, by decide⟩, fun i hi => ?_, trivial⟩, ⟨⟨.inr (.inl rfl), by decide⟩, fun i hi => ?_, trivial⟩, ⟨⟨.inr (.inr (.inr (.inr (.inl rfl)))), by decide⟩, fun i hi => absurd hi (Nat.not_lt_zero i), trivial⟩, ?_⟩
    · match i, hi with
      | 0, _ => rfl
    · match i, hi with
      | 0, _ => rfl
      | 1, _ => rfl
      | 2, _ => rfl
    · rw [aw17_true]; exact leafR rfl)
end Go.Proofs.Ytddgibadiadccaa

/-! ## Shb -/
namespace Go.Proofs.Ytddgibadiadccaa
open Go Go.RowKit Sym
set_option maxRecDepth 100000

def tabF0 : Dyn.Tabs := Dyn.tabs tbF [] noD noD
theorem tabF0_ok : Dyn.TabsOk Try.prog tabF0 := Dyn.tabs_ok tbF_ok (fun _ h => by cases h)
def tabF1 : Dyn.Tabs := Dyn.tabs tbF [] noD dtyS
theorem tabF1_ok : Dyn.TabsOk Try.prog tabF1 := Dyn.tabs_ok tbF_ok (fun _ h => by cases h)
/-! ### bare -/
def zeP (p : P2) : Bool := bif p.x == 0 then bif p.y == 0 then true else false else false
def bareF (s : Sh) : Bool :=
  bif bif bif s.k != 2 then decide ((s.l.n : Int) > 0) else false then true else bif s.k != 6 then decide ((s.n : Int) > 0) else false then false
  else bif s.k == 1 then bif zeP s.b then zeP s.c else false
  else bif bif s.k == 3 then s.k == 3 else s.k == 4 then zeP s.c
  else bif bif s.k == 2 then s.k == 2 else s.k == 6 then bif bif bif zeP s.a then zeP s.b else false then zeP s.c else false then s.r == 0 else false
  else true
theorem bare_ok (s : Sh) : Dyn.CallD Try.prog 23 [dvS s] (rB (bareF s)) :=
  Dyn.dcontractV (lp := Dyn.noLp) (fuel := 3) (X := tabF0) tabF0_ok mo Try.func23 (by kernel_rfl) (c := bodyD Try.f23.body) (by kernel_rfl) (fun w0 => Dyn.noLp_ok _ w0) (by kernel_rfl) (by kernel_rfl) (show _ = [] by kernel_rfl) trivial
/-! ### contours -/
def ctgI (l : Ctr) (i : Nat) (k : Nat) (_ : Unit) : Bool × Unit := (nearF (l.p i k), ())
def ctgO (l : Ctr) (i : Nat) (left : Int) : Bool × Int :=
  bif decide ((l.m i : Int) > left) then (false, left) else ((runN (ctgI l i) () (l.m i)).1, W (left - l.m i))
def contoursF (l : Ctr) : Bool := (runN (ctgO l) 1000 l.n).1
def ctS (l : Ctr) (k : Int) (left : Int) : Dyn.St := mkS 33 [(0, sH 0 0 l.n), (2, .k (vb false)), (3, sI left), (8, sH 0 0 l.n), (9, sI l.n), (10, sI k)] [some (.deep [cCtr l])]
def ctT (l : Ctr) (k : Int) (left : Int) (j : Int) : Dyn.St := mkS 33 [(0, sH 0 0 l.n), (2, .k (vb false)), (3, sI left), (5, sH 1 0 (l.m k.toNat)), (8, sH 0 0 l.n), (9, sI l.n), (10, sI k), (22, sH 1 0 (l.m k.toNat)), (23, sI (l.m k.toNat)), (24, sI j)] [some (.deep [cCtr l]), some (.deep [cRow (l.m k.toNat) (l.p k.toNat)])]
def ctR : Dyn.St := mkS 33 [(2, .k (vb false))] []
def ctK0 : List Nat := [0, 2, 3, 8, 9, 10]
def ctK1 : List Nat := [0, 2, 3, 5, 8, 9, 10, 22, 23, 24]
def ctLp (l : Ctr) : Dyn.Lp := fun id s => match id with
  | 0 => some (.side [keepS 33 [0] ctK0 (2 ^ 3 + 2 ^ 10) s = ctS l 0 1000] (.ite (contoursF l) (.leaf .normal (ctS l l.n (runN (ctgO l) 1000 l.n).2)) (.leaf .ret ctR)))
  | 2 =>
    let k := intD (s.slots.getD 10 .junk)
    let left := intD (s.slots.getD 3 .junk)
    some (.side [keepA 33 [0] [5] ctK1 (2 ^ 24) s = ctT l k left 0, 0 ≤ k ∧ k < l.n] (.ite (runN (ctgI l k.toNat) () (l.m k.toNat)).1 (.leaf .normal (ctT l k left (l.m k.toNat))) (.leaf .ret ctR)))
  | _ => none
def ctB1 (l : Ctr) (k : Int) (left : Int) (j : Nat) : Dyn.Out :=
  .ite (decide ((j : Int) < l.m k.toNat)) (.side [0 ≤ (j : Int) ∧ (j : Int) < l.m k.toNat] (.ite (!nearF (l.p k.toNat j)) (.leaf .ret ctR) (.leaf .normal (ctT l k left (W (j + 1)))))) (.leaf (.exit 2) (ctT l k left j))
def ctB0 (l : Ctr) (k : Nat) (left : Int) : Dyn.Out :=
  .ite (decide ((k : Int) < l.n)) (.side [0 ≤ (k : Int) ∧ (k : Int) < l.n] (.ite (decide ((l.m k : Int) > left)) (.leaf .ret ctR) (.side [ctT l k (W (left - l.m k)) 0 = ctT l k (W (left - l.m k)) 0, 0 ≤ (k : Int) ∧ (k : Int) < l.n]
    (.ite (runN (ctgI l k) () (l.m k)).1 (.leaf .normal (ctS l (W (k + 1)) (W (left - l.m k)))) (.leaf .ret ctR))))) (.leaf (.exit 0) (ctS l k left))
theorem ct_B1 (l : Ctr) (k left : Int) (j : Nat) : (Dyn.lexec Try.prog tabF1 (ctLp l) 3 (unloopD (blkD Try.f26.body 2)) .leaf (ctT l k left j)).rl (keepR 33 [0] [5] ctK1 [2]) = ctB1 l k left j := by kernel_rfl
theorem ct_B0 (l : Ctr) (k : Nat) (left : Int) : (Dyn.lexec Try.prog tabF1 (ctLp l) 3 (unloopD (blkD Try.f26.body 0)) .leaf (ctS l k left)).rl (keepR 33 [0] [] ctK0 [2]) = ctB0 l k left := by kernel_rfl
theorem ct_blocks : blocksL (bodyD Try.f26.body) = [(0, .loop (unloopD (blkD Try.f26.body 0))), (1, blkD Try.f26.body 1), (2, .loop (unloopD (blkD Try.f26.body 2))), (3, blkD Try.f26.body 3)] := by kernel_rfl
theorem ct_b0 : blocksL (unloopD (blkD Try.f26.body 0)) = [(1, blkD Try.f26.body 1), (2, .loop (unloopD (blkD Try.f26.body 2))), (3, blkD Try.f26.body 3)] := by kernel_rfl
theorem ct_b2 : blocksL (unloopD (blkD Try.f26.body 2)) = [(3, blkD Try.f26.body 3)] := by kernel_rfl
theorem ct_inner (l : Ctr) (hl : CtrB l) (w0 : Dyn.Base Try.prog) (s : Dyn.St) (o : Dyn.Out) (h : ctLp l 2 s = some o) : Dyn.BlockSound Try.prog w0 2 (.loop (unloopD (blkD Try.f26.body 2))) s o := by
  simp only [ctLp, Option.some.injEq] at h
  subst h
  refine side_two fun hS hi => ?_
  revert hS hi
  generalize intD (s.slots.getD 10 .junk) = k
  generalize intD (s.slots.getD 3 .junk) = left
  intro hS hi
  have hm : l.m k.toNat ≤ 1000000000 := hl.2 _ (by omega)
  refine run_block (fuel := 3) tabF1_ok mo (lp := ctLp l) (by rw [ct_b2]; exact lpOk_cons (fun s o h => by cases h) lpOk_nil) (fun j (_ : Unit) => ctT l k left j) (l.m k.toNat) (ctgI l k.toNat) () (fun _ => ctR) (keepR 33 [0] [5] ctK1 [2]) (keepR_ent 33 _ _ _ _) (fun j _ => ctB1 l k left j) (fun j _ => ct_B1 l k left j) (fun j a hj ha => ?_) (fun a ha => ?_) (hS ▸ keepA_ent 33 _ _ _ _ s)
  · refine ⟨fun _ => ⟨⟨⟨by omega, by omega⟩, trivial⟩, fun hn => .inr ⟨rfl, ?_, Dyn.Fits.refl _⟩, fun hn => .inl ⟨rfl, ?_, ?_⟩⟩, fun hf => ?_⟩
    · simpa [ctgI] using hn
    · simpa [ctgI] using hn
    · show Dyn.Fits (ctT l k left (W (j + 1))) _
      rw [Wn1 hj hm]; exact Dyn.Fits.refl _
    · rw [decide_eq_false_iff_not] at hf; omega
  · refine ⟨fun ht => ?_, fun _ => ⟨rfl, Dyn.Fits.refl _⟩⟩
    rw [decide_eq_true_eq] at ht; omega
theorem ct_outer (l : Ctr) (hl : CtrB l) (w0 : Dyn.Base Try.prog) (s : Dyn.St) (o : Dyn.Out) (h : ctLp l 0 s = some o) : Dyn.BlockSound Try.prog w0 0 (.loop (unloopD (blkD Try.f26.body 0))) s o := by
  simp only [ctLp, Option.some.injEq] at h
  subst h
  refine side_one fun hS => ?_
  refine run_block (fuel := 3) tabF1_ok mo (lp := ctLp l) (by rw [ct_b0]; exact lpOk_cons (fun s o h => by cases h) (lpOk_cons (ct_inner l hl w0) (lpOk_cons (fun s o h => by cases h) lpOk_nil))) (fun k left => ctS l k left) l.n (ctgO l) 1000 (fun _ => ctR) (keepR 33 [0] [] ctK0 [2]) (keepR_ent 33 _ _ _ _) (fun k left => ctB0 l k left) (fun k left => ct_B0 l k left) (fun k left hk ha => ?_) (fun a ha => ?_) (hS ▸ keepS_ent 33 (by decide) _ _ s)
  · unfold ctgO
    refine ⟨fun _ => ⟨⟨⟨by omega, by omega⟩, trivial⟩, fun hn => .inr ⟨rfl, ?_, Dyn.Fits.refl _⟩, fun hn => ⟨⟨rfl, ⟨by omega, by omega⟩, trivial⟩, fun hx => .inl ⟨rfl, ?_, ?_⟩, fun hx => .inr ⟨rfl, ?_, Dyn.Fits.refl _⟩⟩⟩, fun hf => ?_⟩
    · rw [hn]; rfl
    · rw [hn]; exact hx
    · rw [hn]
      show Dyn.Fits (ctS l (W (k + 1)) _) _
      rw [Wn1 hk hl.1]; exact Dyn.Fits.refl _
    · rw [hn]; exact hx
    · rw [decide_eq_false_iff_not] at hf; omega
  · refine ⟨fun ht => ?_, fun _ => ⟨rfl, Dyn.Fits.refl _⟩⟩
    rw [decide_eq_true_eq] at ht; omega
theorem contours_ok (l : Ctr) (hl : CtrB l) : Dyn.CallD Try.prog 26 [dvC l] (rB (contoursF l)) := by
  have := Dyn.dcontractV (args := [dvC l]) (lp := ctLp l) (fuel := 3) (X := tabF1) (v := vb (bif contoursF l then true else false)) (l := [ctS l 0 1000 = ctS l 0 1000]) tabF1_ok mo Try.func26 (by kernel_rfl) (c := bodyD Try.f26.body) (by kernel_rfl)
    (fun w0 => by rw [ct_blocks]; exact lpOk_cons (ct_outer l hl w0) (lpOk_cons (fun s o h => by cases h) (lpOk_cons (ct_inner l hl w0) (lpOk_cons (fun s o h => by cases h) lpOk_nil))))
    (by kernel_rfl) (by kernel_rfl) (by kernel_rfl) ⟨rfl, trivial⟩
  rwa [bif_tf] at this
end Go.Proofs.Ytddgibadiadccaa

/-! ## Shc -/
namespace Go.Proofs.Ytddgibadiadccaa
open Go Go.RowKit Sym
set_option maxRecDepth 100000

/-- one level: what the fields are, the parts' shapes -/
def mkSh (k : Int) (a b c : P2) (r : Int) (l : Ctr) (n : Nat) (add : Nat → Bool) (sh : Nat → Sh) : Sh := ⟨k, a, b, c, r, l, n, fun i => partC (add i) (sh i)⟩
theorem toSh_mk (k : Int) (a b c : P2) (r : Int) (l : Ctr) (n : Nat) (add : Nat → Bool) (sub : Nat → Shp) : toSh (.mk k a b c r l n add sub) = mkSh k a b c r l n add (fun i => toSh (sub i)) := rfl
/-- valid, by what it says of parts -/
def validG (g : Sh → Int → Int → Bool × Int) (sh : Nat → Sh) (s : Sh) (forms left : Int) : Bool × Int :=
  bif decide (left < 1) then (false, left) else
  bif !(bareF s) then (false, W (left - 1)) else
  bif s.k == 1 then (andB (nearF s.a) (widF s.r), W (left - 1)) else
  bif s.k == 2 then (contoursF s.l, W (left - 1)) else
  bif s.k == 3 then (andB (andB (nearF s.a) (nearF s.b)) (widF s.r), W (left - 1)) else
  bif s.k == 4 then (andB (andB (andB (nearF s.a) (nearF s.b)) (widF s.r)) (!(bif s.a.x == s.b.x then bif s.a.y == s.b.y then true else false else false)), W (left - 1)) else
  bif s.k == 5 then (andB (andB (andB (andB (nearF s.a) (nearF s.b)) (nearF s.c)) (widF s.r)) (ringOk s.c s.a s.b), W (left - 1)) else
  bif s.k == 6 then (bif decide (forms ≥ 8) then (false, W (left - 1)) else runN (fun i lf => g (sh i) (W (forms + 1)) lf) (W (left - 1)) s.n)
  else (false, W (left - 1))
def enV (Pd : Sh → Prop) (g : Sh → Int → Int → Bool × Int) : List Dyn.LA → Dyn.Lent → Option (Value × List (List Value) × List Prop)
  | [.d u, .d v, .lp 0 0], [(t, [.int .i64 left])] => match qS u, aI v, Nat.beq t 3 with
    | some (x, ps), some forms, true => some (vb (g x forms left).1, [[vi (g x forms left).2]], Pd x :: ps)
    | _, _, _ => none
  | _, _ => none
theorem CallX_le {P : Program} {K : Nat} {u u' v v' : Dyn.DV} {l : List Dyn.LA} {lent : Dyn.Lent} {r : Value} {o : List (List Value)} (h1 : Dyn.DVLe u u') (h2 : Dyn.DVLe v v') (k : Dyn.CallX P K (.d u' :: .d v' :: l) lent r o) : Dyn.CallX P K (.d u :: .d v :: l) lent r o := fun w F bs us hF hn hd hl hden => k w F bs us hF hn hd hl (by
  cases us with
  | nil => exact hden
  | cons x us => cases us with
    | nil => exact hden.2.elim
    | cons y us => exact ⟨Dyn.DenV_le h1 hden.1, Dyn.DenV_le h2 hden.2.1, hden.2.2⟩)
def VaOk (x : Sh) (g : Sh → Int → Int → Bool × Int) : Prop := ∀ forms left, Dyn.CallX Try.prog 17 [.d (dvS x), .d (dvI forms), .lp 0 0] [(3, [vi left])] (vb (g x forms left).1) [[vi (g x forms left).2]]
theorem enV_ok {Pd : Sh → Prop} {g : Sh → Int → Int → Bool × Int} (ih : ∀ x, Pd x → VaOk x g) : Dyn.EntryXOk Try.prog (17, enV Pd g) := fun as' lent u out ps h hp => by
  dsimp only at h
  unfold enV at h
  split at h
  · rename_i t left
    split at h
    · rename_i x ps' forms hx hf ht
      have ht' := Nat.eq_of_beq_eq_true ht
      subst ht'
      simp only [Option.some.injEq, Prod.mk.injEq] at h
      obtain ⟨rfl, rfl, rfl⟩ := h
      exact CallX_le (qS_ok _ _ _ hx hp.2).1 (aI_eq hf) (ih x hp.1 forms left)
    · cases h
  · cases h
def tdV : List Dyn.EntryD := [(23, en1D qS fun s => rB (bareF s)), (26, en1D (qAnd qC CtrB) fun l => rB (contoursF l))]
theorem tdV_ok : ∀ e ∈ tdV, Dyn.EntryDOk Try.prog e := List.forall_mem_cons.2 ⟨en1D_ok qS_ok fun s _ => bare_ok s, List.forall_mem_cons.2 ⟨en1D_ok (qAnd_ok qC_ok) fun l h => contours_ok l h.1, fun _ h => by cases h⟩⟩
def drV (K : Nat) : Bool := Nat.beq K 17
def tabV (Pd : Sh → Prop) (g : Sh → Int → Int → Bool × Int) : Dyn.Tabs := Dyn.tabsX tbF tdV [(17, enV Pd g)] drV dtyS false
theorem tabV_ok {Pd : Sh → Prop} {g : Sh → Int → Int → Bool × Int} (ih : ∀ x, Pd x → VaOk x g) : Dyn.TabsOk Try.prog (tabV Pd g) :=
  Dyn.tabsX_ok tbF_ok tdV_ok (List.forall_mem_cons.2 ⟨enV_ok ih, fun _ h => by cases h⟩)
def vaG (g : Sh → Int → Int → Bool × Int) (sh : Nat → Sh) (forms : Int) (i : Nat) (left : Int) : Bool × Int := g (sh i) (W (forms + 1)) left
def vaS (s : Sh) (forms left i : Int) : Dyn.St := mkF 123 [(1, sI forms), (2, sL 0), (6, .k (vb false)), (109, sH 1 9 s.n), (110, sI s.n), (111, sI i)] [some (.cells 3 [vi left]), some (.deep (cS s))] [(2, 0)]
def vaR (left : Int) : Dyn.St := mkF 123 [(2, sL 0), (6, .k (vb false))] [some (.cells 3 [vi left])] [(2, 0)]
def vaK : List Nat := [1, 2, 6, 109, 110, 111]
def vaLp (g : Sh → Int → Int → Bool × Int) (sh : Nat → Sh) (s : Sh) (forms left : Int) : Dyn.Lp := fun id st => match id with
  | 1 => some (.side [keepA 123 [0, 1] [] vaK (2 ^ 111) st = vaS s forms left 0] (.ite (runN (vaG g sh forms) left s.n).1 (.leaf .normal (vaS s forms (runN (vaG g sh forms) left s.n).2 s.n)) (.leaf .ret (vaR (runN (vaG g sh forms) left s.n).2))))
  | _ => none
def vaB (Pd : Sh → Prop) (g : Sh → Int → Int → Bool × Int) (sh : Nat → Sh) (s : Sh) (forms : Int) (i : Nat) (left : Int) : Dyn.Out :=
  .ite (decide ((i : Int) < s.n)) (.side [0 ≤ (i : Int) ∧ (i : Int) < s.n] (.side [Pd (sh i), ctrSelf (sh i).l] (.ite (!(g (sh i) (W (forms + 1)) left).1) (.leaf .ret (vaR (g (sh i) (W (forms + 1)) left).2)) (.leaf .normal (vaS s forms (g (sh i) (W (forms + 1)) left).2 (W (i + 1))))))) (.leaf (.exit 1) (vaS s forms left i))
theorem va_B (Pd : Sh → Prop) (g : Sh → Int → Int → Bool × Int) (k : Int) (a b c : P2) (r : Int) (l : Ctr) (n : Nat) (add : Nat → Bool) (sh : Nat → Sh) (forms l0 : Int) (i : Nat) (left : Int) :
    (Dyn.lexec Try.prog (tabV Pd g) (vaLp g sh (mkSh k a b c r l n add sh) forms l0) 3 (unloopD (blkD Try.f17.body 1)) .leaf (vaS (mkSh k a b c r l n add sh) forms left i)).rl (keepQ 123 [0, 1] [] vaK [0] [2, 6]) = vaB Pd g sh (mkSh k a b c r l n add sh) forms i left := by kernel_rfl
theorem va_blocks : blocksL (bodyD Try.f17.body) = [(0, blkD Try.f17.body 0), (1, .loop (unloopD (blkD Try.f17.body 1))), (2, blkD Try.f17.body 2)] := by kernel_rfl
theorem va_b1 : blocksL (unloopD (blkD Try.f17.body 1)) = [(2, blkD Try.f17.body 2)] := by kernel_rfl
theorem va_loop {Pd : Sh → Prop} {g : Sh → Int → Int → Bool × Int} (ih : ∀ x, Pd x → VaOk x g) (k : Int) (a b c : P2) (r : Int) (l : Ctr) (n : Nat) (add : Nat → Bool) (sh : Nat → Sh) (hn : n ≤ 1000000000) (hP : ∀ i, i < n → Pd (sh i)) (forms l0 : Int) (w0 : Dyn.Base Try.prog) (s : Dyn.St) (o : Dyn.Out)
    (h : vaLp g sh (mkSh k a b c r l n add sh) forms l0 1 s = some o) : Dyn.BlockSound Try.prog w0 1 (.loop (unloopD (blkD Try.f17.body 1))) s o := by
  simp only [vaLp, Option.some.injEq] at h
  subst h
  refine side_one fun hS => ?_
  refine run_block (fuel := 3) (tabV_ok ih) mo (lp := vaLp g sh (mkSh k a b c r l n add sh) forms l0) (by rw [va_b1]; exact lpOk_cons (fun s o h => by cases h) lpOk_nil) (fun i left => vaS (mkSh k a b c r l n add sh) forms left i) n (vaG g sh forms) l0 vaR (keepQ 123 [0, 1] [] vaK [0] [2, 6]) (keepQ_ent 123 _ _ _ _ _) (fun i left => vaB Pd g sh (mkSh k a b c r l n add sh) forms i left) (fun i left => va_B Pd g k a b c r l n add sh forms l0 i left) (fun i left hi ha => ?_) (fun left ha => ?_) (hS ▸ keepA_ent 123 _ _ _ _ s)
  · refine ⟨fun _ => ⟨⟨⟨by omega, by show (i : Int) < (n : Int); omega⟩, trivial⟩, ⟨hP i hi, ctrSelf_ok _, trivial⟩, fun hx => .inr ⟨rfl, ?_, Dyn.Fits.refl _⟩, fun hx => .inl ⟨rfl, ?_, ?_⟩⟩, fun hf => ?_⟩
    · simpa [vaG] using hx
    · simpa [vaG] using hx
    · rw [Wn1 hi hn]; exact Dyn.Fits.refl _
    · rw [decide_eq_false_iff_not] at hf
      exact absurd (show (i : Int) < (n : Int) by omega) hf
  · refine ⟨fun ht => ?_, fun _ => ⟨rfl, Dyn.Fits.refl _⟩⟩
    rw [decide_eq_true_eq] at ht
    exact absurd (show (n : Int) < (n : Int) from ht) (by omega)
def vaO (g : Sh → Int → Int → Bool × Int) (sh : Nat → Sh) (s : Sh) (forms left : Int) : Dyn.RX :=
  .ite (decide (left < 1)) (.leaf (vb false) [[vi left]])
  (.side [ctrSelf s.l] (.ite (!(bareF s)) (.leaf (vb false) [[vi (W (left - 1))]])
  (.ite (s.k == 1) (.leaf (vb (andB (nearF s.a) (widF s.r))) [[vi (W (left - 1))]])
  (.ite (s.k == 2) (.side [CtrB s.l, ctrSelf s.l] (.leaf (vb (contoursF s.l)) [[vi (W (left - 1))]]))
  (.ite (s.k == 3) (.leaf (vb (andB (andB (nearF s.a) (nearF s.b)) (widF s.r))) [[vi (W (left - 1))]])
  (.ite (s.k == 4) (.leaf (vb (andB (andB (andB (nearF s.a) (nearF s.b)) (widF s.r)) (!(bif s.a.x == s.b.x then bif s.a.y == s.b.y then true else false else false)))) [[vi (W (left - 1))]])
  (.ite (s.k == 5) (.leaf (vb (andB (andB (andB (andB (nearF s.a) (nearF s.b)) (nearF s.c)) (widF s.r)) (ringOk s.c s.a s.b))) [[vi (W (left - 1))]])
  (.ite (s.k == 6) (.ite (decide (forms ≥ 8)) (.leaf (vb false) [[vi (W (left - 1))]]) (.side [vaS s forms (W (left - 1)) 0 = vaS s forms (W (left - 1)) 0] (.ite (runN (vaG g sh forms) (W (left - 1)) s.n).1 (.leaf (vb true) [[vi (runN (vaG g sh forms) (W (left - 1)) s.n).2]]) (.leaf (vb false) [[vi (runN (vaG g sh forms) (W (left - 1)) s.n).2]]))))
  (.leaf (vb false) [[vi (W (left - 1))]])))))))))
theorem va_O (Pd : Sh → Prop) (g : Sh → Int → Int → Bool × Int) (s : Sh) (sh : Nat → Sh) (forms left : Int) : (Dyn.dfunX Try.prog (tabV Pd g) (vaLp g sh s forms (W (left - 1))) 3 Try.f17 [(3, [vi left])] [.d (dvS s), .d (dvI forms), .lp 0 0]).rx Try.prog [(3, [vi left])] Try.f17.results = vaO g sh s forms left := by kernel_rfl
theorem va_sat (g : Sh → Int → Int → Bool × Int) (sh : Nat → Sh) (s : Sh) (hl : CtrB s.l) (forms left : Int) : (vaO g sh s forms left).sat fun u os => u = vb (validG g sh s forms left).1 ∧ os = [[vi (validG g sh s forms left).2]] := by
  unfold validG
  refine ⟨fun h => ?_, fun h => ⟨⟨ctrSelf_ok _, trivial⟩, fun h1 => ?_, fun h1 => ⟨fun h2 => ?_, fun h2 => ⟨fun h3 => ⟨⟨hl, ctrSelf_ok _, trivial⟩, ?_⟩, fun h3 => ⟨fun h4 => ?_, fun h4 => ⟨fun h5 => ?_, fun h5 => ⟨fun h6 => ?_, fun h6 => ⟨fun h7 => ⟨fun h8 => ?_, fun h8 => ⟨⟨rfl, trivial⟩, fun h9 => ?_, fun h9 => ?_⟩⟩, fun h7 => ?_⟩⟩⟩⟩⟩⟩⟩⟩
  · rw [h]; exact ⟨rfl, rfl⟩
  · rw [h, h1]; exact ⟨rfl, rfl⟩
  · rw [h, h1, h2]; exact ⟨rfl, rfl⟩
  · rw [h, h1, h2, h3]; exact ⟨rfl, rfl⟩
  · rw [h, h1, h2, h3, h4]; exact ⟨rfl, rfl⟩
  · rw [h, h1, h2, h3, h4, h5]; exact ⟨rfl, rfl⟩
  · rw [h, h1, h2, h3, h4, h5, h6]; exact ⟨rfl, rfl⟩
  · rw [h, h1, h2, h3, h4, h5, h6, h7, h8]; exact ⟨rfl, rfl⟩
  · rw [h, h1, h2, h3, h4, h5, h6, h7, h8]; exact ⟨congrArg vb h9.symm, rfl⟩
  · rw [h, h1, h2, h3, h4, h5, h6, h7, h8]; exact ⟨congrArg vb h9.symm, rfl⟩
  · rw [h, h1, h2, h3, h4, h5, h6, h7]; exact ⟨rfl, rfl⟩
/-- one level -/
theorem valid_lvl {Pd : Sh → Prop} {g : Sh → Int → Int → Bool × Int} (ih : ∀ x, Pd x → VaOk x g) (k : Int) (a b c : P2) (r : Int) (l : Ctr) (n : Nat) (add : Nat → Bool) (sh : Nat → Sh) (hl : CtrB l) (hn : n ≤ 1000000000) (hP : ∀ i, i < n → Pd (sh i)) (forms left : Int) :
    Dyn.CallX Try.prog 17 [.d (dvS (mkSh k a b c r l n add sh)), .d (dvI forms), .lp 0 0] [(3, [vi left])] (vb (validG g sh (mkSh k a b c r l n add sh) forms left).1) [[vi (validG g sh (mkSh k a b c r l n add sh) forms left).2]] :=
  Dyn.xcontract (lp := vaLp g sh (mkSh k a b c r l n add sh) forms (W (left - 1))) (fuel := 3) (tabV_ok ih) mo Try.func17 (by kernel_rfl) (c := bodyD Try.f17.body) (by kernel_rfl)
    (fun w0 => by rw [va_blocks]; exact lpOk_cons (fun s o h => by cases h) (lpOk_cons (va_loop ih k a b c r l n add sh hn hP forms _ w0) (lpOk_cons (fun s o h => by cases h) lpOk_nil)))
    (by kernel_rfl) (by kernel_rfl) (by kernel_rfl) (va_O Pd g _ sh forms left) (va_sat g sh _ hl forms left)
/-- valid, all the way down -/
def validF : Shp → Int → Int → Bool × Int
  | .nil, _, left => (false, left)
  | .mk k a b c r l n add sub, forms, left =>
    bif decide (left < 1) then (false, left) else
    bif !(bareF (toSh (.mk k a b c r l n add sub))) then (false, W (left - 1)) else
    bif k == 1 then (andB (nearF a) (widF r), W (left - 1)) else
    bif k == 2 then (contoursF l, W (left - 1)) else
    bif k == 3 then (andB (andB (nearF a) (nearF b)) (widF r), W (left - 1)) else
    bif k == 4 then (andB (andB (andB (nearF a) (nearF b)) (widF r)) (!(bif a.x == b.x then bif a.y == b.y then true else false else false)), W (left - 1)) else
    bif k == 5 then (andB (andB (andB (andB (nearF a) (nearF b)) (nearF c)) (widF r)) (ringOk c a b), W (left - 1)) else
    bif k == 6 then (bif decide (forms ≥ 8) then (false, W (left - 1)) else runN (fun i lf => validF (sub i) (W (forms + 1)) lf) (W (left - 1)) n)
    else (false, W (left - 1))
noncomputable def vE (x : Sh) (forms left : Int) : Bool × Int := validF (ofSh x) forms left
theorem vE_eq (s : Shp) (forms left : Int) : vE (toSh s) forms left = validF s forms left := by unfold vE; rw [ofSh_toSh]
theorem validF_lvl (k : Int) (a b c : P2) (r : Int) (l : Ctr) (n : Nat) (add : Nat → Bool) (sub : Nat → Shp) (forms left : Int) : validF (.mk k a b c r l n add sub) forms left = validG vE (fun i => toSh (sub i)) (toSh (.mk k a b c r l n add sub)) forms left := by
  unfold validG
  simp only [vE_eq]
  rfl
theorem valid_ok : ∀ s : Shp, ShB s → VaOk (toSh s) vE := by
  intro s
  induction s with
  | nil => intro h; exact h.elim
  | mk k a b c r l n add sub ih =>
    intro h forms left
    rw [vE_eq, validF_lvl]
    exact valid_lvl (Pd := fun x => ∃ i, i < n ∧ x = toSh (sub i)) (fun x hx => by
      obtain ⟨i, hi, rfl⟩ := hx
      exact ih i (h.2.2 i hi)) k a b c r l n add (fun i => toSh (sub i)) h.1 h.2.1 (fun i hi => ⟨i, hi, rfl⟩) forms left
end Go.Proofs.Ytddgibadiadccaa

/-! ## Shd -/
namespace Go.Proofs.Ytddgibadiadccaa
open Go Go.RowKit Sym
set_option maxRecDepth 100000

noncomputable def okE (x : Sh) : Bool := (vE x 0 1000).1
theorem va_all : ∀ x, PdS x → VaOk x vE := fun x hx forms left => by
  have k := valid_ok _ hx.1 forms left
  rw [show vE (toSh (ofSh x)) forms left = vE x forms left by unfold vE; rw [ofSh_toSh]] at k
  exact CallX_le (SLe.dv hx.2) (Dyn.DVLe.refl _) k
theorem figOk_ok (x : Sh) (h : PdS x) : Dyn.CallD Try.prog 9 [dvS x] (rB (okE x)) :=
  Dyn.dcontractV (lp := Dyn.noLp) (fuel := 3) (tabV_ok va_all) mo Try.func9 (by kernel_rfl) (c := bodyD Try.f9.body) (by kernel_rfl) (fun w0 => Dyn.noLp_ok _ w0) (by kernel_rfl) (by kernel_rfl) (show _ = [PdS x, ctrSelf x.l] by kernel_rfl) ⟨h, ctrSelf_ok _, trivial⟩
/-- a shape's cells as values: its rows stand at name nm, from place off on -/
def shV (nm off : Nat) (s : Sh) : List Value := [vi s.k, vi s.a.x, vi s.a.y, vi s.b.x, vi s.b.y, vi s.c.x, vi s.c.y, vi s.r, .slice (some ⟨nm, off, some 0⟩) s.l.n 0, .slice (some ⟨nm, off + 1, some 0⟩) s.n 0]
/-! ### has -/
def hsG (g : Sh → P2 → Bool) (sh : Nat → Sh) (add : Nat → Bool) (n : Nat) (p : P2) (t : Nat) (_ : Bool) : Bool × Bool := bif g (sh (n - 1 - t)) p then (false, add (n - 1 - t)) else (true, false)
def hasG (g : Sh → P2 → Bool) (sh : Nat → Sh) (add : Nat → Bool) (s : Sh) (p : P2) : Bool :=
  bif s.k == 1 then discHas p s.a s.r else bif s.k == 2 then polyHasF p s.l else bif s.k == 3 then lineHas p s.a s.b s.r else bif s.k == 4 then barHas p s.a s.b s.r else bif s.k == 5 then ringHas p s.c s.a s.b s.r else
  (runN (hsG g sh add s.n p) false s.n).2
def HasOk (x : Sh) (g : Sh → P2 → Bool) : Prop := ∀ p, Dyn.CallD Try.prog 18 [dvS x, dvP p] (rB (g x p))
def tdH (Pd : Sh → Prop) (g : Sh → P2 → Bool) : List Dyn.EntryD := [(29, en2D qP (qAnd qC CtrB) fun p l => rB (polyHasF p l)), (18, en2D (qAnd qS Pd) qP fun x p => rB (g x p))]
def tabH (Pd : Sh → Prop) (g : Sh → P2 → Bool) : Dyn.Tabs := Dyn.tabs tbF (tdH Pd g) noD dtyS
theorem tabH_ok {Pd : Sh → Prop} {g : Sh → P2 → Bool} (ih : ∀ x, Pd x → HasOk x g) : Dyn.TabsOk Try.prog (tabH Pd g) :=
  Dyn.tabs_ok tbF_ok (List.forall_mem_cons.2 ⟨en2D_ok qP_ok (qAnd_ok qC_ok) fun p l _ h => polyHas_ok p l h.1, List.forall_mem_cons.2 ⟨en2D_ok (qAnd_ok qS_ok) qP_ok fun x p h _ => ih x h.1 p, fun _ h => by cases h⟩⟩)
def hsS (s : Sh) (p : P2) (i : Int) : Dyn.St := mkS 76 [(2, sL 1), (3, sL 2), (4, .k (vb false)), (5, sI i)] [some (.deep (cS s)), some (.cells 31 (shV 0 8 s)), some (.cells 27 [vi p.x, vi p.y])]
def hsR (q : Bool) : Dyn.St := mkS 76 [(4, sB q)] []
def hsK : List Nat := [2, 3, 4, 5]
def hsLp (g : Sh → P2 → Bool) (sh : Nat → Sh) (add : Nat → Bool) (s : Sh) (p : P2) : Dyn.Lp := fun id st => match id with
  | 1 => some (.side [keepA 76 [0, 1, 2] [] hsK 0 st = hsS s p (W ((s.n : Int) - 1))] (.ite (runN (hsG g sh add s.n p) false s.n).1 (.leaf .normal (hsS s p ((s.n : Int) - 1 - (s.n : Nat)))) (.leaf .ret (hsR (runN (hsG g sh add s.n p) false s.n).2))))
  | _ => none
def hsB (Pd : Sh → Prop) (g : Sh → P2 → Bool) (sh : Nat → Sh) (add : Nat → Bool) (s : Sh) (p : P2) (i : Int) : Dyn.Out :=
  .ite (decide (i ≥ 0)) (.side [0 ≤ i ∧ i < s.n, Pd (sh i.toNat), ctrSelf (sh i.toNat).l] (.ite (g (sh i.toNat) p) (.side [0 ≤ i ∧ i < s.n] (.leaf .ret (hsR (add i.toNat)))) (.leaf .normal (hsS s p (W (i - 1)))))) (.leaf (.exit 1) (hsS s p i))
theorem hs_B (Pd : Sh → Prop) (g : Sh → P2 → Bool) (k : Int) (a b c : P2) (r : Int) (l : Ctr) (n : Nat) (add : Nat → Bool) (sh : Nat → Sh) (p : P2) (i : Int) :
    (Dyn.lexec Try.prog (tabH Pd g) (hsLp g sh add (mkSh k a b c r l n add sh) p) 3 (unloopD (blkD Try.f18.body 1)) .leaf (hsS (mkSh k a b c r l n add sh) p i)).rl (keepR 76 [0, 1, 2] [] hsK [4]) = hsB Pd g sh add (mkSh k a b c r l n add sh) p i := by kernel_rfl
theorem hs_blocks : blocksL (bodyD Try.f18.body) = [(0, blkD Try.f18.body 0), (1, .loop (unloopD (blkD Try.f18.body 1))), (2, blkD Try.f18.body 2)] := by kernel_rfl
theorem hs_b1 : blocksL (unloopD (blkD Try.f18.body 1)) = [(2, blkD Try.f18.body 2)] := by kernel_rfl
theorem hs_loop {Pd : Sh → Prop} {g : Sh → P2 → Bool} (ih : ∀ x, Pd x → HasOk x g) (k : Int) (a b c : P2) (r : Int) (l : Ctr) (n : Nat) (add : Nat → Bool) (sh : Nat → Sh) (hn : n ≤ 1000000000) (hP : ∀ i, i < n → Pd (sh i)) (p : P2) (w0 : Dyn.Base Try.prog) (s : Dyn.St) (o : Dyn.Out)
    (h : hsLp g sh add (mkSh k a b c r l n add sh) p 1 s = some o) : Dyn.BlockSound Try.prog w0 1 (.loop (unloopD (blkD Try.f18.body 1))) s o := by
  simp only [hsLp, Option.some.injEq] at h
  subst h
  refine side_one fun hS => ?_
  have e0 : W ((n : Int) - 1) = (n : Int) - 1 - ((0 : Nat) : Int) := by rw [W_id (by omega) (by omega)]; omega
  refine run_block (fuel := 3) (tabH_ok ih) mo (lp := hsLp g sh add (mkSh k a b c r l n add sh) p) (by rw [hs_b1]; exact lpOk_cons (fun s o h => by cases h) lpOk_nil) (fun t (_ : Bool) => hsS (mkSh k a b c r l n add sh) p ((n : Int) - 1 - (t : Nat))) n (hsG g sh add n p) false hsR (keepR 76 [0, 1, 2] [] hsK [4]) (keepR_ent 76 _ _ _ _) (fun t _ => hsB Pd g sh add (mkSh k a b c r l n add sh) p ((n : Int) - 1 - (t : Nat))) (fun t _ => hs_B Pd g k a b c r l n add sh p _) (fun t q ht ha => ?_) (fun q ha => ?_) ?_
  · have ei : ((n : Int) - 1 - (t : Nat)).toNat = n - 1 - t := by omega
    unfold hsG hsB
    rw [ei]
    refine ⟨fun _ => ⟨⟨⟨by omega, by show (n : Int) - 1 - (t : Nat) < (n : Int); omega⟩, hP _ (by omega), ctrSelf_ok _, trivial⟩, fun hx => ⟨⟨⟨by omega, by show (n : Int) - 1 - (t : Nat) < (n : Int); omega⟩, trivial⟩, .inr ⟨rfl, ?_, ?_⟩⟩, fun hx => .inl ⟨rfl, ?_, ?_⟩⟩, fun hf => ?_⟩
    · rw [hx]; rfl
    · rw [hx]; exact Dyn.Fits.refl _
    · rw [hx]; rfl
    · rw [W_id (by omega) (by omega), show (n : Int) - 1 - (t : Int) - 1 = (n : Int) - 1 - ((t + 1 : Nat) : Int) by omega]; exact Dyn.Fits.refl _
    · rw [decide_eq_false_iff_not] at hf; omega
  · refine ⟨fun ht => ?_, fun _ => ⟨rfl, Dyn.Fits.refl _⟩⟩
    rw [decide_eq_true_eq] at ht; omega
  · have hS' : keepA 76 [0, 1, 2] [] hsK 0 s = hsS (mkSh k a b c r l n add sh) p ((n : Int) - 1 - ((0 : Nat) : Int)) := by rw [hS]; show hsS _ p (W ((n : Int) - 1)) = _; rw [e0]
    exact hS' ▸ keepA_ent 76 _ _ _ _ s
def hsO (g : Sh → P2 → Bool) (sh : Nat → Sh) (add : Nat → Bool) (s : Sh) (p : P2) : Dyn.RO :=
  .ite (s.k == 1) (.leaf (rB (discHas p s.a s.r)))
  (.ite (s.k == 2) (.side [CtrB s.l, ctrSelf s.l] (.leaf (rB (polyHasF p s.l))))
  (.ite (s.k == 3) (.leaf (rB (lineHas p s.a s.b s.r)))
  (.ite (s.k == 4) (.leaf (rB (barHas p s.a s.b s.r)))
  (.ite (s.k == 5) (.leaf (rB (ringHas p s.c s.a s.b s.r)))
  (.side [hsS s p (W ((s.n : Int) - 1)) = hsS s p (W ((s.n : Int) - 1))] (.ite (runN (hsG g sh add s.n p) false s.n).1 (.leaf (rB false)) (.leaf (rB (runN (hsG g sh add s.n p) false s.n).2))))))))
theorem hs_O (Pd : Sh → Prop) (g : Sh → P2 → Bool) (sh : Nat → Sh) (add : Nat → Bool) (s : Sh) (p : P2) : (Dyn.dfun Try.prog (tabH Pd g) (hsLp g sh add s p) 3 Try.f18 [dvS s, dvP p]).ro Try.prog Try.f18.results = hsO g sh add s p := by kernel_rfl
theorem hsRun_false (g : Sh → P2 → Bool) (sh : Nat → Sh) (add : Nat → Bool) (n : Nat) (p : P2) : ∀ t, (runN (hsG g sh add n p) false t).1 = true → (runN (hsG g sh add n p) false t).2 = false
  | 0, _ => rfl
  | t + 1, h => by
    simp only [runN] at h ⊢
    split at h
    · rename_i b hb
      unfold hsG at h ⊢
      cases hg : g (sh (n - 1 - t)) p with
      | true => rw [hg] at h; cases h
      | false => rfl
    · cases h
theorem ro_leaf {r r' : Dyn.RV} (h : r = r') : (Dyn.RO.leaf r).sat (fun q => Dyn.RVLe q r') := by subst h; exact Dyn.RVLe.refl _
theorem hs_sat (g : Sh → P2 → Bool) (sh : Nat → Sh) (add : Nat → Bool) (s : Sh) (hl : CtrB s.l) (p : P2) : (hsO g sh add s p).sat fun r => Dyn.RVLe r (rB (hasG g sh add s p)) := by
  unfold hasG
  refine ⟨fun h => ?_, fun h => ⟨fun h2 => ⟨⟨hl, ctrSelf_ok _, trivial⟩, ?_⟩, fun h2 => ⟨fun h3 => ?_, fun h3 => ⟨fun h4 => ?_, fun h4 => ⟨fun h5 => ?_, fun h5 => ⟨⟨rfl, trivial⟩, fun h6 => ?_, fun h6 => ?_⟩⟩⟩⟩⟩⟩
  · rw [h]; exact ro_leaf rfl
  · rw [h, h2]; exact ro_leaf rfl
  · rw [h, h2, h3]; exact ro_leaf rfl
  · rw [h, h2, h3, h4]; exact ro_leaf rfl
  · rw [h, h2, h3, h4, h5]; exact ro_leaf rfl
  · rw [h, h2, h3, h4, h5]
    exact ro_leaf (congrArg rB (hsRun_false g sh add s.n p s.n h6).symm)
  · rw [h, h2, h3, h4, h5]; exact ro_leaf rfl
theorem has_lvl {Pd : Sh → Prop} {g : Sh → P2 → Bool} (ih : ∀ x, Pd x → HasOk x g) (k : Int) (a b c : P2) (r : Int) (l : Ctr) (n : Nat) (add : Nat → Bool) (sh : Nat → Sh) (hl : CtrB l) (hn : n ≤ 1000000000) (hP : ∀ i, i < n → Pd (sh i)) (p : P2) :
    Dyn.CallD Try.prog 18 [dvS (mkSh k a b c r l n add sh), dvP p] (rB (hasG g sh add (mkSh k a b c r l n add sh) p)) :=
  Dyn.dcontract (lp := hsLp g sh add (mkSh k a b c r l n add sh) p) (fuel := 3) (tabH_ok ih) mo Try.func18 (by kernel_rfl) (c := bodyD Try.f18.body) (by kernel_rfl)
    (fun w0 => by rw [hs_blocks]; exact lpOk_cons (fun s o h => by cases h) (lpOk_cons (hs_loop ih k a b c r l n add sh hn hP p w0) (lpOk_cons (fun s o h => by cases h) lpOk_nil)))
    (by kernel_rfl) (hs_O Pd g sh add _ p) (hs_sat g sh add _ hl p)
def hasF : Shp → P2 → Bool
  | .nil, _ => false
  | .mk k a b c r l n add sub, p => bif k == 1 then discHas p a r else bif k == 2 then polyHasF p l else bif k == 3 then lineHas p a b r else bif k == 4 then barHas p a b r else bif k == 5 then ringHas p c a b r else
    (runN (fun t (_ : Bool) => bif hasF (sub (n - 1 - t)) p then (false, add (n - 1 - t)) else (true, false)) false n).2
noncomputable def hasE (x : Sh) (p : P2) : Bool := hasF (ofSh x) p
theorem hasE_eq (s : Shp) (p : P2) : hasE (toSh s) p = hasF s p := by unfold hasE; rw [ofSh_toSh]
theorem hasF_lvl (k : Int) (a b c : P2) (r : Int) (l : Ctr) (n : Nat) (add : Nat → Bool) (sub : Nat → Shp) (p : P2) : hasF (.mk k a b c r l n add sub) p = hasG hasE (fun i => toSh (sub i)) add (toSh (.mk k a b c r l n add sub)) p := by
  unfold hasG hsG
  simp only [hasE_eq]
  rfl
theorem has_ok : ∀ s : Shp, ShB s → HasOk (toSh s) hasE := by
  intro s
  induction s with
  | nil => intro h; exact h.elim
  | mk k a b c r l n add sub ih =>
    intro h p
    rw [hasE_eq, hasF_lvl]
    exact has_lvl (Pd := fun x => ∃ i, i < n ∧ x = toSh (sub i)) (fun x hx => by
      obtain ⟨i, hi, rfl⟩ := hx
      exact ih i (h.2.2 i hi)) k a b c r l n add (fun i => toSh (sub i)) h.1 h.2.1 (fun i hi => ⟨i, hi, rfl⟩) p
theorem has_all : ∀ x, PdS x → HasOk x hasE := fun x hx p => by
  have k := has_ok _ hx.1 p
  rw [show hasE (toSh (ofSh x)) p = hasE x p by unfold hasE; rw [ofSh_toSh]] at k
  exact CallD_le (args := dvS (toSh (ofSh x)) :: [dvP p]) ⟨SLe.dv hx.2, Dyn.DVLe.refl _, trivial⟩ k
end Go.Proofs.Ytddgibadiadccaa

/-! ## Dla -/
namespace Go.Proofs.Ytddgibadiadccaa
open Go Go.RowKit Sym
set_option maxRecDepth 100000

inductive DLe : Dyn.DC → Dyn.DC → Prop where
  | refl (c : Dyn.DC) : DLe c c
  | row (n : Nat) (f g : Nat → List Dyn.DC) : (∀ i, i < n → (f i).length = (g i).length) → (∀ i j, i < n → j < (f i).length → DLe ((f i).getD j default) ((g i).getD j default)) → DLe (.row n f) (.row n g)
theorem DLe.den {w : World} {F : Nat → Prop} {c d : Dyn.DC} (h : DLe c d) : ∀ {u : Value}, Dyn.DenC w F c u → Dyn.DenC w F d u := by
  induction h with
  | refl c => exact fun h => h
  | row n f g hl _ ih =>
    intro u k
    cases k with
    | nil _ oa cap => exact .nil g oa cap
    | row _ _ b off cap size V hF hc hd =>
      refine .row n g b off cap size V hF (fun i hi => ⟨(hl i hi) ▸ (hc i hi).1, (hc i hi).2⟩) (fun i j hi hj => ih i j hi ?_ (hd i j hi hj))
      rw [(hc i hi).1]; exact hj
def DLL : List Dyn.DC → List Dyn.DC → Prop
  | [], [] => True
  | c :: cs, d :: ds => DLe c d ∧ DLL cs ds
  | _, _ => False
theorem DLL.refl : ∀ cs, DLL cs cs
  | [] => trivial
  | c :: cs => ⟨.refl c, DLL.refl cs⟩
theorem DLL.den {w : World} {F : Nat → Prop} : ∀ {cs ds : List Dyn.DC} {us : List Value}, DLL cs ds → Dyn.DenL w F cs us → Dyn.DenL w F ds us
  | [], [], [], _, h => h
  | [], [], _ :: _, _, h => h
  | [], _ :: _, _, h, _ => h.elim
  | _ :: _, [], _, h, _ => h.elim
  | c :: cs, d :: ds, [], _, k => k.elim
  | c :: cs, d :: ds, u :: us, h, k => ⟨h.1.den k.1, DLL.den h.2 k.2⟩
theorem DLL.get : ∀ {cs ds : List Dyn.DC}, DLL cs ds → cs.length = ds.length ∧ ∀ j, DLe (cs.getD j default) (ds.getD j default)
  | [], [], _ => ⟨rfl, fun j => .refl _⟩
  | [], _ :: _, h => h.elim
  | _ :: _, [], h => h.elim
  | c :: cs, d :: ds, h => by
    have k := DLL.get h.2
    exact ⟨congrArg Nat.succ k.1, fun j => match j with
      | 0 => h.1
      | j + 1 => k.2 j⟩
theorem DLe.rowL {n : Nat} {f g : Nat → List Dyn.DC} (h : ∀ i, i < n → DLL (f i) (g i)) : DLe (.row n f) (.row n g) := .row n f g (fun i hi => (h i hi).get.1) (fun i j hi _ => (h i hi).get.2 j)
def DVd : Dyn.DV → Dyn.DV → Prop
  | .one c, .one d => DLe c d
  | .agg cs, .agg ds => DLL cs ds
  | _, _ => False
theorem DVd.refl : ∀ v, DVd v v
  | .one c => DLe.refl c
  | .agg cs => DLL.refl cs
theorem DVd.den {w : World} {F : Nat → Prop} : ∀ {c d : Dyn.DV} {u : Value}, DVd c d → Dyn.DenV w F c u → Dyn.DenV w F d u
  | .one _, .one _, _, h, k => DLe.den h k
  | .agg _, .agg _, _, h, ⟨us, e, k⟩ => ⟨us, e, DLL.den h k⟩
  | .one _, .agg _, _, h, _ => h.elim
  | .agg _, .one _, _, h, _ => h.elim
/-- a contract, told of a first argument that shows the same -/
theorem CallD_d1 {P : Program} {K : Nat} {v v' : Dyn.DV} {l : List Dyn.DV} {r : Dyn.RV} (h : DVd v v') (k : Dyn.CallD P K (v' :: l) r) : Dyn.CallD P K (v :: l) r := fun w F us hF hd => k w F us hF (by
  cases us with
  | nil => exact hd
  | cons u us => exact ⟨DVd.den h hd.1, hd.2⟩)
end Go.Proofs.Ytddgibadiadccaa

/-! ## Aph -/
namespace Go.Proofs.Ytddgibadiadccaa
open Go Go.RowKit Sym
set_option maxRecDepth 100000

def unD : List Dyn.DC → Option ShD
  | [.p (.int .i64 k), .p (.int .i64 ax), .p (.int .i64 ay), .p (.int .i64 bx), .p (.int .i64 b_y), .p (.int .i64 cx), .p (.int .i64 cy), .p (.int .i64 r), .row ln lf, .row qn qf] => some { k := k, a := ⟨ax, ay⟩, b := ⟨bx, b_y⟩, c := ⟨cx, cy⟩, r := r, ln := ln, lf := lf, qn := qn, qf := qf }
  | _ => none
theorem unD_eq {l : List Dyn.DC} {s : ShD} (h : unD l = some s) : l = cD s := by
  unfold unD at h
  split at h
  · simp only [Option.some.injEq] at h; subst h; rfl
  · cases h
def zA : Ctr := ctrOf 0 fun _ => []
def ctD (s : ShD) : Ctr := bif Nat.beq s.ln 0 then zA else ctrOf s.ln s.lf
def leafD (s : ShD) : Shp := .mk s.k s.a s.b s.c s.r (ctD s) 0 (fun _ => false) (fun _ => .nil)
def pD : List Dyn.DC → Bool × Shp
  | .p (.bool add) :: l => match unD l with
    | some s => (add, leafD s)
    | none => (false, .nil)
  | _ => (false, .nil)
def shpA (s : ShD) : Shp := .mk s.k s.a s.b s.c s.r (ctD s) s.qn (fun i => (pD (s.qf i)).1) (fun i => (pD (s.qf i)).2)
def OkA (s : ShD) : Prop := DVd (dvD s) (dvS (toSh (shpA s))) ∧ ShB (shpA s)
noncomputable def hasA (x : Sh) (p : P2) : Bool := bif okE x then hasE x p else false
noncomputable def tdHz : List Dyn.EntryD := [(9, en1D (qAnd qS PdS) fun x => rB (okE x)), (18, en2D (qAnd qS PdS) qP fun x p => rB (hasE x p))]
noncomputable def tabHz : Dyn.Tabs := Dyn.tabs tbF tdHz noD noD
theorem tabHz_ok : Dyn.TabsOk Try.prog tabHz := Dyn.tabs_ok tbF_ok (List.forall_mem_cons.2 ⟨en1D_ok (qAnd_ok qS_ok) fun x h => figOk_ok x h.1, List.forall_mem_cons.2 ⟨en2D_ok (qAnd_ok qS_ok) qP_ok fun x p h _ => has_all x h.1 p, fun _ h => by cases h⟩⟩)
theorem hasA_ok (x : Sh) (h : PdS x) (p : P2) : Dyn.CallD Try.prog 10 [dvS x, dvP p] (rB (hasA x p)) :=
  Dyn.dcontractV (lp := Dyn.noLp) (fuel := 3) tabHz_ok mo Try.func10 (by kernel_rfl) (c := bodyD Try.f10.body) (by kernel_rfl) (fun w0 => Dyn.noLp_ok _ w0) (by kernel_rfl) (by kernel_rfl) (show _ = [PdS x, ctrSelf x.l, some (okE x) = some true ∧ True → allP [PdS x, ctrSelf x.l]] by kernel_rfl) ⟨h, ctrSelf_ok _, fun _ => ⟨h, ctrSelf_ok _, trivial⟩, trivial⟩
noncomputable def enOkA : Dyn.EntryD := (9, fun args => match args with
  | [.agg l] => match unD l with
    | some s => some (rB (okE (toSh (shpA s))), [OkA s])
    | none => none
  | _ => none)
theorem enOkA_ok : Dyn.EntryDOk Try.prog enOkA := fun args r ps h hp => by
  unfold enOkA at h
  dsimp only at h
  split at h
  · rename_i l
    split at h
    · rename_i s hs
      simp only [Option.some.injEq, Prod.mk.injEq] at h
      obtain ⟨rfl, rfl⟩ := h
      rw [unD_eq hs]
      exact CallD_d1 hp.1.1 (figOk_ok _ (PdS_mk hp.1.2))
    · cases h
  · cases h
noncomputable def enHasA : Dyn.EntryD := (10, fun args => match args with
  | [.agg l, .agg [.p (.int .i64 x), .p (.int .i64 y)]] => match unD l with
    | some s => some (rB (hasA (toSh (shpA s)) ⟨x, y⟩), [OkA s])
    | none => none
  | _ => none)
theorem enHasA_ok : Dyn.EntryDOk Try.prog enHasA := fun args r ps h hp => by
  unfold enHasA at h
  dsimp only at h
  split at h
  · rename_i l x y
    split at h
    · rename_i s hs
      simp only [Option.some.injEq, Prod.mk.injEq] at h
      obtain ⟨rfl, rfl⟩ := h
      rw [unD_eq hs]
      exact CallD_d1 hp.1.1 (hasA_ok _ (PdS_mk hp.1.2) ⟨x, y⟩)
    · cases h
  · cases h
def drMe (K : Nat) : Bool := Nat.beq K 5
noncomputable def tabMe : Dyn.Tabs := Dyn.tabs tbF [enMk, (6, en0R (rB true)), enOkA, enHasA] drMe dtyS
theorem tabMe_ok : Dyn.TabsOk Try.prog tabMe := Dyn.tabs_ok tbF_ok (List.forall_mem_cons.2 ⟨enMk_ok, List.forall_mem_cons.2 ⟨en0R_ok awake17, List.forall_mem_cons.2 ⟨enOkA_ok, List.forall_mem_cons.2 ⟨enHasA_ok, fun _ h => by cases h⟩⟩⟩⟩)

/-! ### the shapes that are made -/
theorem row0 {f g : Nat → List Dyn.DC} : DLe (.row 0 f) (.row 0 g) := DLe.rowL fun i hi => absurd hi (Nat.not_lt_zero i)
theorem shb0 {k : Int} {a b c : P2} {r : Int} {l : Ctr} {add : Nat → Bool} {sub : Nat → Shp} (h : CtrB l) : ShB (.mk k a b c r l 0 add sub) := ⟨h, by omega, fun i hi => absurd hi (Nat.not_lt_zero i)⟩
theorem CtrB_zA : CtrB zA := ⟨by decide, fun i hi => absurd hi (Nat.not_lt_zero i)⟩
theorem rect_row (w h : Int) : rectL w h 0 = [cRow ((ctrOf 1 (rectL w h)).m 0) ((ctrOf 1 (rectL w h)).p 0)] := by kernel_rfl
theorem rect_le (w h : Int) : DLe (.row 1 (rectL w h)) (cCtr (ctrOf 1 (rectL w h))) := DLe.rowL fun i hi => by
  obtain rfl : i = 0 := by omega
  rw [rect_row w h]; exact DLL.refl _
theorem rect_B (w h : Int) : CtrB (ctrOf 1 (rectL w h)) := ⟨by show (1 : Nat) ≤ _; decide, fun i hi => by
  have hi : i < 1 := hi
  obtain rfl : i = 0 := by omega
  show (4 : Nat) ≤ _
  decide⟩
/-- a leaf shows as it is written -/
structure LfA (s : ShD) : Prop where
  q : s.qn = 0
  l : DLe (.row s.ln s.lf) (cCtr (ctD s))
  b : CtrB (ctD s)
theorem LfA.ok {s : ShD} (h : LfA s) : OkA s := by
  obtain ⟨k, a, b, c, r, ln, lf, qn, qf⟩ := s
  obtain ⟨rfl, h2, h3⟩ := h
  exact ⟨⟨.refl _, .refl _, .refl _, .refl _, .refl _, .refl _, .refl _, .refl _, h2, row0, trivial⟩, shb0 h3⟩
theorem circ_lf (r : Int) : LfA (circD r) := ⟨rfl, row0, CtrB_zA⟩
theorem obr_lf (w h : Int) : LfA (obrD w h) := ⟨rfl, row0, CtrB_zA⟩
theorem rect_lf (w h : Int) : LfA (rectD w h) := ⟨rfl, rect_le w h, rect_B w h⟩
theorem hole_p (s : ShD) (r : Int) : pD ((holeD s r).qf 0) = (true, leafD s) ∧ pD ((holeD s r).qf 1) = (false, leafD { k := 1, r := r }) := ⟨by kernel_rfl, by kernel_rfl⟩
end Go.Proofs.Ytddgibadiadccaa

/-! ## Wid -/
namespace Go.Proofs.Ytddgibadiadccaa
open Go Go.RowKit

theorem sh32_eq (x : Int) : sh32 x = x / 4294967296 := by
  unfold sh32
  have : (2 : Int) ^ min (Int.toNat 32) 64 = 4294967296 := by decide
  rw [this, Int.fdiv_eq_ediv_of_nonneg _ (by decide)]
theorem lo32_eq {x : Int} (h0 : 0 ≤ x) (h1 : x < 18446744073709551616) : lo32 x = x % 4294967296 := by
  have e : (BitVec.ofInt 64 x &&& BitVec.ofInt 64 4294967295).toNat = x.toNat % 4294967296 := by
    rw [BitVec.toNat_and]
    have a : (BitVec.ofInt 64 4294967295).toNat = 2 ^ 32 - 1 := by decide
    have b : (BitVec.ofInt 64 x).toNat = x.toNat := by
      rw [BitVec.toNat_ofInt]
      have : ((2 ^ 64 : Nat) : Int) = 18446744073709551616 := by decide
      rw [this, Int.emod_eq_of_lt h0 h1]
    rw [a, b, Nat.and_two_pow_sub_one_eq_mod]
  unfold lo32 u64
  rw [e, U_id (by omega) (by omega)]
  omega
theorem halves_mul (x y : Int) : x * y = (x / 4294967296 * (y / 4294967296)) * 18446744073709551616 + (x / 4294967296 * (y % 4294967296) + x % 4294967296 * (y / 4294967296)) * 4294967296 + x % 4294967296 * (y % 4294967296) := by
  have a := Int.emod_add_mul_ediv x 4294967296
  have b := Int.emod_add_mul_ediv y 4294967296
  generalize x / 4294967296 = p at *
  generalize y / 4294967296 = q at *
  generalize x % 4294967296 = s at *
  generalize y % 4294967296 = t at *
  subst a b
  grind
theorem half_bd {x y : Int} (h0 : 0 ≤ x) (h1 : x ≤ 4294967295) (h2 : 0 ≤ y) (h3 : y ≤ 4294967295) : 0 ≤ x * y ∧ x * y ≤ 18446744065119617025 := by
  have a := Int.mul_nonneg h0 h2
  have b := (mul_bd (A := 4294967295) (B := 4294967295) (x := x) (y := y) (by omega) h1 (by omega) h3).2
  have e : (4294967295 : Int) * 4294967295 = 18446744065119617025 := by decide
  omega
structure In64 (x : Int) : Prop where
  lo : 0 ≤ x
  hi : x < 18446744073709551616
theorem mulHi_eq {x y : Int} (hx : In64 x) (hy : In64 y) : mulHi x y = x * y / 18446744073709551616 := by
  obtain ⟨x0, x1⟩ := hx; obtain ⟨y0, y1⟩ := hy
  unfold mulHi
  rw [lo32_eq x0 x1, lo32_eq y0 y1, sh32_eq x, sh32_eq y]
  have e := halves_mul x y
  have a := half_bd (x := x % 4294967296) (y := y % 4294967296) (by omega) (by omega) (by omega) (by omega)
  have b := half_bd (x := x / 4294967296) (y := y % 4294967296) (by omega) (by omega) (by omega) (by omega)
  have c := half_bd (x := x % 4294967296) (y := y / 4294967296) (by omega) (by omega) (by omega) (by omega)
  have d := half_bd (x := x / 4294967296) (y := y / 4294967296) (by omega) (by omega) (by omega) (by omega)
  rw [e]
  generalize x % 4294967296 * (y % 4294967296) = A at *
  generalize x / 4294967296 * (y % 4294967296) = B at *
  generalize x % 4294967296 * (y / 4294967296) = C at *
  generalize x / 4294967296 * (y / 4294967296) = D at *
  dsimp only
  rw [U_id (x := A) (by omega) (by omega), U_id (x := B) (by omega) (by omega), U_id (x := C) (by omega) (by omega), U_id (x := D) (by omega) (by omega), sh32_eq A]
  rw [U_id (x := B + A / 4294967296) (by omega) (by omega)]
  rw [lo32_eq (x := B + A / 4294967296) (by omega) (by omega), sh32_eq (B + A / 4294967296)]
  rw [U_id (x := (B + A / 4294967296) % 4294967296 + C) (by omega) (by omega), sh32_eq ((B + A / 4294967296) % 4294967296 + C)]
  rw [U_id (x := D + (B + A / 4294967296) / 4294967296) (by omega) (by omega), U_id (by omega) (by omega)]
  omega
theorem wmul_eq {x y : Int} (hx : In64 x) (hy : In64 y) : wmul x y = ⟨x * y / 18446744073709551616, x * y % 18446744073709551616⟩ := by
  unfold wmul mulLo
  rw [mulHi_eq hx hy, U_eq]
theorem rMul_eq {x y : Int} (hx : In64 x) (hy : In64 y) : rMul x y = ⟨x * y / 18446744073709551616, x * y % 18446744073709551616⟩ := by
  obtain ⟨x0, x1⟩ := hx; obtain ⟨y0, y1⟩ := hy
  unfold rMul
  rw [lo32_eq x0 x1, lo32_eq y0 y1, sh32_eq x, sh32_eq y]
  have e := halves_mul x y
  have a := half_bd (x := x % 4294967296) (y := y % 4294967296) (by omega) (by omega) (by omega) (by omega)
  have b := half_bd (x := x / 4294967296) (y := y % 4294967296) (by omega) (by omega) (by omega) (by omega)
  have c := half_bd (x := x % 4294967296) (y := y / 4294967296) (by omega) (by omega) (by omega) (by omega)
  have d := half_bd (x := x / 4294967296) (y := y / 4294967296) (by omega) (by omega) (by omega) (by omega)
  rw [e]
  dsimp only
  generalize x % 4294967296 * (y % 4294967296) = A at *
  generalize x / 4294967296 * (y % 4294967296) = B at *
  generalize x % 4294967296 * (y / 4294967296) = C at *
  generalize x / 4294967296 * (y / 4294967296) = D at *
  rw [U_id (x := A) (by omega) (by omega), U_id (x := B) (by omega) (by omega), U_id (x := C) (by omega) (by omega), U_id (x := D) (by omega) (by omega), sh32_eq A, sh32_eq B, sh32_eq C,
    lo32_eq (x := A) (by omega) (by omega), lo32_eq (x := B) (by omega) (by omega), lo32_eq (x := C) (by omega) (by omega)]
  rw [U_id (x := A / 4294967296 + B % 4294967296) (by omega) (by omega)]
  rw [U_id (x := A / 4294967296 + B % 4294967296 + C % 4294967296) (by omega) (by omega)]
  generalize hm : A / 4294967296 + B % 4294967296 + C % 4294967296 = m
  rw [U_id (x := D + B / 4294967296) (by omega) (by omega), U_id (x := D + B / 4294967296 + C / 4294967296) (by omega) (by omega), sh32_eq m, U_id (by omega) (by omega)]
  have p : (2 : Int) ^ min (Int.toNat 32) 64 = 4294967296 := by decide
  rw [p, U_eq (m * 4294967296)]
  have q : m * 4294967296 % 18446744073709551616 = m % 4294967296 * 4294967296 := by omega
  rw [q]
  have o : (BitVec.ofInt 64 (m % 4294967296 * 4294967296) ||| BitVec.ofInt 64 (A % 4294967296)).toNat = 2 ^ 32 * (m % 4294967296).toNat + (A % 4294967296).toNat := by
    rw [BitVec.toNat_or, BitVec.toNat_ofInt, BitVec.toNat_ofInt]
    have : ((2 ^ 64 : Nat) : Int) = 18446744073709551616 := by decide
    rw [this, Int.emod_eq_of_lt (a := m % 4294967296 * 4294967296) (by omega) (by omega), Int.emod_eq_of_lt (a := A % 4294967296) (by omega) (by omega)]
    rw [Nat.two_pow_add_eq_or_of_lt (show (A % 4294967296).toNat < 2 ^ 32 by omega)]
    congr 1
    omega
  unfold u64
  rw [o]
  have g1 : ((2 ^ 32 * (m % 4294967296).toNat + (A % 4294967296).toNat : Nat) : Int) = m % 4294967296 * 4294967296 + A % 4294967296 := by omega
  rw [g1, U_id (by omega) (by omega)]
  have g2 : D + B / 4294967296 + C / 4294967296 + m / 4294967296 = (D * 18446744073709551616 + (B + C) * 4294967296 + A) / 18446744073709551616 := by omega
  have g3 : m % 4294967296 * 4294967296 + A % 4294967296 = (D * 18446744073709551616 + (B + C) * 4294967296 + A) % 18446744073709551616 := by omega
  rw [g2, g3]
theorem wabs_eq {v : Int} (h0 : -9223372036854775808 ≤ v) (h1 : v ≤ 9223372036854775807) : wabs v = (v.natAbs : Int) := by
  unfold wabs
  by_cases h : v < 0
  · rw [decide_eq_true h, bif_t, U_eq, U_eq]; omega
  · rw [decide_eq_false h, bif_f, U_eq]; omega
theorem rAbs_eq {v : Int} (h0 : -9223372036854775808 ≤ v) (h1 : v ≤ 9223372036854775807) : rAbs v = (v.natAbs : Int) := by
  unfold rAbs
  by_cases h : v < 0
  · rw [decide_eq_true h, bif_t, W_id (x := v + 1) (by omega) (by omega), W_id (by omega) (by omega), U_eq, U_eq]; omega
  · rw [decide_eq_false h, bif_f, U_eq]; omega
theorem ucmp_eq (x y : Int) : ucmp x y = if x < y then -1 else if x > y then 1 else 0 := by
  unfold ucmp
  simp only [bne_self_eq_false, bif_f]
  by_cases h : x < y
  · rw [decide_eq_true h, bif_t, if_pos h]
  · rw [decide_eq_false h, bif_f, if_neg h]
    by_cases h' : x > y
    · rw [decide_eq_true h', bif_t, if_pos h']
    · rw [decide_eq_false h', bif_f, if_neg h']
theorem wcmp_le (m n : Int) : wcmp ⟨m / 18446744073709551616, m % 18446744073709551616⟩ ⟨n / 18446744073709551616, n % 18446744073709551616⟩ ≤ 0 ↔ m ≤ n := by
  unfold wcmp
  dsimp only
  by_cases h : m / 18446744073709551616 = n / 18446744073709551616
  · have : (m / 18446744073709551616 != n / 18446744073709551616) = false := by simp [h]
    rw [this, bif_f, ucmp_eq]
    split
    · omega
    · split <;> omega
  · have : (m / 18446744073709551616 != n / 18446744073709551616) = true := by simp [h]
    rw [this, bif_t, ucmp_eq]
    split
    · omega
    · split <;> omega
theorem rCmp_le (m n : Int) : rCmp ⟨m / 18446744073709551616, m % 18446744073709551616⟩ ⟨n / 18446744073709551616, n % 18446744073709551616⟩ ≤ 0 ↔ m ≤ n := by
  unfold rCmp wEq
  dsimp only
  simp only [orB_eq, andB_eq]
  by_cases h : m / 18446744073709551616 = n / 18446744073709551616
  · have e1 : (m / 18446744073709551616 == n / 18446744073709551616) = true := by simp [h]
    have e2 : decide (m / 18446744073709551616 < n / 18446744073709551616) = false := by simp [h]
    rw [e1, e2]
    by_cases h' : m % 18446744073709551616 = n % 18446744073709551616
    · have e3 : (m % 18446744073709551616 == n % 18446744073709551616) = true := by simp [h']
      rw [e3]; simp only [bif_t]; omega
    · have e3 : (m % 18446744073709551616 == n % 18446744073709551616) = false := by simp [h']
      rw [e3]
      by_cases k : m % 18446744073709551616 < n % 18446744073709551616
      · rw [decide_eq_true k]; simp only [bif_t, bif_f, Bool.true_and, Bool.false_or]; omega
      · rw [decide_eq_false k]; simp only [bif_t, bif_f, Bool.and_false, Bool.false_or]; omega
  · have e1 : (m / 18446744073709551616 == n / 18446744073709551616) = false := by simp [h]
    rw [e1]
    by_cases k : m / 18446744073709551616 < n / 18446744073709551616
    · rw [decide_eq_true k]; simp only [bif_t, bif_f, Bool.true_or]; omega
    · rw [decide_eq_false k]; simp only [bif_f, Bool.false_and, Bool.false_or]; omega
theorem natAbs_sq (v : Int) : (v.natAbs : Int) * (v.natAbs : Int) = v * v := by
  rcases Int.natAbs_eq v with h | h <;> grind
theorem wle {k x y : Int} (h0 : -9223372036854775808 ≤ k) (h1 : k ≤ 9223372036854775807) (hx : In64 x) (hy : In64 y) : decide (wcmp (wsq k) (wmul x y) ≤ 0) = decide (k * k ≤ x * y) := by
  unfold wsq
  rw [wabs_eq h0 h1, wmul_eq ⟨by omega, by omega⟩ ⟨by omega, by omega⟩, wmul_eq hx hy, natAbs_sq]
  exact decide_eq_decide.2 (wcmp_le _ _)
theorem rle {k x y : Int} (h0 : -9223372036854775808 ≤ k) (h1 : k ≤ 9223372036854775807) (hx : In64 x) (hy : In64 y) : decide (rCmp (rSq k) (rMul x y) ≤ 0) = decide (k * k ≤ x * y) := by
  unfold rSq
  rw [rAbs_eq h0 h1, rMul_eq ⟨by omega, by omega⟩ ⟨by omega, by omega⟩, rMul_eq hx hy, natAbs_sq]
  exact decide_eq_decide.2 (rCmp_le _ _)

/-! ### the planar products -/
theorem sum2s {x y z w : Int} (h1 : -2147483646 ≤ x) (h2 : x ≤ 2147483646) (h3 : -2147483646 ≤ y) (h4 : y ≤ 2147483646) (h5 : -2147483646 ≤ z) (h6 : z ≤ 2147483646) (h7 : -2147483646 ≤ w) (h8 : w ≤ 2147483646) :
    W (W (x * y) + W (z * w)) = x * y + z * w ∧ W (W (x * y) - W (z * w)) = x * y - z * w ∧ -9223372019674906632 ≤ x * y + z * w ∧ x * y + z * w ≤ 9223372019674906632 ∧ -9223372019674906632 ≤ x * y - z * w ∧ x * y - z * w ≤ 9223372019674906632 := by
  have a := mul_bd (A := 2147483646) (B := 2147483646) h1 h2 h3 h4
  have b := mul_bd (A := 2147483646) (B := 2147483646) h5 h6 h7 h8
  have e : (2147483646 : Int) * 2147483646 = 4611686009837453316 := by decide
  rw [e] at a b
  rw [W_id (x := x * y) (by omega) (by omega), W_id (x := z * w) (by omega) (by omega), W_id (x := x * y + z * w) (by omega) (by omega), W_id (x := x * y - z * w) (by omega) (by omega)]
  omega
theorem df {u v : Int} (h1 : In30 u) (h2 : In30 v) : W (u - v) = u - v ∧ -2147483646 ≤ u - v ∧ u - v ≤ 2147483646 := by
  obtain ⟨a, b⟩ := h1; obtain ⟨c, d⟩ := h2
  rw [W_id (by omega) (by omega)]; omega
theorem cross_eq {o a b : P2} (ho : PR o) (ha : PR a) (hb : PR b) : cross o a b = crossI o a b ∧ -9223372019674906632 ≤ crossI o a b ∧ crossI o a b ≤ 9223372019674906632 := by
  have p := df ha.x ho.x; have q := df hb.y ho.y; have s := df ha.y ho.y; have t := df hb.x ho.x
  unfold cross crossI
  rw [p.1, q.1, s.1, t.1]
  have e := sum2s p.2.1 p.2.2 q.2.1 q.2.2 s.2.1 s.2.2 t.2.1 t.2.2
  exact ⟨e.2.1, e.2.2.2.2⟩
theorem rDot_eq {o a b : P2} (ho : PR o) (ha : PR a) (hb : PR b) : rDot o a b = dotI o a b ∧ -9223372019674906632 ≤ dotI o a b ∧ dotI o a b ≤ 9223372019674906632 := by
  have p := df ha.x ho.x; have q := df hb.y ho.y; have s := df ha.y ho.y; have t := df hb.x ho.x
  unfold rDot dotI
  rw [p.1, q.1, s.1, t.1]
  have e := sum2s p.2.1 p.2.2 t.2.1 t.2.2 s.2.1 s.2.2 q.2.1 q.2.2
  exact ⟨e.1, e.2.2.1, e.2.2.2.1⟩
theorem rDist_eq2 {p q : P2} (hp : PR p) (hq : PR q) : rDist p q = distI p q ∧ 0 ≤ distI p q ∧ distI p q ≤ 9223372019674906632 := by
  have a := df hp.x hq.x; have b := df hp.y hq.y
  unfold rDist distI
  rw [a.1, b.1]
  have e := sum2s a.2.1 a.2.2 a.2.1 a.2.2 b.2.1 b.2.2 b.2.1 b.2.2
  have h1 := sq_nn (p.x - q.x); have h2 := sq_nn (p.y - q.y)
  exact ⟨e.1, by omega, e.2.2.2.1⟩
theorem dist2_eq {a c : P2} (ha : PR a) (hc : PR c) : dist2 (W (c.x - a.x)) (W (c.y - a.y)) = distI a c := by
  have p := df hc.x ha.x; have q := df hc.y ha.y
  unfold dist2 distI
  rw [p.1, q.1, (sum2s p.2.1 p.2.2 p.2.1 p.2.2 q.2.1 q.2.2 q.2.1 q.2.2).1]
  grind
theorem along_eq {p a c : P2} (hp : PR p) (ha : PR a) (hc : PR c) : W (W (W (p.x - a.x) * W (c.x - a.x)) + W (W (p.y - a.y) * W (c.y - a.y))) = dotI a c p := by
  have s := df hc.x ha.x; have q := df hc.y ha.y; have u := df hp.x ha.x; have v := df hp.y ha.y
  rw [s.1, q.1, u.1, v.1, (sum2s u.2.1 u.2.2 s.2.1 s.2.2 v.2.1 v.2.2 q.2.1 q.2.2).1]
  unfold dotI; grind
theorem rsq {r : Int} (h1 : 0 ≤ r) (h2 : r ≤ 2147483648) : W (r * r) = r * r ∧ 0 ≤ r * r ∧ r * r ≤ 4611686018427387904 := by
  have a := sq_bd (A := 2147483648) (x := r) (by omega) h2
  have e : (2147483648 : Int) * 2147483648 = 4611686018427387904 := by decide
  rw [W_id (by omega) (by omega)]; omega
theorem U64 {x : Int} (h1 : 0 ≤ x) (h2 : x ≤ 9223372036854775807) : U x = x ∧ In64 (U x) := by
  have : U x = x := U_id h1 (by omega)
  rw [this]; exact ⟨rfl, by omega, by omega⟩
/-- the line through a and c passes within r of p -/
def clear (p a c : P2) (r : Int) : Bool := decide (crossI a c p * crossI a c p ≤ r * r * distI a c)
theorem clear_eq {p a c : P2} {r : Int} (hp : PR p) (ha : PR a) (hc : PR c) (h1 : 0 ≤ r) (h2 : r ≤ 2147483648) :
    decide (wcmp (wsq (cross a c p)) (wmul (U (square r)) (U (dist2 (W (c.x - a.x)) (W (c.y - a.y))))) ≤ 0) = clear p a c r := by
  have k := cross_eq ha hc hp
  have d := rDist_eq2 ha hc
  have s := rsq h1 h2
  rw [k.1, dist2_eq ha hc, square_eq h1 h2]
  rw [wle (by omega) (by omega) (U64 (x := r * r) (by omega) (by omega)).2 (U64 (x := distI a c) (by omega) (by omega)).2, (U64 (x := r * r) (by omega) (by omega)).1, (U64 (x := distI a c) (by omega) (by omega)).1]
  rfl
theorem rWithin_eq {p a c : P2} {r : Int} (hp : PR p) (ha : PR a) (hc : PR c) (h1 : 0 ≤ r) (h2 : r ≤ 2147483648) :
    rWithin (cross a c p) r (rDist a c) = clear p a c r := by
  have k := cross_eq ha hc hp
  have d := rDist_eq2 ha hc
  have s := rsq h1 h2
  unfold rWithin
  rw [k.1, d.1, s.1]
  rw [rle (by omega) (by omega) (U64 (x := r * r) (by omega) (by omega)).2 (U64 (x := distI a c) (by omega) (by omega)).2, (U64 (x := r * r) (by omega) (by omega)).1, (U64 (x := distI a c) (by omega) (by omega)).1]
  rfl
end Go.Proofs.Ytddgibadiadccaa

/-! ## Bar -/
namespace Go.Proofs.Ytddgibadiadccaa
open Go Go.RowKit
set_option maxRecDepth 100000

def all4 (f : P2 → Bool) (b : B4) : Bool := f ⟨b.x0, b.y0⟩ && f ⟨b.x1, b.y0⟩ && f ⟨b.x0, b.y1⟩ && f ⟨b.x1, b.y1⟩
theorem up_sum (c : Bool) {n : Int} (h1 : -100 ≤ n) (h2 : n ≤ 100) : up c n = n + (if c then 1 else 0) := by
  cases c
  · simp [up]
  · simp only [up, bif_t, if_true]; rw [W_id (by omega) (by omega)]
theorem cnt4_sum (f : P2 → Bool) (b : B4) : cnt4 f b = (if f ⟨b.x0, b.y0⟩ then 1 else 0) + (if f ⟨b.x1, b.y0⟩ then 1 else 0) + (if f ⟨b.x0, b.y1⟩ then 1 else 0) + (if f ⟨b.x1, b.y1⟩ then 1 else 0) := by
  unfold cnt4
  cases f ⟨b.x0, b.y0⟩ <;> cases f ⟨b.x1, b.y0⟩ <;> cases f ⟨b.x0, b.y1⟩ <;> cases f ⟨b.x1, b.y1⟩ <;> decide
theorem cnt4_all (f : P2 → Bool) (b : B4) : (cnt4 f b == 4) = all4 f b := by
  rw [cnt4_sum]; unfold all4
  cases f ⟨b.x0, b.y0⟩ <;> cases f ⟨b.x1, b.y0⟩ <;> cases f ⟨b.x0, b.y1⟩ <;> cases f ⟨b.x1, b.y1⟩ <;> rfl
theorem bumps (i j k l : Int) (hi : i = -1 ∨ i = 0 ∨ i = 1) (hj : j = -1 ∨ j = 0 ∨ j = 1) (hk : k = -1 ∨ k = 0 ∨ k = 1) (hl : l = -1 ∨ l = 0 ∨ l = 1) :
    ((bump3 (W (l + 1)) (bump3 (W (k + 1)) (bump3 (W (j + 1)) (bump3 (W (i + 1)) ⟨0, 0, 0⟩)))).m == 4) = (i == -1 && j == -1 && k == -1 && l == -1)
    ∧ ((bump3 (W (l + 1)) (bump3 (W (k + 1)) (bump3 (W (j + 1)) (bump3 (W (i + 1)) ⟨0, 0, 0⟩)))).p == 4) = (i == 1 && j == 1 && k == 1 && l == 1) := by
  rcases hi with rfl | rfl | rfl <;> rcases hj with rfl | rfl | rfl <;> rcases hk with rfl | rfl | rfl <;> rcases hl with rfl | rfl | rfl <;> decide
theorem cnt3_all (f : P2 → Int) (b : B4) (h : ∀ q, f q = -1 ∨ f q = 0 ∨ f q = 1) : ((cnt3 f b).m == 4) = all4 (fun q => f q == -1) b ∧ ((cnt3 f b).p == 4) = all4 (fun q => f q == 1) b := by
  unfold cnt3 all4
  exact bumps _ _ _ _ (h _) (h _) (h _) (h _)
structure Cs (b : B4) (f g : P2 → Bool) : Prop where
  h : all4 f b = all4 g b
theorem all4_congr {f g : P2 → Bool} {b : B4} (hb : BR b) (h : ∀ q, PR q → f q = g q) : all4 f b = all4 g b := by
  unfold all4
  rw [h _ ⟨hb.x0, hb.y0⟩, h _ ⟨hb.x1, hb.y0⟩, h _ ⟨hb.x0, hb.y1⟩, h _ ⟨hb.x1, hb.y1⟩]
theorem all4_mono {f g : P2 → Bool} {b : B4} (hb : BR b) (h : ∀ q, PR q → f q = true → g q = true) (ha : all4 f b = true) : all4 g b = true := by
  unfold all4 at *
  simp only [Bool.and_eq_true] at *
  exact ⟨⟨⟨h _ ⟨hb.x0, hb.y0⟩ ha.1.1.1, h _ ⟨hb.x1, hb.y0⟩ ha.1.1.2⟩, h _ ⟨hb.x0, hb.y1⟩ ha.1.2⟩, h _ ⟨hb.x1, hb.y1⟩ ha.2⟩

/-! ### bars -/
def same (a c : P2) : Prop := a.x = c.x ∧ a.y = c.y
instance (a c : P2) : Decidable (same a c) := inferInstanceAs (Decidable (_ ∧ _))
theorem ptEq_eq (a c : P2) : ptEq a c = decide (same a c) := by
  unfold ptEq same
  by_cases h : a.x = c.x
  · by_cases k : a.y = c.y
    · simp [h, k]
    · simp [h, k]
  · simp [h]
theorem dist_pos (a c : P2) : distI a c = 0 ↔ same a c := by
  unfold distI same
  constructor
  · intro h
    have h1 := sq_nn (a.x - c.x); have h2 := sq_nn (a.y - c.y)
    have e1 : (a.x - c.x) * (a.x - c.x) = 0 := by omega
    have e2 : (a.y - c.y) * (a.y - c.y) = 0 := by omega
    have := Int.mul_eq_zero.1 e1; have := Int.mul_eq_zero.1 e2
    omega
  · rintro ⟨h, k⟩; rw [h, k]; simp
theorem dist_nn (a c : P2) : 0 ≤ distI a c := by
  unfold distI
  have h1 := sq_nn (a.x - c.x); have h2 := sq_nn (a.y - c.y); omega
theorem beside_eq {p a c : P2} {h : Int} (hp : PR p) (ha : PR a) (hc : PR c) (h1 : 0 ≤ h) (h2 : h ≤ 2147483648) :
    beside p a c h = if clear p a c h = true then 0 else if crossI a c p > 0 then 1 else -1 := by
  unfold beside
  dsimp only
  rw [clear_eq hp ha hc h1 h2, (cross_eq ha hc hp).1]
  cases clear p a c h
  · by_cases k : crossI a c p > 0
    · simp [k]
    · simp [k]
  · simp
theorem past_eq {p a c : P2} (hp : PR p) (ha : PR a) (hc : PR c) : past p a c = if dotI a c p < 0 then -1 else if dotI a c p > distI a c then 1 else 0 := by
  unfold past
  dsimp only
  rw [along_eq hp ha hc, dist2_eq ha hc]
  by_cases k : dotI a c p < 0
  · simp [k]
  · by_cases k' : dotI a c p > distI a c
    · simp [k, k']
    · simp [k, k']
def barI (p a c : P2) (h : Int) : Bool := !(decide (same a c)) && decide (1 ≤ h) && clear p a c h && decide (0 ≤ dotI a c p) && decide (dotI a c p ≤ distI a c)
theorem barHas_eq {p a c : P2} {h : Int} (hp : PR p) (ha : PR a) (hc : PR c) (h2 : h ≤ 2147483648) : barHas p a c h = barI p a c h := by
  unfold barHas barVoid barI
  rw [ptEq_eq]
  by_cases h1 : h < 1
  · have : ¬ 1 ≤ h := by omega
    simp [h1, this, orB_eq, andB_eq]
  · rw [beside_eq hp ha hc (by omega) h2, past_eq hp ha hc]
    have : 1 ≤ h := by omega
    simp only [h1, this, orB_eq, andB_eq, decide_true, decide_false, Bool.or_false, Bool.and_true]
    cases clear p a c h
    · by_cases k : crossI a c p > 0
      · simp [k]
      · simp [k]
    · by_cases k : dotI a c p < 0
      · have : ¬ 0 ≤ dotI a c p := by omega
        simp [k, this]
      · by_cases k' : dotI a c p > distI a c
        · have : ¬ dotI a c p ≤ distI a c := by omega
          simp [k, k', this]
        · have k1 : 0 ≤ dotI a c p := by omega
          have k2 : dotI a c p ≤ distI a c := by omega
          simp [k, k', k1, k2]
theorem rBarHas_eq {p a c : P2} {h : Int} (hp : PR p) (ha : PR a) (hc : PR c) (h2 : h ≤ 2147483648) : rBarHas p a c h = barI p a c h := by
  unfold rBarHas barI

  by_cases h1 : h < 1
  · have : ¬ 1 ≤ h := by omega
    simp [this, andB_eq]
  · rw [rWithin_eq hp ha hc (by omega) h2, (rDist_eq2 ha hc).1, (rDot_eq ha hc hp).1]
    have k : decide (distI a c > 0) = !(decide (same a c)) := by
      have := dist_pos a c; have := dist_nn a c
      by_cases e : same a c
      · have : distI a c = 0 := (dist_pos a c).2 e
        simp [e, this]
      · have : distI a c > 0 := by
          have : distI a c ≠ 0 := fun x => e ((dist_pos a c).1 x)
          omega
        simp [e, this]
    rw [k]
    simp only [andB_eq]
    cases decide (same a c) <;> cases clear p a c h <;> cases decide (0 ≤ dotI a c p) <;> cases decide (dotI a c p ≤ distI a c) <;> simp
def leftI (a c : P2) (h : Int) (q : P2) : Bool := !(clear q a c h) && decide (crossI a c q > 0)
def rightI (a c : P2) (h : Int) (q : P2) : Bool := !(clear q a c h) && !(decide (crossI a c q > 0))
def barCl (b : B4) (a c : P2) (h : Int) : Int :=
  if h < 1 ∨ same a c then 0 else
  if all4 (fun q => barI q a c h) b then 2 else
  if all4 (rightI a c h) b || all4 (leftI a c h) b || all4 (fun q => decide (dotI a c q < 0)) b || all4 (fun q => decide (dotI a c q > distI a c)) b then 0 else 1
theorem barClass_eq {b : B4} {a c : P2} {h : Int} (hb : BR b) (ha : PR a) (hc : PR c) (hx : b.x0 ≤ b.x1) (hy : b.y0 ≤ b.y1) (h2 : h ≤ 2147483648) : barClass b a c h = barCl b a c h := by
  unfold barClass barCl
  have e0 : barVoid a c h = decide (h < 1 ∨ same a c) := by
    unfold barVoid; rw [ptEq_eq, orB_eq]
    by_cases k : h < 1 <;> by_cases k' : same a c <;> simp [k, k']
  rw [e0]
  by_cases k0 : h < 1 ∨ same a c
  · rw [decide_eq_true k0, bif_t, if_pos k0]
  · rw [decide_eq_false k0, bif_f, if_neg k0]
    have h1 : 1 ≤ h := by omega
    have hh : boxHas b ⟨b.x0, b.y0⟩ = true := (boxHas_eq _ _).2 ⟨by simp, hx, by simp, hy⟩
    rw [hh]
    have hv : barVoid a c h = false := by rw [e0, decide_eq_false k0]
    have e1 : (cnt4 (fun p => andB (beside p a c h == 0) (past p a c == 0)) b == 4) = all4 (fun q => barI q a c h) b := by
      rw [cnt4_all]
      refine all4_congr hb fun q hq => ?_
      rw [← barHas_eq hq ha hc h2]; unfold barHas; rw [hv]; rfl
    have s3 : ∀ q, beside q a c h = -1 ∨ beside q a c h = 0 ∨ beside q a c h = 1 := fun q => by have := beside_01 q a c h; omega
    have p3 : ∀ q, past q a c = -1 ∨ past q a c = 0 ∨ past q a c = 1 := fun q => by have := past_01 q a c; omega
    rw [e1, (cnt3_all _ b s3).1, (cnt3_all _ b s3).2, (cnt3_all _ b p3).1, (cnt3_all _ b p3).2]
    have e2 : all4 (fun q => beside q a c h == -1) b = all4 (rightI a c h) b := all4_congr hb fun q hq => by
      rw [beside_eq hq ha hc (by omega) h2]; unfold rightI
      cases clear q a c h
      · by_cases k : crossI a c q > 0 <;> simp [k]
      · simp
    have e3 : all4 (fun q => beside q a c h == 1) b = all4 (leftI a c h) b := all4_congr hb fun q hq => by
      rw [beside_eq hq ha hc (by omega) h2]; unfold leftI
      cases clear q a c h
      · by_cases k : crossI a c q > 0 <;> simp [k]
      · simp
    have e4 : all4 (fun q => past q a c == -1) b = all4 (fun q => decide (dotI a c q < 0)) b := all4_congr hb fun q hq => by
      rw [past_eq hq ha hc]
      by_cases k : dotI a c q < 0
      · simp [k]
      · by_cases k' : dotI a c q > distI a c <;> simp [k, k']
    have e5 : all4 (fun q => past q a c == 1) b = all4 (fun q => decide (dotI a c q > distI a c)) b := all4_congr hb fun q hq => by
      rw [past_eq hq ha hc]
      by_cases k : dotI a c q < 0
      · have : ¬ dotI a c q > distI a c := by have := dist_nn a c; omega
        simp [k, this]
      · by_cases k' : dotI a c q > distI a c <;> simp [k, k']
    rw [e2, e3, e4, e5]
    simp only [orB_eq, Bool.not_true, bif_f]
    cases all4 (fun q => barI q a c h) b <;> cases all4 (rightI a c h) b <;> cases all4 (leftI a c h) b <;> cases all4 (fun q => decide (dotI a c q < 0)) b <;> cases all4 (fun q => decide (dotI a c q > distI a c)) b <;> rfl
theorem clear_zero {q a c : P2} {h : Int} (k : crossI a c q = 0) : clear q a c h = true := by
  unfold clear
  rw [k]
  have := Int.mul_nonneg (sq_nn h) (dist_nn a c)
  simpa using this
theorem rBar_eq {b : B4} {a c : P2} {h : Int} (hb : BR b) (ha : PR a) (hc : PR c) (h2 : h ≤ 2147483648) : rBar b a c h = barCl b a c h := by
  unfold rBar barCl
  have e0 : orB (decide (h < 1)) (rDist a c == 0) = decide (h < 1 ∨ same a c) := by
    rw [(rDist_eq2 ha hc).1, orB_eq]
    have := dist_pos a c
    by_cases k : h < 1 <;> by_cases k' : same a c <;> simp [k, k', this]
  rw [e0]
  by_cases k0 : h < 1 ∨ same a c
  · rw [decide_eq_true k0, bif_t, if_pos k0]
  · rw [decide_eq_false k0, bif_f, if_neg k0]
    have h1 : 1 ≤ h := by omega
    dsimp only
    rw [cnt4_all, cnt4_all, cnt4_all, cnt4_all, cnt4_all]
    have e1 : all4 (fun q => rBarHas q a c h) b = all4 (fun q => barI q a c h) b := all4_congr hb fun q hq => rBarHas_eq hq ha hc h2
    have e2 : all4 (fun q => andB (!(rWithin (cross a c q) h (rDist a c))) (decide (cross a c q > 0))) b = all4 (leftI a c h) b := all4_congr hb fun q hq => by
      rw [rWithin_eq hq ha hc (by omega) h2, (cross_eq ha hc hq).1, andB_eq]; rfl
    have e3 : all4 (fun q => andB (!(rWithin (cross a c q) h (rDist a c))) (decide (cross a c q < 0))) b = all4 (rightI a c h) b := all4_congr hb fun q hq => by
      rw [rWithin_eq hq ha hc (by omega) h2, (cross_eq ha hc hq).1, andB_eq]; unfold rightI
      by_cases k : crossI a c q = 0
      · rw [clear_zero k]; rfl
      · congr 1
        by_cases k' : crossI a c q < 0
        · have : ¬ crossI a c q > 0 := by omega
          simp [k', this]
        · have : crossI a c q > 0 := by omega
          simp [k', this]
    have e4 : all4 (fun q => decide (rDot a c q < 0)) b = all4 (fun q => decide (dotI a c q < 0)) b := all4_congr hb fun q hq => by rw [(rDot_eq ha hc hq).1]
    have e5 : all4 (fun q => decide (rDot a c q > rDist a c)) b = all4 (fun q => decide (dotI a c q > distI a c)) b := all4_congr hb fun q hq => by rw [(rDot_eq ha hc hq).1, (rDist_eq2 ha hc).1]
    rw [e1, e2, e3, e4, e5]
    simp only [orB_eq]
    cases all4 (fun q => barI q a c h) b <;> cases all4 (rightI a c h) b <;> cases all4 (leftI a c h) b <;> cases all4 (fun q => decide (dotI a c q < 0)) b <;> cases all4 (fun q => decide (dotI a c q > distI a c)) b <;> rfl
theorem barVoid_lt {a c : P2} {h : Int} (k : h < 1) : barVoid a c h = true := by
  unfold barVoid; rw [orB_eq, decide_eq_true k, Bool.or_true]
theorem barVoid_same (a : P2) (h : Int) : barVoid a a h = true := by
  unfold barVoid; rw [orB_eq, ptEq_eq, decide_eq_true (show same a a from ⟨rfl, rfl⟩), Bool.true_or]
theorem barClass_void {b : B4} {a c : P2} {h : Int} (k : barVoid a c h = true) : barClass b a c h = 0 := by unfold barClass; rw [k]; rfl
theorem barHas_void {p a c : P2} {h : Int} (k : barVoid a c h = true) : barHas p a c h = false := by unfold barHas; rw [k]; rfl
end Go.Proofs.Ytddgibadiadccaa

/-! ## Box -/
namespace Go.Proofs.Ytddgibadiadccaa
open Go Go.RowKit Sym
set_option maxRecDepth 100000

theorem cnt4_lt (f : P2 → Bool) (b : B4) : decide (cnt4 f b < 4) = !(all4 f b) := by
  rw [cnt4_sum]; unfold all4
  cases f ⟨b.x0, b.y0⟩ <;> cases f ⟨b.x1, b.y0⟩ <;> cases f ⟨b.x0, b.y1⟩ <;> cases f ⟨b.x1, b.y1⟩ <;> rfl
/-- the segment's own box has no point of b -/
def sepI (b : B4) (p q : P2) : Bool := decide (max p.x q.x < b.x0) || decide (min p.x q.x > b.x1) || decide (max p.y q.y < b.y0) || decide (min p.y q.y > b.y1)
def meetsI (b : B4) (p q : P2) : Bool := !(sepI b p q) && (!(all4 (fun c => decide (crossI p q c > 0)) b) && !(all4 (fun c => decide (crossI p q c < 0)) b))
theorem meets_eq {b : B4} {p q : P2} (hb : BR b) (hp : PR p) (hq : PR q) (hx : b.x0 ≤ b.x1) (hy : b.y0 ≤ b.y1) : meets b p q = meetsI b p q := by
  have e1 : all4 (fun c => decide (cross p q c > 0)) b = all4 (fun c => decide (crossI p q c > 0)) b := all4_congr hb fun c hc => by rw [(cross_eq hp hq hc).1]
  have e2 : all4 (fun c => decide (cross p q c < 0)) b = all4 (fun c => decide (crossI p q c < 0)) b := all4_congr hb fun c hc => by rw [(cross_eq hp hq hc).1]
  have e3 : emptyBx b = false := by
    unfold emptyBx; rw [orB_eq, decide_eq_false (show ¬ b.x0 > b.x1 by omega), decide_eq_false (show ¬ b.y0 > b.y1 by omega)]; rfl
  unfold meets meetsI sepI
  rw [cnt4_lt, cnt4_lt, e1, e2, e3]
  simp only [orB_eq, andB_eq, imax_eq, imin_eq, Bool.false_or]
  cases (decide (max p.x q.x < b.x0) || decide (min p.x q.x > b.x1) || decide (max p.y q.y < b.y0) || decide (min p.y q.y > b.y1)) <;> rfl
theorem rMeets_eq {b : B4} {p q : P2} (hb : BR b) (hp : PR p) (hq : PR q) : rMeets b p q = meetsI b p q := by
  have e1 : all4 (fun c => decide (cross p q c > 0)) b = all4 (fun c => decide (crossI p q c > 0)) b := all4_congr hb fun c hc => by rw [(cross_eq hp hq hc).1]
  have e2 : all4 (fun c => decide (cross p q c < 0)) b = all4 (fun c => decide (crossI p q c < 0)) b := all4_congr hb fun c hc => by rw [(cross_eq hp hq hc).1]
  unfold rMeets meetsI sepI rApart
  rw [cnt4_lt, cnt4_lt, e1, e2]
  simp only [orB_eq, andB_eq, imax_eq, imin_eq]
  have e4 : (decide (b.x1 < min p.x q.x) || decide (max p.x q.x < b.x0) || decide (b.y1 < min p.y q.y) || decide (max p.y q.y < b.y0)) = (decide (max p.x q.x < b.x0) || decide (min p.x q.x > b.x1) || decide (max p.y q.y < b.y0) || decide (min p.y q.y > b.y1)) := by
    rw [Bool.or_comm (decide (b.x1 < min p.x q.x)), Bool.or_assoc, Bool.or_assoc, Bool.or_assoc, Bool.or_assoc, Bool.or_comm (decide (b.y1 < min p.y q.y))]
  rw [e4]
  cases (decide (max p.x q.x < b.x0) || decide (min p.x q.x > b.x1) || decide (max p.y q.y < b.y0) || decide (min p.y q.y > b.y1)) <;> rfl
/-- some corner of a box is on the one side of a line through a point of the box, some on the other -/
theorem sides_in {b : B4} {p q : P2} (h : hasI b p) : all4 (fun c => decide (crossI p q c > 0)) b = false ∧ all4 (fun c => decide (crossI p q c < 0)) b = false := by
  obtain ⟨h1, h2, h3, h4⟩ := h
  have key : ∀ (u v : Int), (0 ≤ u * (b.x1 - p.x) ∧ u * (b.x0 - p.x) ≤ 0 ∨ u * (b.x1 - p.x) ≤ 0 ∧ 0 ≤ u * (b.x0 - p.x)) ∧ (0 ≤ v * (b.y1 - p.y) ∧ v * (b.y0 - p.y) ≤ 0 ∨ v * (b.y1 - p.y) ≤ 0 ∧ 0 ≤ v * (b.y0 - p.y)) := fun u v => by
    have one : ∀ (u lo hi : Int), lo ≤ 0 → 0 ≤ hi → (0 ≤ u * hi ∧ u * lo ≤ 0 ∨ u * hi ≤ 0 ∧ 0 ≤ u * lo) := fun u lo hi a c => by
      rcases Int.le_total 0 u with k | k
      · have := Int.mul_nonneg k c; have := Int.mul_nonneg k (show 0 ≤ -lo by omega)
        left; constructor
        · assumption
        · have e : u * -lo = -(u * lo) := by grind
          omega
      · have := Int.mul_nonneg (show 0 ≤ -u by omega) c; have := Int.mul_nonneg (show 0 ≤ -u by omega) (show 0 ≤ -lo by omega)
        right
        have e1 : -u * hi = -(u * hi) := by grind
        have e2 : -u * -lo = u * lo := by grind
        omega
    exact ⟨one u _ _ (by omega) (by omega), one v _ _ (by omega) (by omega)⟩
  have e : ∀ x y, crossI p q ⟨x, y⟩ = (q.x - p.x) * (y - p.y) - (q.y - p.y) * (x - p.x) := fun _ _ => rfl
  unfold all4
  simp only [e]
  obtain ⟨k1, k2⟩ := key (q.y - p.y) (q.x - p.x)
  generalize (q.x - p.x) * (b.y0 - p.y) = A at *
  generalize (q.x - p.x) * (b.y1 - p.y) = B at *
  generalize (q.y - p.y) * (b.x0 - p.x) = C at *
  generalize (q.y - p.y) * (b.x1 - p.x) = D at *
  constructor
  · simp only [Bool.and_eq_false_iff, decide_eq_false_iff_not]; omega
  · simp only [Bool.and_eq_false_iff, decide_eq_false_iff_not]; omega
theorem meetsI_in {b : B4} {p : P2} (q : P2) (h : hasI b p) : meetsI b p q = true := by
  have s := sides_in (q := q) h
  obtain ⟨h1, h2, h3, h4⟩ := h
  unfold meetsI
  rw [s.1, s.2]
  unfold sepI
  rw [decide_eq_false (show ¬ max p.x q.x < b.x0 by omega), decide_eq_false (show ¬ min p.x q.x > b.x1 by omega), decide_eq_false (show ¬ max p.y q.y < b.y0 by omega), decide_eq_false (show ¬ min p.y q.y > b.y1 by omega)]
  rfl
theorem near_zero (b : B4) (p : P2) (hx : b.x0 ≤ b.x1) (hy : b.y0 ≤ b.y1) : nearI b p = 0 ↔ hasI b p := by
  have e : ∀ v lo hi : Int, lo ≤ hi → (gapI v lo hi * gapI v lo hi = 0 ↔ lo ≤ v ∧ v ≤ hi) := fun v lo hi hh => by
    rw [Int.mul_eq_zero]
    unfold gapI; split
    · omega
    · split <;> omega
  have a := e p.x b.x0 b.x1 hx; have c := e p.y b.y0 b.y1 hy
  have n1 := sq_nn (gapI p.x b.x0 b.x1); have n2 := sq_nn (gapI p.y b.y0 b.y1)
  unfold nearI hasI
  omega

/-! ### quarters -/
def q0 (b : B4) : B4 := ⟨spl b 0 b.x0, spl b 0 b.y0, spl b 0 (midX b), spl b 0 (midY b)⟩
def q1 (b : B4) : B4 := ⟨spl b 0 (midX b), spl b 0 b.y0, spl b 0 b.x1, spl b 0 (midY b)⟩
def q2 (b : B4) : B4 := ⟨spl b 0 b.x0, spl b 0 (midY b), spl b 0 (midX b), spl b 0 b.y1⟩
def q3 (b : B4) : B4 := ⟨spl b 0 (midX b), spl b 0 (midY b), spl b 0 b.x1, spl b 0 b.y1⟩
structure Fits (b : B4) : Prop where
  x0 : -536870912 ≤ b.x0
  x : b.x0 ≤ b.x1
  x1 : b.x1 ≤ 536870912
  y0 : -536870912 ≤ b.y0
  y : b.y0 ≤ b.y1
  y1 : b.y1 ≤ 536870912
theorem lBox_fits (b : B4) : Fits (lBox b) := by
  obtain ⟨h1, h2, h3, h4, h5, h6⟩ := lBox_r b
  exact ⟨h1, h2, h3, h4, h5, h6⟩
theorem boxOk_iff (b : B4) : boxOk b = true ↔ Fits b := by
  unfold boxOk within
  simp only [andB_eq, Bool.and_eq_true, decide_eq_true_eq]
  constructor
  · rintro ⟨⟨⟨⟨⟨a, c⟩, d, e⟩, f, g⟩, h, i⟩, j, k⟩; exact ⟨d, a, i, f, c, k⟩
  · rintro ⟨a, c, d, e, f, g⟩; exact ⟨⟨⟨⟨⟨c, f⟩, by omega, by omega⟩, by omega, by omega⟩, by omega, by omega⟩, by omega, by omega⟩
theorem spl_of {b : B4} (hb : Fits b) (h : splOk b = true) : (∀ v, spl b 0 v = v) ∧ b.x0 < midX b ∧ b.y0 < midY b ∧ 2 * midX b = b.x0 + b.x1 ∧ 2 * midY b = b.y0 + b.y1 := by
  obtain ⟨a1, a2, a3, a4, a5, a6⟩ := hb
  have k : ∀ v, spl b 0 v = v := fun v => by
    unfold splOk at h; unfold spl
    cases hq : boxOk b
    · rw [hq] at h; cases h
    · rw [hq] at h
      simp only [Bool.not_true, bif_f] at h ⊢
      cases ho : orB (orB (orB (W (b.x1 - b.x0) == 0) (W (b.y1 - b.y0) == 0)) ((W (b.x1 - b.x0)).tmod 2 != 0)) ((W (b.y1 - b.y0)).tmod 2 != 0)
      · rfl
      · rw [ho] at h; cases h
  refine ⟨k, ?_⟩
  unfold splOk at h
  rw [(boxOk_iff b).2 ⟨a1, a2, a3, a4, a5, a6⟩] at h
  rw [W_id (x := b.x1 - b.x0) (by omega) (by omega), W_id (x := b.y1 - b.y0) (by omega) (by omega)] at h
  simp only [Bool.not_true, bif_f, orB_eq] at h
  have h' : ¬ (((b.x1 - b.x0 = 0 ∨ b.y1 - b.y0 = 0) ∨ (b.x1 - b.x0).tmod 2 ≠ 0) ∨ (b.y1 - b.y0).tmod 2 ≠ 0) := by
    intro q
    have : (b.x1 - b.x0 == 0 || b.y1 - b.y0 == 0 || (b.x1 - b.x0).tmod 2 != 0 || (b.y1 - b.y0).tmod 2 != 0) = true := by
      simp only [Bool.or_eq_true, beq_iff_eq, bne_iff_ne]; exact q
    rw [this] at h; cases h
  rw [Int.tmod_eq_emod_of_nonneg (by omega), Int.tmod_eq_emod_of_nonneg (by omega)] at h'
  unfold midX midY
  rw [W_id (x := b.x1 - b.x0) (by omega) (by omega), W_id (x := b.y1 - b.y0) (by omega) (by omega), Int.tdiv_eq_ediv_of_nonneg (by omega), Int.tdiv_eq_ediv_of_nonneg (by omega),
    W_id (x := (b.x1 - b.x0) / 2) (by omega) (by omega), W_id (x := (b.y1 - b.y0) / 2) (by omega) (by omega), W_id (by omega) (by omega), W_id (by omega) (by omega)]
  omega
def badQ (b s : B4) (c d : P2) : Bool := orB (orB (orB (!(boxOk s)) (apart s b)) (!(boxHas b c))) (!(ptEq c d))
theorem badQ_no {b s : B4} {c : P2} (hs : Fits s) (h1 : b.x0 ≤ s.x0) (h2 : s.x1 ≤ b.x1) (h3 : b.y0 ≤ s.y0) (h4 : s.y1 ≤ b.y1) (hc : hasI s c) : badQ b s c c = false := by
  obtain ⟨a1, a2, a3, a4, a5, a6⟩ := id hs
  obtain ⟨c1, c2, c3, c4⟩ := hc
  have e1 : boxOk s = true := (boxOk_iff s).2 hs
  have e2 : apart s b = false := by
    unfold apart emptyBx
    simp only [orB_eq, Bool.or_eq_false_iff, decide_eq_false_iff_not]
    omega
  have e3 : boxHas b c = true := (boxHas_eq b c).2 ⟨by omega, by omega, by omega, by omega⟩
  have e4 : ptEq c c = true := by rw [ptEq_eq]; exact decide_eq_true ⟨rfl, rfl⟩
  unfold badQ; rw [e1, e2, e3, e4]; rfl
def boxHolds (b0 : B4) (x y : Int) (p0 : P2) : Bool :=
  let b := lBox b0
  let p := lPt p0
  let q := lIn b x y
  let d := rDist p q
  bif orB (orB (orB (!(boxHas b q)) (decide (near b p > d))) (decide (most b p < d))) (!((near b p == 0) == boxHas b p)) then false else
  let fin := fun n => andB (andB (orB (!(splOk b)) (decide (n ≥ 1))) (meets b q p)) true
  let n1 := up (boxHas (q0 b) q) 0
  let n2 := up (boxHas (q1 b) q) n1
  let n3 := up (boxHas (q2 b) q) n2
  let n4 := up (boxHas (q3 b) q) n3
  bif splOk b then bif badQ b (q0 b) ⟨(q0 b).x0, (q0 b).y0⟩ ⟨b.x0, b.y0⟩ then false else
  bif splOk b then bif badQ b (q1 b) ⟨(q1 b).x1, (q1 b).y0⟩ ⟨b.x1, b.y0⟩ then false else
  bif splOk b then bif badQ b (q2 b) ⟨(q2 b).x0, (q2 b).y1⟩ ⟨b.x0, b.y1⟩ then false else
  bif splOk b then bif badQ b (q3 b) ⟨(q3 b).x1, (q3 b).y1⟩ ⟨b.x1, b.y1⟩ then false else fin n4 else fin n3 else fin n2 else fin n1 else fin 0
theorem boxHolds_true (b0 : B4) (x y : Int) (p0 : P2) : boxHolds b0 x y p0 = true := by
  have hb := lBox_fits b0
  have hB := lBox_R b0
  have hP := lPt_R p0
  have hq := (lIn_has x y hB hb.x hb.y).1
  unfold boxHolds
  dsimp only
  generalize lBox b0 = b at *
  generalize lPt p0 = p at *
  generalize lIn b x y = q at *
  have hQ : PR q := by
    obtain ⟨⟨a1, a2⟩, ⟨a3, a4⟩, ⟨a5, a6⟩, a7, a8⟩ := hB
    obtain ⟨h1, h2, h3, h4⟩ := hq
    exact ⟨⟨by omega, by omega⟩, ⟨by omega, by omega⟩⟩
  have e0 : orB (orB (orB (!(boxHas b q)) (decide (near b p > rDist p q))) (decide (most b p < rDist p q))) (!((near b p == 0) == boxHas b p)) = false := by
    rw [(boxHas_eq b q).2 hq, (near_eq hB hP).1, (most_eq hB hP).1, (rDist_eq2 hP hQ).1]
    have a := near_le (p := p) hq; have c := most_ge (p := p) hq
    rw [decide_eq_false (show ¬ nearI b p > distI p q by omega), decide_eq_false (show ¬ mostI b p < distI p q by omega)]
    have z := near_zero b p hb.x hb.y
    have : (nearI b p == 0) = boxHas b p := by
      rw [Bool.eq_iff_iff, boxHas_eq, beq_iff_eq]; exact z
    rw [this]; simp [orB_eq]
  rw [e0, bif_f, meets_eq hB hQ hP hb.x hb.y, meetsI_in p hq]
  cases hs : splOk b
  · rfl
  · obtain ⟨k, l1, l2, l3, l4⟩ := spl_of hb hs
    obtain ⟨a1, a2, a3, a4, a5, a6⟩ := hb
    obtain ⟨h1, h2, h3, h4⟩ := hq
    unfold q0 q1 q2 q3
    simp only [k]
    rw [badQ_no (b := b) (s := ⟨b.x0, b.y0, midX b, midY b⟩) (c := ⟨b.x0, b.y0⟩) ⟨a1, by dsimp only; omega, by dsimp only; omega, a4, by dsimp only; omega, by dsimp only; omega⟩ (by simp) (by dsimp only; omega) (by simp) (by dsimp only; omega) ⟨by simp, by dsimp only; omega, by simp, by dsimp only; omega⟩,
      badQ_no (b := b) (s := ⟨midX b, b.y0, b.x1, midY b⟩) (c := ⟨b.x1, b.y0⟩) ⟨by dsimp only; omega, by dsimp only; omega, by dsimp only; omega, a4, by dsimp only; omega, by dsimp only; omega⟩ (by dsimp only; omega) (by simp) (by simp) (by dsimp only; omega) ⟨by dsimp only; omega, by simp, by simp, by dsimp only; omega⟩,
      badQ_no (b := b) (s := ⟨b.x0, midY b, midX b, b.y1⟩) (c := ⟨b.x0, b.y1⟩) ⟨a1, by dsimp only; omega, by dsimp only; omega, by dsimp only; omega, by dsimp only; omega, by dsimp only; omega⟩ (by simp) (by dsimp only; omega) (by dsimp only; omega) (by simp) ⟨by simp, by dsimp only; omega, by dsimp only; omega, by simp⟩,
      badQ_no (b := b) (s := ⟨midX b, midY b, b.x1, b.y1⟩) (c := ⟨b.x1, b.y1⟩) ⟨by dsimp only; omega, by dsimp only; omega, by dsimp only; omega, by dsimp only; omega, by dsimp only; omega, by dsimp only; omega⟩ (by dsimp only; omega) (by simp) (by dsimp only; omega) (by simp) ⟨by dsimp only; omega, by simp, by dsimp only; omega, by simp⟩]
    have u : ∀ (c : Bool) (n : Int), 0 ≤ n → n ≤ 10 → n ≤ up c n ∧ up c n ≤ n + 1 ∧ (c = true → up c n = n + 1) := fun c n a d => by
      rw [up_sum c (by omega) (by omega)]; cases c <;> simp <;> omega
    have u1 := u (boxHas ⟨b.x0, b.y0, midX b, midY b⟩ q) 0 (by omega) (by omega)
    have u2 := u (boxHas ⟨midX b, b.y0, b.x1, midY b⟩ q) _ u1.1 (by omega)
    have u3 := u (boxHas ⟨b.x0, midY b, midX b, b.y1⟩ q) _ (Int.le_trans u1.1 u2.1) (by omega)
    have u4 := u (boxHas ⟨midX b, midY b, b.x1, b.y1⟩ q) _ (Int.le_trans (Int.le_trans u1.1 u2.1) u3.1) (by omega)
    have n : up (boxHas ⟨midX b, midY b, b.x1, b.y1⟩ q) (up (boxHas ⟨b.x0, midY b, midX b, b.y1⟩ q) (up (boxHas ⟨midX b, b.y0, b.x1, midY b⟩ q) (up (boxHas ⟨b.x0, b.y0, midX b, midY b⟩ q) 0))) ≥ 1 := by
      by_cases kx : q.x ≤ midX b
      · by_cases ky : q.y ≤ midY b
        · have := u1.2.2 ((boxHas_eq _ _).2 ⟨h1, kx, h3, ky⟩); omega
        · have := u3.2.2 ((boxHas_eq _ _).2 ⟨h1, kx, by dsimp only; omega, h4⟩); omega
      · by_cases ky : q.y ≤ midY b
        · have := u2.2.2 ((boxHas_eq _ _).2 ⟨by dsimp only; omega, h2, h3, ky⟩); omega
        · have := u4.2.2 ((boxHas_eq _ _).2 ⟨by dsimp only; omega, h2, by dsimp only; omega, h4⟩); omega
    simp only [bif_t, bif_f]
    rw [decide_eq_true n]; rfl
end Go.Proofs.Ytddgibadiadccaa

/-! ## Lin -/
namespace Go.Proofs.Ytddgibadiadccaa
open Go Go.RowKit Sym
set_option maxRecDepth 100000

/-- p is in the stroke -/
def lineI (p a c : P2) (r : Int) : Bool :=
  if dotI a c p ≤ 0 then decide (distI p a ≤ r * r) else if dotI a c p ≥ distI a c then decide (distI p c ≤ r * r) else clear p a c r
theorem lineHas_eq {p a c : P2} {r : Int} (hp : PR p) (ha : PR a) (hc : PR c) (h1 : 1 ≤ r) (h2 : r ≤ 2147483648) : lineHas p a c r = lineI p a c r := by
  unfold lineHas lineI
  rw [decide_eq_false (show ¬ r < 1 by omega), bif_f]
  dsimp only
  rw [along_eq hp ha hc, dist2_eq ha hc]
  have e := clear_eq hp ha hc (r := r) (by omega) h2
  rw [dist2_eq ha hc] at e
  rw [e, square_eq (by omega) h2]
  have n1 := near_eq (b := ⟨a.x, a.y, a.x, a.y⟩) ⟨ha.x, ha.y, ha.x, ha.y⟩ hp
  have n2 := near_eq (b := ⟨c.x, c.y, c.x, c.y⟩) ⟨hc.x, hc.y, hc.x, hc.y⟩ hp
  rw [n1.1, n2.1, dist_near, dist_near]
  by_cases k : dotI a c p ≤ 0
  · simp [k]
  · by_cases k' : dotI a c p ≥ distI a c
    · simp [k, k']
    · simp [k, k']
theorem rLineHas_eq {p a c : P2} {r : Int} (hp : PR p) (ha : PR a) (hc : PR c) (h1 : 1 ≤ r) (h2 : r ≤ 2147483648) : rLineHas p a c r = lineI p a c r := by
  unfold rLineHas lineI
  rw [decide_eq_false (show ¬ r < 1 by omega), bif_f]
  rw [rWithin_eq hp ha hc (by omega) h2, (rDot_eq ha hc hp).1, (rDist_eq2 ha hc).1, (rDist_eq2 hp ha).1, (rDist_eq2 hp hc).1, (rsq (r := r) (by omega) h2).1]
  by_cases k : dotI a c p ≤ 0
  · simp [k]
  · by_cases k' : dotI a c p ≥ distI a c
    · simp [k, k']
    · simp [k, k']
def any4 (f : P2 → Bool) (b : B4) : Bool := f ⟨b.x0, b.y0⟩ || f ⟨b.x1, b.y0⟩ || f ⟨b.x0, b.y1⟩ || f ⟨b.x1, b.y1⟩
theorem cnt4_any (f : P2 → Bool) (b : B4) : decide (cnt4 f b > 0) = any4 f b := by
  rw [cnt4_sum]; unfold any4
  cases f ⟨b.x0, b.y0⟩ <;> cases f ⟨b.x1, b.y0⟩ <;> cases f ⟨b.x0, b.y1⟩ <;> cases f ⟨b.x1, b.y1⟩ <;> rfl
theorem cnt4_none (f : P2 → Bool) (b : B4) : (cnt4 f b == 0) = !(any4 f b) := by
  rw [cnt4_sum]; unfold any4
  cases f ⟨b.x0, b.y0⟩ <;> cases f ⟨b.x1, b.y0⟩ <;> cases f ⟨b.x0, b.y1⟩ <;> cases f ⟨b.x1, b.y1⟩ <;> rfl
theorem any4_congr {f g : P2 → Bool} {b : B4} (hb : BR b) (h : ∀ q, PR q → f q = g q) : any4 f b = any4 g b := by
  unfold any4
  rw [h _ ⟨hb.x0, hb.y0⟩, h _ ⟨hb.x1, hb.y0⟩, h _ ⟨hb.x0, hb.y1⟩, h _ ⟨hb.x1, hb.y1⟩]
def lineCl (b : B4) (a c : P2) (r : Int) : Int :=
  if all4 (fun q => lineI q a c r) b then 2 else
  if any4 (fun q => lineI q a c r) b || decide (nearI b a ≤ r * r) || decide (nearI b c ≤ r * r) || meetsI b a c then 1 else 0
theorem lineClass_lt {b : B4} {a c : P2} {r : Int} (h : r < 1) : lineClass b a c r = 0 := by unfold lineClass; rw [decide_eq_true h]; rfl
theorem lineHas_lt {p a c : P2} {r : Int} (h : r < 1) : lineHas p a c r = false := by unfold lineHas; rw [decide_eq_true h]; rfl
theorem lineClass_eq {b : B4} {a c : P2} {r : Int} (hb : BR b) (ha : PR a) (hc : PR c) (hx : b.x0 ≤ b.x1) (hy : b.y0 ≤ b.y1) (h1 : 1 ≤ r) (h2 : r ≤ 2147483648) : lineClass b a c r = lineCl b a c r := by
  unfold lineClass lineCl
  have hh : boxHas b ⟨b.x0, b.y0⟩ = true := (boxHas_eq _ _).2 ⟨by simp, hx, by simp, hy⟩
  rw [hh, decide_eq_false (show ¬ r < 1 by omega)]
  have e1 : all4 (fun p => lineHas p a c r) b = all4 (fun p => lineI p a c r) b := all4_congr hb fun q hq => lineHas_eq hq ha hc h1 h2
  have e2 : any4 (fun p => lineHas p a c r) b = any4 (fun p => lineI p a c r) b := any4_congr hb fun q hq => lineHas_eq hq ha hc h1 h2
  dsimp only
  rw [cnt4_all, cnt4_any, e1, e2, square_eq (by omega) h2, (near_eq hb ha).1, (near_eq hb hc).1, meets_eq hb ha hc hx hy]
  simp only [orB_eq, Bool.not_true, Bool.or_false, bif_f]
  cases all4 (fun p => lineI p a c r) b
  · cases (any4 (fun p => lineI p a c r) b || decide (nearI b a ≤ r * r) || decide (nearI b c ≤ r * r) || meetsI b a c) <;> rfl
  · rfl
theorem clamp_dist {b : B4} {p : P2} (hx : b.x0 ≤ b.x1) (hy : b.y0 ≤ b.y1) : distI p ⟨imin (imax p.x b.x0) b.x1, imin (imax p.y b.y0) b.y1⟩ = nearI b p := by
  have e : ∀ u lo hi : Int, lo ≤ hi → (u - min (max u lo) hi) * (u - min (max u lo) hi) = gapI u lo hi * gapI u lo hi := fun u lo hi h => by
    have : gapI u lo hi = u - min (max u lo) hi ∨ gapI u lo hi = -(u - min (max u lo) hi) := by unfold gapI; split <;> omega
    rcases this with h | h <;> rw [h]
    grind
  unfold distI nearI
  simp only [imin_eq, imax_eq]
  rw [e _ _ _ hx, e _ _ _ hy]
theorem rNear_eq2 {b : B4} {p : P2} (hb : BR b) (hp : PR p) (hx : b.x0 ≤ b.x1) (hy : b.y0 ≤ b.y1) : rNear b p = nearI b p := by
  obtain ⟨⟨a1, a2⟩, ⟨a3, a4⟩, ⟨a5, a6⟩, a7, a8⟩ := hb
  unfold rNear
  rw [(rDist_eq2 hp (q := ⟨imin (imax p.x b.x0) b.x1, imin (imax p.y b.y0) b.y1⟩) ⟨⟨by dsimp only; simp only [imin_eq, imax_eq]; omega, by dsimp only; simp only [imin_eq, imax_eq]; omega⟩, ⟨by dsimp only; simp only [imin_eq, imax_eq]; omega, by dsimp only; simp only [imin_eq, imax_eq]; omega⟩⟩).1, clamp_dist hx hy]
theorem rLine_eq {b : B4} {a c : P2} {r : Int} (hb : BR b) (ha : PR a) (hc : PR c) (hx : b.x0 ≤ b.x1) (hy : b.y0 ≤ b.y1) (h1 : 1 ≤ r) (h2 : r ≤ 2147483648) : rLine b a c r = lineCl b a c r := by
  unfold rLine lineCl
  rw [decide_eq_false (show ¬ r < 1 by omega), bif_f]
  have e1 : all4 (fun p => rLineHas p a c r) b = all4 (fun p => lineI p a c r) b := all4_congr hb fun q hq => rLineHas_eq hq ha hc h1 h2
  have e2 : any4 (fun p => rLineHas p a c r) b = any4 (fun p => lineI p a c r) b := any4_congr hb fun q hq => rLineHas_eq hq ha hc h1 h2
  dsimp only
  rw [cnt4_all, cnt4_any, e1, e2, (rsq (r := r) (by omega) h2).1, rNear_eq2 hb ha hx hy, rNear_eq2 hb hc hx hy, rMeets_eq hb ha hc]
  simp only [orB_eq]
  cases all4 (fun p => lineI p a c r) b <;> cases any4 (fun p => lineI p a c r) b <;> cases decide (nearI b a ≤ r * r) <;> cases decide (nearI b c ≤ r * r) <;> cases meetsI b a c <;> rfl

/-! ### corners say all of what is linear -/
def isC (b : B4) (c : P2) : Prop := (c.x = b.x0 ∨ c.x = b.x1) ∧ (c.y = b.y0 ∨ c.y = b.y1)
theorem all4_iff {f : P2 → Bool} {b : B4} : all4 f b = true ↔ ∀ c, isC b c → f c = true := by
  unfold all4
  simp only [Bool.and_eq_true]
  constructor
  · rintro ⟨⟨⟨h1, h2⟩, h3⟩, h4⟩ ⟨x, y⟩ ⟨hx, hy⟩
    dsimp only at hx hy
    rcases hx with rfl | rfl <;> rcases hy with rfl | rfl <;> assumption
  · intro h
    exact ⟨⟨⟨h _ ⟨.inl rfl, .inl rfl⟩, h _ ⟨.inr rfl, .inl rfl⟩⟩, h _ ⟨.inl rfl, .inr rfl⟩⟩, h _ ⟨.inr rfl, .inr rfl⟩⟩
theorem any4_iff {f : P2 → Bool} {b : B4} : any4 f b = true ↔ ∃ c, isC b c ∧ f c = true := by
  unfold any4
  simp only [Bool.or_eq_true]
  constructor
  · rintro (((h | h) | h) | h)
    · exact ⟨_, ⟨.inl rfl, .inl rfl⟩, h⟩
    · exact ⟨_, ⟨.inr rfl, .inl rfl⟩, h⟩
    · exact ⟨_, ⟨.inl rfl, .inr rfl⟩, h⟩
    · exact ⟨_, ⟨.inr rfl, .inr rfl⟩, h⟩
  · rintro ⟨⟨x, y⟩, ⟨hx, hy⟩, h⟩
    dsimp only at hx hy
    rcases hx with rfl | rfl <;> rcases hy with rfl | rfl <;> simp [h]
theorem isC_has {b : B4} {c : P2} (hx : b.x0 ≤ b.x1) (hy : b.y0 ≤ b.y1) (h : isC b c) : hasI b c := by
  obtain ⟨h1, h2⟩ := h
  exact ⟨by omega, by omega, by omega, by omega⟩
/-- some corner has at least so much of a linear form -/
theorem corner_ge {b : B4} {q : P2} (u v : Int) (h : hasI b q) : ∃ c, isC b c ∧ u * q.x + v * q.y ≤ u * c.x + v * c.y := by
  obtain ⟨h1, h2, h3, h4⟩ := h
  have one : ∀ u x lo hi : Int, lo ≤ x → x ≤ hi → u * x ≤ u * lo ∨ u * x ≤ u * hi := fun u x lo hi a c => by
    rcases Int.le_total 0 u with k | k
    · right; exact Int.mul_le_mul_of_nonneg_left c k
    · left
      have := Int.mul_nonneg (show 0 ≤ -u by omega) (show 0 ≤ x - lo by omega)
      have e : -u * (x - lo) = u * lo - u * x := by grind
      omega
  rcases one u q.x b.x0 b.x1 h1 h2 with k | k <;> rcases one v q.y b.y0 b.y1 h3 h4 with k' | k'
  · exact ⟨⟨b.x0, b.y0⟩, ⟨.inl rfl, .inl rfl⟩, by dsimp only; omega⟩
  · exact ⟨⟨b.x0, b.y1⟩, ⟨.inl rfl, .inr rfl⟩, by dsimp only; omega⟩
  · exact ⟨⟨b.x1, b.y0⟩, ⟨.inr rfl, .inl rfl⟩, by dsimp only; omega⟩
  · exact ⟨⟨b.x1, b.y1⟩, ⟨.inr rfl, .inr rfl⟩, by dsimp only; omega⟩
theorem cross_lin (a c p : P2) : crossI a c p = -(c.y - a.y) * p.x + (c.x - a.x) * p.y + ((c.y - a.y) * a.x - (c.x - a.x) * a.y) := by unfold crossI; grind
theorem dot_lin (a c p : P2) : dotI a c p = (c.x - a.x) * p.x + (c.y - a.y) * p.y - ((c.x - a.x) * a.x + (c.y - a.y) * a.y) := by unfold dotI; grind
theorem cross_ge {b : B4} {q : P2} (a c : P2) (h : hasI b q) : ∃ k, isC b k ∧ crossI a c q ≤ crossI a c k := by
  obtain ⟨k, hk, hl⟩ := corner_ge (-(c.y - a.y)) (c.x - a.x) h
  exact ⟨k, hk, by rw [cross_lin, cross_lin]; omega⟩
theorem cross_le {b : B4} {q : P2} (a c : P2) (h : hasI b q) : ∃ k, isC b k ∧ crossI a c k ≤ crossI a c q := by
  obtain ⟨k, hk, hl⟩ := corner_ge (c.y - a.y) (-(c.x - a.x)) h
  refine ⟨k, hk, ?_⟩
  rw [cross_lin, cross_lin a c q]
  have e1 : -(c.y - a.y) * q.x = -((c.y - a.y) * q.x) := by grind
  have e2 : -(c.x - a.x) * q.y = -((c.x - a.x) * q.y) := by grind
  have e3 : -(c.y - a.y) * k.x = -((c.y - a.y) * k.x) := by grind
  have e4 : -(c.x - a.x) * k.y = -((c.x - a.x) * k.y) := by grind
  rw [e1, e3]; rw [e2, e4] at hl; omega
theorem dot_ge {b : B4} {q : P2} (a c : P2) (h : hasI b q) : ∃ k, isC b k ∧ dotI a c q ≤ dotI a c k := by
  obtain ⟨k, hk, hl⟩ := corner_ge (c.x - a.x) (c.y - a.y) h
  exact ⟨k, hk, by rw [dot_lin, dot_lin]; omega⟩
theorem dot_le {b : B4} {q : P2} (a c : P2) (h : hasI b q) : ∃ k, isC b k ∧ dotI a c k ≤ dotI a c q := by
  obtain ⟨k, hk, hl⟩ := corner_ge (-(c.x - a.x)) (-(c.y - a.y)) h
  refine ⟨k, hk, ?_⟩
  rw [dot_lin, dot_lin a c q]
  have e1 : -(c.y - a.y) * q.y = -((c.y - a.y) * q.y) := by grind
  have e2 : -(c.x - a.x) * q.x = -((c.x - a.x) * q.x) := by grind
  have e3 : -(c.y - a.y) * k.y = -((c.y - a.y) * k.y) := by grind
  have e4 : -(c.x - a.x) * k.x = -((c.x - a.x) * k.x) := by grind
  rw [e1, e2, e3, e4] at hl; omega
/-- what is clear at the corners is clear within -/
theorem clear_in {b : B4} {q a c : P2} {r : Int} (h : hasI b q) (hk : ∀ k, isC b k → clear k a c r = true) : clear q a c r = true := by
  unfold clear at *
  simp only [decide_eq_true_eq] at *
  rcases Int.le_total 0 (crossI a c q) with s | s
  · obtain ⟨k, hc, hl⟩ := cross_ge a c h
    have := hk k hc
    have := sq_le (x := crossI a c q) (y := crossI a c k) (by omega) hl
    omega
  · obtain ⟨k, hc, hl⟩ := cross_le a c h
    have := hk k hc
    have t := sq_le (x := crossI a c q) (y := -crossI a c k) (by omega) (by omega)
    have e : -crossI a c k * -crossI a c k = crossI a c k * crossI a c k := by grind
    omega
/-- the product of lengths is told by both products -/
theorem lagrange (a c p : P2) : distI a c * distI p a = dotI a c p * dotI a c p + crossI a c p * crossI a c p := by
  unfold distI dotI crossI; grind
theorem lagrange2 (a c p : P2) : distI a c * distI p c = (dotI a c p - distI a c) * (dotI a c p - distI a c) + crossI a c p * crossI a c p := by
  unfold distI dotI crossI; grind
end Go.Proofs.Ytddgibadiadccaa

/-! ## Disc -/
namespace Go.Proofs.Ytddgibadiadccaa
open Go Go.RowKit Sym
set_option maxRecDepth 100000

theorem pt_BR {p : P2} (h : PR p) : BR ⟨p.x, p.y, p.x, p.y⟩ := ⟨h.x, h.y, h.x, h.y⟩
theorem discHas_eq {p c : P2} {r : Int} (hp : PR p) (hc : PR c) (h1 : 1 ≤ r) (h2 : r ≤ 2147483648) : discHas p c r = decide (distI p c ≤ r * r) := by
  unfold discHas
  rw [decide_eq_false (show ¬ r < 1 by omega), bif_f, (near_eq (pt_BR hc) hp).1, dist_near, square_eq (by omega) h2]
theorem discHas_no {p c : P2} {r : Int} (h : r < 1) : discHas p c r = false := by
  unfold discHas; rw [decide_eq_true h, bif_t]
theorem discClass_no {b : B4} {c : P2} {r : Int} (h : r < 1) : discClass b c r = 0 := by
  unfold discClass; rw [decide_eq_true h]; rfl
theorem discClass_eq {b : B4} {c : P2} {r : Int} (hb : BR b) (hc : PR c) (hx : b.x0 ≤ b.x1) (hy : b.y0 ≤ b.y1) (h1 : 1 ≤ r) (h2 : r ≤ 2147483648) :
    discClass b c r = if nearI b c > r * r then 0 else if mostI b c ≤ r * r then 2 else 1 := by
  unfold discClass
  have hh : boxHas b ⟨b.x0, b.y0⟩ = true := (boxHas_eq _ _).2 ⟨by simp, hx, by simp, hy⟩
  rw [decide_eq_false (show ¬ r < 1 by omega), hh, (near_eq hb hc).1, (most_eq hb hc).1, square_eq (by omega) h2]
  show (bif decide (nearI b c > r * r) then 0 else bif decide (mostI b c ≤ r * r) then 2 else 1) = _
  by_cases k : nearI b c > r * r
  · rw [decide_eq_true k, if_pos k]; rfl
  · rw [decide_eq_false k, if_neg k, bif_f]
    by_cases k' : mostI b c ≤ r * r
    · rw [decide_eq_true k', if_pos k']; rfl
    · rw [decide_eq_false k', if_neg k']; rfl

/-! ### the reference -/
theorem rDist_eq {p q : P2} (hp : PR p) (hq : PR q) : rDist p q = distI p q := by
  obtain ⟨⟨a, b⟩, c, d⟩ := hp; obtain ⟨⟨e, f⟩, g, h⟩ := hq
  unfold rDist distI
  rw [W_id (x := p.x - q.x) (by omega) (by omega), W_id (x := p.y - q.y) (by omega) (by omega)]
  have k := sq_bd (A := 2147483646) (x := p.x - q.x) (by omega) (by omega)
  have l := sq_bd (A := 2147483646) (x := p.y - q.y) (by omega) (by omega)
  have m : (2147483646 : Int) * 2147483646 = 4611686009837453316 := by decide
  rw [m] at k l
  rw [W_id (x := (p.x - q.x) * (p.x - q.x)) (by omega) (by omega), W_id (x := (p.y - q.y) * (p.y - q.y)) (by omega) (by omega), W_id (by omega) (by omega)]
theorem rNear_eq {b : B4} {p : P2} (hb : BR b) (hp : PR p) (hx : b.x0 ≤ b.x1) (hy : b.y0 ≤ b.y1) : rNear b p = nearI b p := by
  unfold rNear
  simp only [imin_eq, imax_eq]
  obtain ⟨⟨a1, a2⟩, ⟨a3, a4⟩, ⟨a5, a6⟩, a7, a8⟩ := hb
  have hq : PR ⟨min (max p.x b.x0) b.x1, min (max p.y b.y0) b.y1⟩ := ⟨⟨by dsimp only; omega, by dsimp only; omega⟩, ⟨by dsimp only; omega, by dsimp only; omega⟩⟩
  rw [rDist_eq hp hq]
  have e : ∀ u lo hi : Int, lo ≤ hi → (u - min (max u lo) hi) * (u - min (max u lo) hi) = gapI u lo hi * gapI u lo hi := fun u lo hi h => by
    have : gapI u lo hi = u - min (max u lo) hi ∨ gapI u lo hi = -(u - min (max u lo) hi) := by unfold gapI; split <;> omega
    rcases this with h | h <;> rw [h]
    grind
  unfold distI nearI
  dsimp only
  rw [e _ _ _ hx, e _ _ _ hy]
theorem rMost_eq {b : B4} {p : P2} (hb : BR b) (hp : PR p) (hx : b.x0 ≤ b.x1) (hy : b.y0 ≤ b.y1) : rMost b p = mostI b p := by
  unfold rMost
  rw [rDist_eq hp ⟨hb.x0, hb.y0⟩, rDist_eq hp ⟨hb.x1, hb.y0⟩, rDist_eq hp ⟨hb.x0, hb.y1⟩, rDist_eq hp ⟨hb.x1, hb.y1⟩]
  simp only [imax_eq]
  have e : ∀ u lo hi : Int, lo ≤ hi → reachI u lo hi * reachI u lo hi = max ((u - lo) * (u - lo)) ((u - hi) * (u - hi)) := fun u lo hi h => by
    have h5 : (reachI u lo hi = u - lo ∧ -(u - lo) ≤ u - hi ∧ u - hi ≤ u - lo) ∨ (reachI u lo hi = -(u - hi) ∧ u - hi ≤ u - lo ∧ u - lo ≤ -(u - hi)) := by unfold reachI; omega
    rcases h5 with ⟨h6, h7, h8⟩ | ⟨h6, h7, h8⟩
    · have := sq_le h7 h8
      rw [h6]; omega
    · have := sq_le (x := u - lo) (y := -(u - hi)) (by omega) h8
      have e : -(u - hi) * -(u - hi) = (u - hi) * (u - hi) := by grind
      rw [h6, e]; rw [e] at this; omega
  unfold distI mostI
  dsimp only
  rw [e _ _ _ hx, e _ _ _ hy]
  omega
theorem rDiscHas_eq {p c : P2} {r : Int} (hp : PR p) (hc : PR c) (h1 : 1 ≤ r) (h2 : r ≤ 2147483648) : rDiscHas p c r = decide (distI p c ≤ r * r) := by
  have a := sq_bd (A := 2147483648) (x := r) (by omega) h2
  unfold rDiscHas
  rw [decide_eq_true (show r ≥ 1 by omega), rDist_eq hp hc, W_id (by omega) (by omega)]; rfl
theorem rDisc_eq {b : B4} {c : P2} {r : Int} (hb : BR b) (hc : PR c) (hx : b.x0 ≤ b.x1) (hy : b.y0 ≤ b.y1) (h1 : 1 ≤ r) (h2 : r ≤ 2147483648) : rDisc b c r = discClass b c r := by
  have a := sq_bd (A := 2147483648) (x := r) (by omega) h2
  rw [discClass_eq hb hc hx hy h1 h2]
  unfold rDisc
  rw [decide_eq_false (show ¬ r < 1 by omega), rNear_eq hb hc hx hy, rMost_eq hb hc hx hy, W_id (by omega) (by omega)]
  show (bif decide (nearI b c > r * r) then 0 else bif decide (mostI b c ≤ r * r) then 2 else 1) = _
  by_cases k : nearI b c > r * r
  · rw [decide_eq_true k, if_pos k]; rfl
  · rw [decide_eq_false k, if_neg k, bif_f]
    by_cases k' : mostI b c ≤ r * r
    · rw [decide_eq_true k', if_pos k']; rfl
    · rw [decide_eq_false k', if_neg k']; rfl

/-! ### DiscFar -/
def sel4 (i a b c d : Int) : Int := bif decide (i = ((0 : Nat) : Int)) then a else bif decide (i = ((1 : Nat) : Int)) then b else bif decide (i = ((2 : Nat) : Int)) then c else d
def dfC (at_ : Int) : P2 := ⟨sel4 (band at_ 3) 536870912 (W (0 - 536870912)) 536870912 (W (0 - 536870912)), sel4 (band at_ 3) 536870912 536870912 (W (0 - 536870912)) (W (0 - 536870912))⟩
def dfR (less : Int) : Int := W (536870912 - (lR less).tmod 1000)
def discFar (p0 : P2) (at_ less : Int) : Bool :=
  let c := dfC at_
  let p := lPt p0
  let r := dfR less
  let d := W (W (W (p.x - c.x) * W (p.x - c.x)) + W (W (p.y - c.y) * W (p.y - c.y)))
  let k := discClass ⟨p.x, p.y, p.x, p.y⟩ c r
  andB (andB (andB (discHas p c r == decide (d ≤ W (r * r))) ((k == 2) == decide (d ≤ W (r * r)))) ((k == 0) == decide (d > W (r * r)))) true
theorem discFar_true (p0 : P2) (at_ less : Int) : discFar p0 at_ less = true := by
  have hp := lPt_R p0
  have hc : PR (dfC at_) := by
    have e : W (0 - 536870912) = -536870912 := by decide
    have s : ∀ i a b c d : Int, (a = 536870912 ∨ a = -536870912) → (b = 536870912 ∨ b = -536870912) → (c = 536870912 ∨ c = -536870912) → (d = 536870912 ∨ d = -536870912) → In30 (sel4 i a b c d) := by
      intro i a b c d h1 h2 h3 h4
      have t : ∀ q1 q2 q3 : Bool, In30 (bif q1 then a else bif q2 then b else bif q3 then c else d) := by
        intro q1 q2 q3
        unfold In30
        cases q1 <;> cases q2 <;> cases q3 <;> simp only [cond_true, cond_false] <;> omega
      exact t _ _ _
    unfold dfC; rw [e]
    exact ⟨s _ _ _ _ _ (.inl rfl) (.inr rfl) (.inl rfl) (.inr rfl), s _ _ _ _ _ (.inl rfl) (.inl rfl) (.inr rfl) (.inr rfl)⟩
  have hr : 1 ≤ dfR less ∧ dfR less ≤ 536870912 := by
    have a := lR_bd less
    have b := Int.tmod_nonneg (a := lR less) 1000 (by omega)
    have c := (tmod_bd (lR less) (n := 1000) (by decide)).2
    unfold dfR; rw [W_id (by omega) (by omega)]; omega
  have h2 := sq_bd (A := 536870912) (x := dfR less) (by omega) hr.2
  have ed : W (W (W ((lPt p0).x - (dfC at_).x) * W ((lPt p0).x - (dfC at_).x)) + W (W ((lPt p0).y - (dfC at_).y) * W ((lPt p0).y - (dfC at_).y))) = distI (lPt p0) (dfC at_) := rDist_eq hp hc
  unfold discFar
  dsimp only
  rw [ed, discHas_eq hp hc hr.1 (by omega), W_id (x := dfR less * dfR less) (by omega) (by omega), discClass_eq (pt_BR hp) hc (by simp) (by simp) hr.1 (by omega)]
  have e1 : nearI ⟨(lPt p0).x, (lPt p0).y, (lPt p0).x, (lPt p0).y⟩ (dfC at_) = distI (lPt p0) (dfC at_) := by rw [dist_near]; unfold distI; grind
  have e2 : mostI ⟨(lPt p0).x, (lPt p0).y, (lPt p0).x, (lPt p0).y⟩ (dfC at_) = distI (lPt p0) (dfC at_) := by rw [dist_most]; unfold distI; grind
  rw [e1, e2]
  generalize distI (lPt p0) (dfC at_) = D; generalize dfR less * dfR less = R
  by_cases k : D > R
  · have k' : ¬ D ≤ R := by omega
    simp [k, k', andB]
  · have k' : D ≤ R := by omega
    simp [k, k', andB]

/-! ### DiscTells -/
def discTells0 (b : B4) (c : P2) (r : Int) (p : P2) (k : Int) : Bool :=
  andB (andB (andB (discClass b c r == rDisc b c r) (discHas p c r == rDiscHas p c r)) (orB (decide (k ≥ 1)) (andB (discClass b c k == 0) (!(discHas p c k))))) true
def lSmR (r m : Int) : Int := W (r.tmod m + 1)
theorem lSmR_bd {r m : Int} (h : 0 ≤ r) (h0 : 0 < m) (h1 : m ≤ 100) : 1 ≤ lSmR r m ∧ lSmR r m ≤ m := by
  have a := Int.tmod_nonneg (a := r) m h
  have b := (tmod_bd r h0).2
  unfold lSmR; rw [W_id (by omega) (by omega)]; omega
def discTells (b : B4) (c : P2) (r : Int) (p : P2) (small : Bool) : Bool :=
  bif small then discTells0 (lSmall (lBox b)) (lClose (lPt c) 20) (lSmR (lR r) 25) (lClose (lPt p) 20) r else discTells0 (lBox b) (lPt c) (lR r) (lPt p) r
theorem close_R (p : P2) {n : Int} (h0 : 0 ≤ n) (h1 : n ≤ 1073741823) : PR (lClose p n) := by
  obtain ⟨⟨a, b⟩, c, d⟩ := lClose_r p h0 (by omega)
  exact ⟨⟨by omega, by omega⟩, ⟨by omega, by omega⟩⟩
theorem discTells0_true {b : B4} {c : P2} {r : Int} {p : P2} (k : Int) (hb : BR b) (hc : PR c) (hp : PR p) (hx : b.x0 ≤ b.x1) (hy : b.y0 ≤ b.y1) (h1 : 1 ≤ r) (h2 : r ≤ 2147483648) : discTells0 b c r p k = true := by
  unfold discTells0
  rw [rDisc_eq hb hc hx hy h1 h2, discHas_eq hp hc h1 h2, rDiscHas_eq hp hc h1 h2]
  by_cases hk : k ≥ 1
  · simp [hk, andB, orB]
  · rw [discClass_no (show k < 1 by omega), discHas_no (show k < 1 by omega)]
    simp [andB, orB]
theorem discTells_true (b : B4) (c : P2) (r : Int) (p : P2) (small : Bool) : discTells b c r p small = true := by
  have a := lR_bd r
  unfold discTells
  cases small
  · have h := lBox_r b
    exact discTells0_true r (lBox_R b) (lPt_R c) (lPt_R p) h.2.1 h.2.2.2.2.1 a.1 (by omega)
  · have h := lSmall_r (lBox b)
    have e := lSmR_bd (r := lR r) (m := 25) (by omega) (by decide) (by decide)
    exact discTells0_true r (lSmall_R _) (close_R _ (by decide) (by decide)) (close_R _ (by decide) (by decide)) h.2.2.1 h.2.2.2.2.2.2.1 e.1 (by omega)
theorem n21 : W (20 + 1) ≠ 0 := by decide
end Go.Proofs.Ytddgibadiadccaa

/-! ## Poi -/
namespace Go.Proofs.Ytddgibadiadccaa
open Go Go.RowKit Sym

def crossesI (p a e : P2) : Bool := (decide (a.y > p.y) != decide (e.y > p.y)) && (if e.y > a.y then decide (crossI a e p > 0) else decide (crossI a e p < 0))
theorem crossesF_eq {p a e : P2} (hp : PR p) (ha : PR a) (he : PR e) : crossesF p a e = crossesI p a e := by
  unfold crossesF crossesI
  rw [(cross_eq ha he hp).1]
  by_cases k : e.y > a.y
  · simp only [k, decide_true, if_true]
    cases decide (a.y > p.y) <;> cases decide (e.y > p.y) <;> rfl
  · simp only [k, decide_false, if_false]
    cases decide (a.y > p.y) <;> cases decide (e.y > p.y) <;> rfl
def spotB (p : P2) : B4 := ⟨p.x, p.y, p.x, p.y⟩
/-- a point lies on an edge -/
def onI (p a e : P2) : Bool := decide (min a.x e.x ≤ p.x ∧ p.x ≤ max a.x e.x ∧ min a.y e.y ≤ p.y ∧ p.y ≤ max a.y e.y ∧ crossI a e p = 0)
theorem spot_meets (p a e : P2) : meetsI (spotB p) a e = onI p a e := by
  have h : ∀ f : P2 → Bool, all4 f (spotB p) = f p := fun f => by unfold all4 spotB; dsimp only; cases f ⟨p.x, p.y⟩ <;> rfl
  unfold meetsI
  rw [h, h]
  rw [Bool.eq_iff_iff]
  unfold sepI onI spotB
  simp only [Bool.and_eq_true, Bool.not_eq_true', Bool.or_eq_false_iff, decide_eq_false_iff_not, decide_eq_true_eq]
  omega
/-! ### rectangles -/
theorem onI_h {p : P2} {x0 x1 y : Int} : onI p ⟨x0, y⟩ ⟨x1, y⟩ = decide (min x0 x1 ≤ p.x ∧ p.x ≤ max x0 x1 ∧ p.y = y) := by
  unfold onI crossI
  dsimp only
  refine decide_eq_decide.2 ⟨fun ⟨h1, h2, h3, h4, _⟩ => ⟨h1, h2, by omega⟩, fun ⟨h1, h2, h3⟩ => ⟨h1, h2, by omega, by omega, by rw [h3, Int.sub_self, Int.mul_zero, Int.zero_mul]; rfl⟩⟩
theorem onI_v {p : P2} {x y0 y1 : Int} : onI p ⟨x, y0⟩ ⟨x, y1⟩ = decide (p.x = x ∧ min y0 y1 ≤ p.y ∧ p.y ≤ max y0 y1) := by
  unfold onI crossI
  dsimp only
  refine decide_eq_decide.2 ⟨fun ⟨h1, h2, h3, h4, _⟩ => ⟨by omega, h3, h4⟩, fun ⟨h1, h2, h3⟩ => ⟨by omega, by omega, h2, h3, by rw [h1, Int.sub_self, Int.mul_zero, Int.zero_mul]; rfl⟩⟩
theorem crossesI_h {p : P2} {x0 x1 y : Int} : crossesI p ⟨x0, y⟩ ⟨x1, y⟩ = false := by
  unfold crossesI; simp
theorem crossesI_v {p : P2} {x y0 y1 : Int} : crossesI p ⟨x, y0⟩ ⟨x, y1⟩ = decide (min y0 y1 ≤ p.y ∧ p.y < max y0 y1 ∧ p.x < x) := by
  have e : crossI ⟨x, y0⟩ ⟨x, y1⟩ p = (y1 - y0) * (x - p.x) := by unfold crossI; dsimp only; grind
  unfold crossesI
  dsimp only
  rw [e, Bool.eq_iff_iff]
  by_cases k : y1 > y0
  · have s : (y1 - y0) * (x - p.x) > 0 ↔ p.x < x := by
      constructor
      · intro h
        rcases (show p.x < x ∨ x ≤ p.x by omega) with g | g
        · exact g
        · have := Int.mul_nonneg (show 0 ≤ y1 - y0 by omega) (show 0 ≤ p.x - x by omega)
          have e : (y1 - y0) * (p.x - x) = -((y1 - y0) * (x - p.x)) := by grind
          omega
      · intro h; exact Int.mul_pos (by omega) (by omega)
    simp only [k, if_true, Bool.and_eq_true, bne_iff_ne, ne_eq, decide_eq_decide, decide_eq_true_eq, s]
    omega
  · by_cases k' : y0 > y1
    · have s : (y1 - y0) * (x - p.x) < 0 ↔ p.x < x := by
        have e : (y1 - y0) * (x - p.x) = -((y0 - y1) * (x - p.x)) := by grind
        rw [e]
        constructor
        · intro h
          rcases (show p.x < x ∨ x ≤ p.x by omega) with g | g
          · exact g
          · have := Int.mul_nonneg (show 0 ≤ y0 - y1 by omega) (show 0 ≤ p.x - x by omega)
            have e : (y0 - y1) * (p.x - x) = -((y0 - y1) * (x - p.x)) := by grind
            omega
        · intro h
          have := Int.mul_pos (show 0 < y0 - y1 by omega) (show 0 < x - p.x by omega)
          omega
      simp only [k, if_false, Bool.and_eq_true, bne_iff_ne, ne_eq, decide_eq_decide, decide_eq_true_eq, s]
      omega
    · have : y0 = y1 := by omega
      subst this
      simp
      omega
theorem xor_dc {a b : Prop} [Decidable a] [Decidable b] : xor (decide a) (decide b) = decide ((a ∧ ¬ b) ∨ (¬ a ∧ b)) := by
  by_cases h : a <;> by_cases k : b <;> simp [h, k]
end Go.Proofs.Ytddgibadiadccaa

/-! ## Api -/
namespace Go.Proofs.Ytddgibadiadccaa
open Go Go.RowKit Sym
set_option maxRecDepth 100000

theorem hole_ok {s : ShD} (h : LfA s) (r : Int) : OkA (holeD s r) := by
  obtain ⟨p0, p1⟩ := hole_p s r
  refine ⟨⟨.refl _, .refl _, .refl _, .refl _, .refl _, .refl _, .refl _, .refl _, row0, ?_, trivial⟩, CtrB_zA, by show (2 : Nat) ≤ _; decide, fun i hi => ?_⟩
  · refine DLe.rowL fun i hi => ?_
    show DLL ((holeD s r).qf i) (partC (pD ((holeD s r).qf i)).1 (toSh (pD ((holeD s r).qf i)).2))
    have hi : i < 2 := hi
    match i, hi with
    | 0, _ =>
      rw [p0]
      obtain ⟨k, a, b, c, r', ln, lf, qn, qf⟩ := s
      obtain ⟨rfl, h2, h3⟩ := h
      have h2 : DLe (.row ln lf) (cCtr (ctD ⟨k, a, b, c, r', ln, lf, 0, qf⟩)) := h2
      exact ⟨.refl _, .refl _, .refl _, .refl _, .refl _, .refl _, .refl _, .refl _, .refl _, h2, row0, trivial⟩
    | 1, _ =>
      rw [p1]
      exact ⟨.refl _, .refl _, .refl _, .refl _, .refl _, .refl _, .refl _, .refl _, .refl _, row0, row0, trivial⟩
  · have hi : i < 2 := hi
    show ShB (pD ((holeD s r).qf i)).2
    match i, hi with
    | 0, _ => rw [p0]; exact shb0 h.b
    | 1, _ => rw [p1]; exact shb0 CtrB_zA
/-- a base: valid, has what H tells -/
structure BsA (s : ShD) (H : P2 → Bool) : Prop where
  lf : LfA s
  v : ∀ forms left, 1 ≤ left → left ≤ 1000 → validF (leafD s) forms left = (true, left - 1)
  vs : okE (toSh (shpA s)) = true
  h : ∀ p, hasF (leafD s) p = H p
  hs : ∀ p, hasF (shpA s) p = H p
theorem disc_v {r : Int} (h : widF r = true) (forms left : Int) (h1 : 1 ≤ left) (h2 : left ≤ 1000) : validF (leafD { k := 1, r := r }) forms left = (true, left - 1) := by
  have e : validF (leafD { k := 1, r := r }) forms left = bif decide (left < 1) then (false, left) else (andB (nearF ⟨0, 0⟩) (widF r), W (left - 1)) := by kernel_rfl
  rw [e, decide_eq_false (by omega), h, W_id (by omega) (by omega)]; rfl
theorem disc_B {r : Int} (h : widF r = true) : BsA { k := 1, r := r } fun p => discHas p ⟨0, 0⟩ r where
  lf := ⟨rfl, row0, CtrB_zA⟩
  v := disc_v h
  vs := by
    unfold okE
    rw [vE_eq]
    have e : (validF (shpA { k := 1, r := r }) 0 1000).1 = andB (nearF ⟨0, 0⟩) (widF r) := by kernel_rfl
    rw [e, h]; rfl
  h := fun p => rfl
  hs := fun p => rfl
theorem line_B {a b : P2} {r : Int} (ha : nearF a = true) (hb : nearF b = true) (h : widF r = true) : BsA { k := 3, a := a, b := b, r := r } fun p => lineHas p a b r where
  lf := ⟨rfl, row0, CtrB_zA⟩
  v := fun forms left h1 h2 => by
    have e : validF (leafD { k := 3, a := a, b := b, r := r }) forms left = bif decide (left < 1) then (false, left) else (andB (andB (nearF a) (nearF b)) (widF r), W (left - 1)) := by kernel_rfl
    rw [e, decide_eq_false (by omega), ha, hb, h, W_id (by omega) (by omega)]; rfl
  vs := by
    unfold okE
    rw [vE_eq]
    have e : (validF (shpA { k := 3, a := a, b := b, r := r }) 0 1000).1 = andB (andB (nearF a) (nearF b)) (widF r) := by kernel_rfl
    rw [e, ha, hb, h]; rfl
  h := fun p => rfl
  hs := fun p => rfl
def thenR {α : Type} (x : Bool × α) (k : α → Bool × α) : Bool × α := match x with
  | (true, b) => k b
  | (false, b) => (false, b)
theorem rect_ctr {w h : Int} (h0 : nearF ⟨W (0 - w), W (0 - h)⟩ = true) (h1 : nearF ⟨w, W (0 - h)⟩ = true) (h2 : nearF ⟨w, h⟩ = true) (h3 : nearF ⟨W (0 - w), h⟩ = true) : contoursF (ctrOf 1 (rectL w h)) = true := by
  have e : contoursF (ctrOf 1 (rectL w h)) = (bif bif bif nearF ⟨W (0 - w), W (0 - h)⟩ then nearF ⟨w, W (0 - h)⟩ else false then nearF ⟨w, h⟩ else false then nearF ⟨W (0 - w), h⟩ else false) := by
    have e0 : contoursF (ctrOf 1 (rectL w h)) = (thenR (thenR (thenR (thenR (true, ()) fun _ => (nearF ⟨W (0 - w), W (0 - h)⟩, ())) fun _ => (nearF ⟨w, W (0 - h)⟩, ())) fun _ => (nearF ⟨w, h⟩, ())) fun _ => (nearF ⟨W (0 - w), h⟩, ())).1 := by kernel_rfl
    rw [e0, h0, h1, h2, h3]; rfl
  rw [e, h0, h1, h2, h3]; rfl
theorem rect_Bs {w h : Int} (h0 : nearF ⟨W (0 - w), W (0 - h)⟩ = true) (h1 : nearF ⟨w, W (0 - h)⟩ = true) (h2 : nearF ⟨w, h⟩ = true) (h3 : nearF ⟨W (0 - w), h⟩ = true) : BsA (rectD w h) fun p => polyHasF p (ctrOf 1 (rectL w h)) where
  lf := rect_lf w h
  v := fun forms left g1 g2 => by
    have e : validF (leafD (rectD w h)) forms left = bif decide (left < 1) then (false, left) else (contoursF (ctrOf 1 (rectL w h)), W (left - 1)) := by kernel_rfl
    rw [e, decide_eq_false (by omega), rect_ctr h0 h1 h2 h3, W_id (by omega) (by omega)]; rfl
  vs := by
    unfold okE
    rw [vE_eq]
    have e : (validF (shpA (rectD w h)) 0 1000).1 = contoursF (ctrOf 1 (rectL w h)) := by kernel_rfl
    rw [e, rect_ctr h0 h1 h2 h3]
  h := fun p => rfl
  hs := fun p => rfl
/-- with a hole -/
theorem hole_B {s : ShD} {H : P2 → Bool} (B : BsA s H) {r : Int} (hr : widF r = true) : OkA (holeD s r) ∧ okE (toSh (shpA (holeD s r))) = true ∧ ∀ p, hasF (shpA (holeD s r)) p = (bif discHas p ⟨0, 0⟩ r then false else H p) := by
  obtain ⟨p0, p1⟩ := hole_p s r
  refine ⟨hole_ok B.lf r, ?_, fun p => ?_⟩
  · unfold okE
    rw [vE_eq]
    have e : validF (shpA (holeD s r)) 0 1000 = thenR (thenR (true, (999 : Int)) fun lf => validF (pD ((holeD s r).qf 0)).2 1 lf) fun lf => validF (pD ((holeD s r).qf 1)).2 1 lf := by kernel_rfl
    rw [e, p0, p1]
    simp only [thenR]
    rw [B.v 1 999 (by decide) (by decide)]
    simp only []
    rw [disc_v hr 1 _ (by decide) (by decide)]
  · have e : hasF (shpA (holeD s r)) p = (thenR (thenR (true, false) fun _ => bif hasF (pD ((holeD s r).qf 1)).2 p then (false, (pD ((holeD s r).qf 1)).1) else (true, false)) fun _ => bif hasF (pD ((holeD s r).qf 0)).2 p then (false, (pD ((holeD s r).qf 0)).1) else (true, false)).2 := by kernel_rfl
    rw [e, p0, p1, B.h p]
    have e2 : hasF (leafD { k := 1, r := r }) p = discHas p ⟨0, 0⟩ r := rfl
    rw [e2]
    cases discHas p ⟨0, 0⟩ r <;> cases H p <;> rfl
end Go.Proofs.Ytddgibadiadccaa

/-! ## Apj -/
namespace Go.Proofs.Ytddgibadiadccaa
open Go Go.RowKit Sym
set_option maxRecDepth 100000

def meW (w : Int) : Int := W (band w 2097151 + 1)
def meH (h : Int) : Int := band h 2097151
def meU (u : Int) : Int := W (band u 1 + 1)
def meK (u : Int) : Int := bif meU u == 2 then 127 else 5
def meA (u v : Int) : Int := W (meK u * v)
def meP (p : P2) : P2 := lClose p 300000000
def meX (x : Int) : Int := bif decide (x < 0) then W (0 - x) else x
def meE (which : Int) : Int := (band which 255).tmod 3
noncomputable def meV (X : ApR) (inn nmh : Bool) (a r : Int) (q : P2) : Bool :=
  bif bif bif hasA (toSh (shpA X.s)) q == (bif inn then bif r == 0 then true else !(rDiscHas q ⟨0, 0⟩ r) else false) then (X.R == a) == nmh else false then bif X.R == 0 then true else X.R == a else false then true else false
noncomputable def meT (X : ApR) (inn nmh : Bool) (a r : Int) (q : P2) (s : ByteArray) (n : Nat) (f : Nat → List Dyn.DC) : Dyn.RO :=
  .side [Good s n, IsN n f] (.side [some (X.e != 0) = some false ∧ True → allP [OkA X.s]] (.ite (bif X.e != 0 then true else !(okE (toSh (shpA X.s)))) (.leaf (rB false)) (.side [OkA X.s] (.leaf (rB (meV X inn nmh a r q))))))
def meMin (a b : Int) : Int := imin a b
def meO (u w h : Int) (q : P2) : Bool := rDiscHas ⟨imax (W (meX q.x - W (meA u w - imin (meA u w) (meA u h)))) 0, imax (W (meX q.y - W (meA u h - imin (meA u w) (meA u h)))) 0⟩ ⟨0, 0⟩ (imin (meA u w) (meA u h))
theorem me_O (which w h hole u : Int) (p : P2) : (Dyn.dfun Try.prog tabMe Dyn.noLp 3 Try.f4 [dvI which, dvI w, dvI h, dvI hole, dvI u, dvP p]).ro Try.prog Try.f4.results =
  .side [W (300000000 + 1) ≠ 0] (.ite (meE which == 0)
    (meT (makeM sC 2 (iF (rwN [meW w, meH hole])) (meU u)) (rDiscHas (meP p) ⟨0, 0⟩ (meA u (meW w))) (meH hole == 0) (meA u (meW w)) (meA u (meH hole)) (meP p) sC 2 (rwN [meW w, meH hole]))
    (.ite (meE which == 1)
      (meT (makeM sR 3 (iF (rwN [meW w, meW h, meH hole])) (meU u)) (bif decide (meX (meP p).x ≤ meA u (meW w)) then decide (meX (meP p).y ≤ meA u (meW h)) else false) false (meA u (meW w)) (meA u (meH hole)) (meP p) sR 3 (rwN [meW w, meW h, meH hole]))
      (meT (makeM sO 3 (iF (rwN [meW w, meW h, meH hole])) (meU u)) (meO u (meW w) (meW h) (meP p)) false (meA u (meW w)) (meA u (meH hole)) (meP p) sO 3 (rwN [meW w, meW h, meH hole])))) := by kernel_rfl
end Go.Proofs.Ytddgibadiadccaa

/-! ## Apk -/
namespace Go.Proofs.Ytddgibadiadccaa
open Go Go.RowKit Sym
set_option maxRecDepth 100000

/-! ### a rectangle -/
def r4 (f : P2 → P2 → Bool) (a b c d : P2) : Bool := (((false || f a b) || f b c) || f c d) || f d a
def q4 (f : P2 → P2 → Bool) (a b c d : P2) : Bool := xor (xor (xor (xor false (f a b)) (f b c)) (f c d)) (f d a)
theorem rc_touch (s : B4) (w h : Int) : touchF s (ctrOf 1 (rectL w h)) = (false || r4 (meets s) ⟨W (0 - w), W (0 - h)⟩ ⟨w, W (0 - h)⟩ ⟨w, h⟩ ⟨W (0 - w), h⟩) := by kernel_rfl
theorem rc_odd (p : P2) (w h : Int) : oddF p (ctrOf 1 (rectL w h)) = xor false (q4 (crossesF p) ⟨W (0 - w), W (0 - h)⟩ ⟨w, W (0 - h)⟩ ⟨w, h⟩ ⟨W (0 - w), h⟩) := by kernel_rfl
theorem rc_on {p a e : P2} (hp : PR p) (ha : PR a) (he : PR e) : meets (spotF p) a e = onI p a e := by
  rw [meets_eq (b := spotF p) ⟨hp.x, hp.y, hp.x, hp.y⟩ ha he (Int.le_refl _) (Int.le_refl _)]
  exact spot_meets p a e
theorem rc_xor {a b : Prop} [Decidable a] [Decidable b] : xor (decide a) (decide b) = decide ((a ∧ ¬ b) ∨ (¬ a ∧ b)) := by
  by_cases h : a <;> by_cases k : b <;> simp [h, k]
theorem rc_has {w h : Int} {p : P2} (hw : 1 ≤ w ∧ w ≤ 536870912) (hh : 1 ≤ h ∧ h ≤ 536870912) (hp : PR p) : polyHasF p (ctrOf 1 (rectL w h)) = decide (-w ≤ p.x ∧ p.x ≤ w ∧ -h ≤ p.y ∧ p.y ≤ h) := by
  unfold polyHasF
  rw [rc_touch, rc_odd, W_id (x := 0 - w) (by omega) (by omega), W_id (x := 0 - h) (by omega) (by omega)]
  have i1 : In30 (0 - w) := ⟨by omega, by omega⟩
  have i2 : In30 (0 - h) := ⟨by omega, by omega⟩
  have i3 : In30 w := ⟨by omega, by omega⟩
  have i4 : In30 h := ⟨by omega, by omega⟩
  unfold r4 q4
  rw [rc_on hp ⟨i1, i2⟩ ⟨i3, i2⟩, rc_on hp ⟨i3, i2⟩ ⟨i3, i4⟩, rc_on hp ⟨i3, i4⟩ ⟨i1, i4⟩, rc_on hp ⟨i1, i4⟩ ⟨i1, i2⟩, crossesF_eq hp ⟨i1, i2⟩ ⟨i3, i2⟩, crossesF_eq hp ⟨i3, i2⟩ ⟨i3, i4⟩, crossesF_eq hp ⟨i3, i4⟩ ⟨i1, i4⟩, crossesF_eq hp ⟨i1, i4⟩ ⟨i1, i2⟩, crossesI_h, crossesI_v, crossesI_h, crossesI_v, onI_h, onI_v, onI_h, onI_v, orB_eq, Bool.eq_iff_iff]
  rw [Bool.xor_false, Bool.xor_false, Bool.false_xor, Bool.false_xor, rc_xor]
  simp only [Bool.or_eq_true, decide_eq_true_eq, Bool.false_eq_true, false_or]
  omega
/-! ### strokes along an axis -/
theorem sq_iff {y r : Int} (hr : 0 ≤ r) : y * y ≤ r * r ↔ -r ≤ y ∧ y ≤ r := by
  constructor
  · intro h
    constructor
    · rcases Int.lt_or_le y (-r) with k | k
      · have := Int.mul_le_mul (show r + 1 ≤ -y by omega) (show r + 1 ≤ -y by omega) (by omega) (by omega)
        have e1 : -y * -y = y * y := by grind
        have e2 : (r + 1) * (r + 1) = r * r + 2 * r + 1 := by grind
        omega
      · exact k
    · rcases Int.lt_or_le r y with k | k
      · have := Int.mul_le_mul (show r + 1 ≤ y by omega) (show r + 1 ≤ y by omega) (by omega) (by omega)
        have e2 : (r + 1) * (r + 1) = r * r + 2 * r + 1 := by grind
        omega
      · exact k
  · intro ⟨h1, h2⟩
    rcases Int.le_total 0 y with k | k
    · exact Int.mul_le_mul h2 h2 k hr
    · have := Int.mul_le_mul (show -y ≤ r by omega) (show -y ≤ r by omega) (by omega) hr
      have e1 : -y * -y = y * y := by grind
      omega
def axA (x : Int) : Int := if x < 0 then -x else x
def axD (x L : Int) : Int := max (axA x - L) 0
/-- a stroke from -L to L along an axis, in numbers along it and across it -/
theorem ax_core {x y L r : Int} (hL : 0 < L) (hr : 0 ≤ r) (D C N d0 d1 : Int) (hD : D = 2 * L * (x + L)) (hN : N = 4 * (L * L)) (hC : C * C = 4 * (L * L) * (y * y)) (h0 : d0 = (x + L) * (x + L) + y * y) (h1 : d1 = (x - L) * (x - L) + y * y) :
    (if D ≤ 0 then decide (d0 ≤ r * r) else if D ≥ N then decide (d1 ≤ r * r) else decide (C * C ≤ r * r * N)) = decide (axD x L * axD x L + y * y ≤ r * r) := by
  by_cases k : x + L ≤ 0
  · have : D ≤ 0 := by rw [hD]; exact Int.mul_nonpos_of_nonneg_of_nonpos (by omega) k
    rw [if_pos this, h0]
    have e : axD x L = -(x + L) := by unfold axD axA; split <;> omega
    rw [e]
    have e2 : -(x + L) * -(x + L) = (x + L) * (x + L) := by grind
    rw [e2]
  · have p1 : 0 < 2 * L * (x + L) := Int.mul_pos (by omega) (by omega)
    rw [if_neg (by rw [hD]; omega)]
    by_cases k2 : L ≤ x
    · have p2 : D ≥ N := by
        rw [hD, hN]
        have := Int.mul_le_mul_of_nonneg_left (show 2 * L ≤ x + L by omega) (show 0 ≤ 2 * L by omega)
        have e : 2 * L * (2 * L) = 4 * (L * L) := by grind
        omega
      rw [if_pos p2, h1]
      have e : axD x L = x - L := by unfold axD axA; split <;> omega
      rw [e]
    · have p2 : ¬ D ≥ N := by
        rw [hD, hN]
        have := Int.mul_lt_mul_of_pos_left (show x + L < 2 * L by omega) (show 0 < 2 * L by omega)
        have e : 2 * L * (2 * L) = 4 * (L * L) := by grind
        omega
      rw [if_neg p2, hC, hN]
      have e : axD x L = 0 := by unfold axD axA; split <;> omega
      rw [e]
      have pL : 0 < 4 * (L * L) := by
        have := Int.mul_pos hL hL
        omega
      have e1 : r * r * (4 * (L * L)) = 4 * (L * L) * (r * r) := by grind
      rw [e1, Bool.eq_iff_iff, decide_eq_true_eq, decide_eq_true_eq]
      constructor
      · intro h
        have := Int.le_of_mul_le_mul_left h pL
        omega
      · intro h
        exact Int.mul_le_mul_of_nonneg_left (show y * y ≤ r * r by omega) (by omega)
theorem ax_x {p : P2} {L r : Int} (hL : 0 < L) (hr : 0 ≤ r) : lineI p ⟨-L, 0⟩ ⟨L, 0⟩ r = decide (axD p.x L * axD p.x L + p.y * p.y ≤ r * r) := by
  unfold lineI clear
  exact ax_core hL hr _ _ _ _ _ (by unfold dotI; dsimp only; grind) (by unfold distI; dsimp only; grind) (by unfold crossI; dsimp only; grind) (by unfold distI; dsimp only; grind) (by unfold distI; dsimp only; grind)
theorem ax_y {p : P2} {L r : Int} (hL : 0 < L) (hr : 0 ≤ r) : lineI p ⟨0, -L⟩ ⟨0, L⟩ r = decide (axD p.y L * axD p.y L + p.x * p.x ≤ r * r) := by
  unfold lineI clear
  exact ax_core hL hr _ _ _ _ _ (by unfold dotI; dsimp only; grind) (by unfold distI; dsimp only; grind) (by unfold crossI; dsimp only; grind) (by unfold distI; dsimp only; grind) (by unfold distI; dsimp only; grind)
end Go.Proofs.Ytddgibadiadccaa
