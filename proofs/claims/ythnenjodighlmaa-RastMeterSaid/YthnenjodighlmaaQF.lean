/-
  OWN WORK. Joined by merge.py: Sha Shb Shc Shd She Shf Wid Bar Box Lin Disc Bas.
-/
import Derived.Test.YthnenjodighlmaaQE
/-! ## Sha -/
namespace Go.Proofs.Ythnenjodighlmaa
open Go Go.RowKit Sym
set_option maxRecDepth 100000

/-! ### names that are found in cells -/
def nmCell (s : Dyn.St) (m j : Nat) : Nat := match s.heap.getD m none with
  | some (.cells _ cs) => nmOf (.v (cs.getD j (.bool false)))
  | _ => 0
def nmCells (s : Dyn.St) : List (Nat × Nat) → List Nat
  | [] => []
  | (m, j) :: l => nmCell s m j :: nmCells s l
/-- names σ, then those that the slots hs name, then those that the cells cl name; slots ks of n -/
def keepC (n : Nat) (σ hs : List Nat) (cl : List (Nat × Nat)) (ks : List Nat) (v : Nat) (s : Dyn.St) : Dyn.St :=
  match nodupB (σ ++ nmsOf s hs ++ nmCells s cl) with
  | true => Dyn.relabel (σ ++ nmsOf s hs ++ nmCells s cl) ((2 ^ n - 1) ^^^ maskOf ks) v s
  | false => s
theorem keepC_ent {P : Program} {w0 : Dyn.Base P} (n : Nat) (σ hs : List Nat) (cl : List (Nat × Nat)) (ks : List Nat) (v : Nat) (s : Dyn.St) : Dyn.Ent w0 s (keepC n σ hs cl ks v s) := by
  unfold keepC
  split
  · rename_i h; exact Dyn.Ent.label (nodupB_ok h) _ v s
  · exact Dyn.Ent.refl w0 s
def keepCR (n : Nat) (σ hs : List Nat) (cl : List (Nat × Nat)) (ks σr r : List Nat) : AExit → Dyn.St → Dyn.St
  | .ret, s => keepA n σr [] r 0 s
  | _, s => keepC n σ hs cl ks 0 s
theorem keepCR_ent {P : Program} {w0 : Dyn.Base P} (n : Nat) (σ hs : List Nat) (cl : List (Nat × Nat)) (ks σr r : List Nat) (e : AExit) (s : Dyn.St) : Dyn.Ent w0 s (keepCR n σ hs cl ks σr r e s) := by
  cases e
  · exact keepC_ent n σ hs cl ks 0 s
  · exact keepC_ent n σ hs cl ks 0 s
  · exact keepA_ent n σr [] r 0 s
/-! ### turns -/
structure Tn where
  mx : Bool
  my : Bool
  q : Int
  u : P2
abbrev tn (t : Tn) : Value := .agg ⟨[vb t.mx, vb t.my, vi t.q, vi t.u.x, vi t.u.y]⟩
def dT : Value → Option Tn | .agg ⟨[.bool a, .bool b, .int .i64 q, .int .i64 x, .int .i64 y]⟩ => some ⟨a, b, q, ⟨x, y⟩⟩ | _ => none
theorem dT_eq {v : Value} {x : Tn} (h : dT v = some x) : v = tn x := by
  unfold dT at h; split at h
  · simp only [Option.some.injEq] at h; subst h; rfl
  · cases h
def cT (t : Tn) : List Dyn.DC := [cB t.mx, cB t.my, cI t.q, cI t.u.x, cI t.u.y]
def dvT (t : Tn) : Dyn.DV := .agg (cT t)
def aT : Dyn.DV → Option Tn
  | .agg [.p (.bool a), .p (.bool b), .p (.int .i64 q), .p (.int .i64 x), .p (.int .i64 y)] => some ⟨a, b, q, ⟨x, y⟩⟩
  | _ => none
theorem aT_eq {d : Dyn.DV} {x : Tn} (h : aT d = some x) : Dyn.DVLe d (dvT x) := by
  unfold aT at h; split at h
  · simp only [Option.some.injEq] at h; subst h; exact Dyn.DVLe.refl _
  · cases h
def quF (q : Int) : Int := band q 3
def turnPtF (p : P2) (t : Tn) : P2 :=
  let x := bif t.mx then W (0 - p.x) else p.x
  let y := bif t.my then W (0 - p.y) else p.y
  let k := quF t.q
  let x2 := bif k == 1 then W (0 - y) else bif k == 2 then W (0 - x) else bif k == 3 then y else x
  let y2 := bif k == 1 then x else bif k == 2 then W (0 - y) else bif k == 3 then W (0 - x) else y
  ⟨W (x2 + t.u.x), W (y2 + t.u.y)⟩
/-! ### figure's scalars -/
def nearF (p : P2) : Bool := andB (andB (andB (decide (p.x ≥ -536870912)) (decide (p.x ≤ 536870912))) (decide (p.y ≥ -536870912))) (decide (p.y ≤ 536870912))
def widF (r : Int) : Bool := andB (decide (r ≥ 1)) (decide (r ≤ 536870912))
def foldF (was cls : Int) (add : Bool) : Int :=
  bif orB (orB (orB (decide (was < 0)) (decide (was > 2))) (decide (cls < 0))) (decide (cls > 2)) then 1 else
  bif cls == 0 then was else bif andB (cls == 2) add then 2 else bif cls == 2 then 0 else bif andB add (was == 2) then 2 else bif andB (!add) (was == 0) then 0 else 1
def aroundF (p q : P2) (r : Int) : B4 := ⟨imax (W (imin p.x q.x - r)) (-536870912), imax (W (imin p.y q.y - r)) (-536870912), imin (W (imax p.x q.x + r)) 536870912, imin (W (imax p.y q.y + r)) 536870912⟩
def plusF (a b : Int) : Int := bif decide (a > W (9223372036854775807 - b)) then 9223372036854775807 else W (a + b)
theorem near_ok (p : P2) : CallOk Try.prog 72 [pt p] (vb (nearF p)) := fnOk (fuel := 16) (tbOf_ok tbA_ok) mo Try.func72 (by kernel_rfl) (by kernel_rfl) (by kernel_rfl) (by kernel_rfl)
theorem width_ok (r : Int) : CallOk Try.prog 73 [vi r] (vb (widF r)) := fnOk (fuel := 16) (tbOf_ok tbA_ok) mo Try.func73 (by kernel_rfl) (by kernel_rfl) (by kernel_rfl) (by kernel_rfl)
theorem fold_ok (a b : Int) (c : Bool) : CallOk Try.prog 45 [vi a, vi b, vb c] (vi (foldF a b c)) := fnOk (fuel := 16) (tbOf_ok tbA_ok) mo Try.func45 (by kernel_rfl) (by kernel_rfl) (by kernel_rfl) (by kernel_rfl)
theorem around_ok (p q : P2) (r : Int) : CallOk Try.prog 58 [pt p, pt q, vi r] (bx (aroundF p q r)) := fnOk (fuel := 16) (tbOf_ok tbA_ok) mo Try.func58 (by kernel_rfl) (by kernel_rfl) (by kernel_rfl) (by kernel_rfl)
theorem plus_ok (a b : Int) : CallOk Try.prog 90 [vi a, vi b] (vi (plusF a b)) := fnOk (fuel := 16) (tbOf_ok tbA_ok) mo Try.func90 (by kernel_rfl) (by kernel_rfl) (by kernel_rfl) (by kernel_rfl)
theorem quarters_ok (q : Int) : CallOk Try.prog 55 [vi q] (vi (quF q)) := fnOk (fuel := 16) (tbOf_ok tbA_ok) mo Try.func55 (by kernel_rfl) (by kernel_rfl) (by kernel_rfl) (by kernel_rfl)
/-- a table, one entry more where the function is there -/
def tf0 : List Entry := tbA
theorem tf0_ok : ∀ e ∈ tf0, EntryOk Try.prog e := tbA_ok
def tf1 : List Entry := (72, en1 dP (fun p => vb (nearF p))) :: (73, en1 dI (fun p => vb (widF p))) :: tf0
theorem tf1_ok : ∀ e ∈ tf1, EntryOk Try.prog e := List.forall_mem_cons.2 ⟨en1_ok dP_eq near_ok, List.forall_mem_cons.2 ⟨en1_ok dI_eq width_ok, tf0_ok⟩⟩
def tf2 : List Entry := (45, en3 dI dI dB (fun a b c => vi (foldF a b c))) :: tf1
theorem tf2_ok : ∀ e ∈ tf2, EntryOk Try.prog e := List.forall_mem_cons.2 ⟨en3_ok dI_eq dI_eq dB_eq fold_ok, tf1_ok⟩
def tf3 : List Entry := (58, en3 dP dP dI (fun a b c => bx (aroundF a b c))) :: tf2
theorem tf3_ok : ∀ e ∈ tf3, EntryOk Try.prog e := List.forall_mem_cons.2 ⟨en3_ok dP_eq dP_eq dI_eq around_ok, tf2_ok⟩
def tf4 : List Entry := (90, en2 dI dI (fun a b => vi (plusF a b))) :: tf3
theorem tf4_ok : ∀ e ∈ tf4, EntryOk Try.prog e := List.forall_mem_cons.2 ⟨en2_ok dI_eq dI_eq plus_ok, tf3_ok⟩
def tf5 : List Entry := (55, en1 dI (fun a => vi (quF a))) :: tf4
theorem tf5_ok : ∀ e ∈ tf5, EntryOk Try.prog e := List.forall_mem_cons.2 ⟨en1_ok dI_eq quarters_ok, tf4_ok⟩
def plX (t : Tn) : Bool := !(t.mx == t.my)
def plQ (t : Tn) : Int := quF (bif t.my then W (quF t.q + 2) else quF t.q)
def thenF (t u : Tn) : Tn := ⟨!(plX t == plX u), false, quF (W ((bif plX u then W (0 - plQ t) else plQ t) + plQ u)), turnPtF t.u u⟩
theorem turnPt_ok (p : P2) (t : Tn) : CallOk Try.prog 32 [pt p, tn t] (pt (turnPtF p t)) := fnOk (fuel := 16) (tbOf_ok tf5_ok) mo Try.func32 (by kernel_rfl) (by kernel_rfl) (by kernel_rfl) (by kernel_rfl)
def tf6 : List Entry := (32, en2 dP dT (fun a b => pt (turnPtF a b))) :: tf5
theorem tf6_ok : ∀ e ∈ tf6, EntryOk Try.prog e := List.forall_mem_cons.2 ⟨en2_ok dP_eq dT_eq turnPt_ok, tf5_ok⟩
theorem plain_ok (t : Tn) : CallOk Try.prog 56 [tn t] (.tuple ⟨[vb (plX t), vi (plQ t)]⟩) := fnOk (fuel := 16) (tbOf_ok tf6_ok) mo Try.func56 (by kernel_rfl) (by kernel_rfl) (by kernel_rfl) (by kernel_rfl)
def tf7 : List Entry := (56, en1 dT (fun t => .tuple ⟨[vb (plX t), vi (plQ t)]⟩)) :: tf6
theorem tf7_ok : ∀ e ∈ tf7, EntryOk Try.prog e := List.forall_mem_cons.2 ⟨en1_ok dT_eq plain_ok, tf6_ok⟩
theorem then_ok (t u : Tn) : CallOk Try.prog 33 [tn t, tn u] (tn (thenF t u)) := fnOk (fuel := 16) (tbOf_ok tf7_ok) mo Try.func33 (by kernel_rfl) (by kernel_rfl) (by kernel_rfl) (by kernel_rfl)
def tf8 : List Entry := (33, en2 dT dT (fun t u => tn (thenF t u))) :: tf7
theorem tf8_ok : ∀ e ∈ tf8, EntryOk Try.prog e := List.forall_mem_cons.2 ⟨en2_ok dT_eq dT_eq then_ok, tf7_ok⟩
/-- the scalars of figure and turn -/
def tbF : List Entry := tf8
theorem tbF_ok : ∀ e ∈ tbF, EntryOk Try.prog e := tf8_ok
/-! ### shapes: one level -/
structure Sh where
  k : Int
  a : P2
  b : P2
  c : P2
  r : Int
  l : Ctr
  n : Nat
  f : Nat → List Dyn.DC
def cS (s : Sh) : List Dyn.DC := [cI s.k, cI s.a.x, cI s.a.y, cI s.b.x, cI s.b.y, cI s.c.x, cI s.c.y, cI s.r, cCtr s.l, .row s.n s.f]
def dvS (s : Sh) : Dyn.DV := .agg (cS s)
/-- shapes, all of it -/
inductive Shp where
  | nil
  | mk (k : Int) (a b c : P2) (r : Int) (l : Ctr) (n : Nat) (add : Nat → Bool) (sub : Nat → Shp)
def partC (add : Bool) (s : Sh) : List Dyn.DC := cB add :: cS s
def toSh : Shp → Sh
  | .nil => ⟨0, ⟨0, 0⟩, ⟨0, 0⟩, ⟨0, 0⟩, 0, ⟨0, fun _ => 0, fun _ _ => ⟨0, 0⟩⟩, 1, fun _ => []⟩
  | .mk k a b c r l n add sub => ⟨k, a, b, c, r, l, n, fun i => partC (add i) (toSh (sub i))⟩
/-! ### decoders: what an argument shows, what is asked of it -/
abbrev Dec (α : Type) := Dyn.DV → Option (α × List Prop)
def DecOk {α : Type} (q : Dec α) (e : α → Dyn.DV) (p : α → Prop) : Prop := ∀ d x ps, q d = some (x, ps) → allP ps → Dyn.DVLe d (e x) ∧ p x
def qOf {α : Type} (a : Dyn.DV → Option α) : Dec α := fun d => match a d with
  | some x => some (x, [])
  | none => none
theorem qOf_ok {α : Type} {a : Dyn.DV → Option α} {e : α → Dyn.DV} (h : ∀ {d x}, a d = some x → Dyn.DVLe d (e x)) : DecOk (qOf a) e (fun _ => True) := fun d x ps hq _ => by
  unfold qOf at hq
  split at hq
  · rename_i y hy
    simp only [Option.some.injEq, Prod.mk.injEq] at hq
    obtain ⟨rfl, rfl⟩ := hq
    exact ⟨h hy, trivial⟩
  · cases hq
/-- .. with one thing more that is asked -/
def qAnd {α : Type} (q : Dec α) (r : α → Prop) : Dec α := fun d => match q d with
  | some (x, ps) => some (x, r x :: ps)
  | none => none
theorem qAnd_ok {α : Type} {q : Dec α} {e : α → Dyn.DV} {p r : α → Prop} (h : DecOk q e p) : DecOk (qAnd q r) e (fun x => r x ∧ p x) := fun d x ps hq hp => by
  unfold qAnd at hq
  split at hq
  · rename_i y ps' hy
    simp only [Option.some.injEq, Prod.mk.injEq] at hq
    obtain ⟨rfl, rfl⟩ := hq
    obtain ⟨h1, h2⟩ := h d _ _ hy hp.2
    exact ⟨h1, hp.1, h2⟩
  · cases hq
def qP : Dec P2 := qOf aP
def qX : Dec B4 := qOf aX
def qI : Dec Int := qOf aI
def qB : Dec Bool := qOf aB
def qT : Dec Tn := qOf aT
theorem qP_ok : DecOk qP dvP (fun _ => True) := qOf_ok aP_eq
theorem qX_ok : DecOk qX dvX (fun _ => True) := qOf_ok aX_eq
theorem qI_ok : DecOk qI dvI (fun _ => True) := qOf_ok aI_eq
theorem qB_ok : DecOk qB dvB (fun _ => True) := qOf_ok aB_eq
theorem qT_ok : DecOk qT dvT (fun _ => True) := qOf_ok aT_eq
def qC : Dec Ctr
  | .one (.row n f) => some (ctrOf n f, [ctrIs n f])
  | _ => none
theorem qC_ok : DecOk qC dvC (fun _ => True) := fun d x ps h hp => by
  unfold qC at h; split at h
  · simp only [Option.some.injEq, Prod.mk.injEq] at h
    obtain ⟨rfl, rfl⟩ := h
    exact ⟨⟨rfl, hp.1⟩, trivial⟩
  · cases h
def en1D {α : Type} (q : Dec α) (F : α → Dyn.RV) : List Dyn.DV → Option (Dyn.RV × List Prop)
  | [a] => match q a with
    | some (x, ps) => some (F x, ps)
    | none => none
  | _ => none
def en2D {α β : Type} (q : Dec α) (q2 : Dec β) (F : α → β → Dyn.RV) : List Dyn.DV → Option (Dyn.RV × List Prop)
  | [a, b] => match q a, q2 b with
    | some (x, ps), some (y, qs) => some (F x y, ps ++ qs)
    | _, _ => none
  | _ => none
def en3D {α β γ : Type} (q : Dec α) (q2 : Dec β) (q3 : Dec γ) (F : α → β → γ → Dyn.RV) : List Dyn.DV → Option (Dyn.RV × List Prop)
  | [a, b, c] => match q a, q2 b, q3 c with
    | some (x, ps), some (y, qs), some (z, rs) => some (F x y z, ps ++ qs ++ rs)
    | _, _, _ => none
  | _ => none
def en0R (r : Dyn.RV) : List Dyn.DV → Option (Dyn.RV × List Prop)
  | [] => some (r, [])
  | _ => none
theorem en0R_ok {P : Program} {K : Nat} {r : Dyn.RV} (h : Dyn.CallD P K [] r) : Dyn.EntryDOk P (K, en0R r) := fun args r' ps hr hp => by
  dsimp only at hr
  unfold en0R at hr
  split at hr
  · simp only [Option.some.injEq, Prod.mk.injEq] at hr
    rw [← hr.1]; exact h
  · cases hr
theorem en1D_ok {P : Program} {K : Nat} {α : Type} {q : Dec α} {e : α → Dyn.DV} {p : α → Prop} {F : α → Dyn.RV} (hq : DecOk q e p) (h : ∀ x, p x → Dyn.CallD P K [e x] (F x)) : Dyn.EntryDOk P (K, en1D q F) := fun args r ps hr hp => by
  dsimp only at hr
  unfold en1D at hr
  split at hr
  · split at hr
    · rename_i x ps' hx
      simp only [Option.some.injEq, Prod.mk.injEq] at hr
      obtain ⟨rfl, rfl⟩ := hr
      obtain ⟨h1, h2⟩ := hq _ _ _ hx hp
      exact CallD_le (args := [e x]) ⟨h1, trivial⟩ (h x h2)
    · cases hr
  · cases hr
theorem en2D_ok {P : Program} {K : Nat} {α β : Type} {q : Dec α} {q2 : Dec β} {e : α → Dyn.DV} {e2 : β → Dyn.DV} {p : α → Prop} {p2 : β → Prop} {F : α → β → Dyn.RV} (hq : DecOk q e p) (hq2 : DecOk q2 e2 p2) (h : ∀ x y, p x → p2 y → Dyn.CallD P K [e x, e2 y] (F x y)) : Dyn.EntryDOk P (K, en2D q q2 F) := fun args r ps hr hp => by
  dsimp only at hr
  unfold en2D at hr
  split at hr
  · split at hr
    · rename_i x ps' y qs' hx hy
      simp only [Option.some.injEq, Prod.mk.injEq] at hr
      obtain ⟨rfl, rfl⟩ := hr
      rw [allP_append] at hp
      obtain ⟨h1, h2⟩ := hq _ _ _ hx hp.1
      obtain ⟨h3, h4⟩ := hq2 _ _ _ hy hp.2
      exact CallD_le (args := [e x, e2 y]) ⟨h1, h3, trivial⟩ (h x y h2 h4)
    · cases hr
  · cases hr
theorem en3D_ok {P : Program} {K : Nat} {α β γ : Type} {q : Dec α} {q2 : Dec β} {q3 : Dec γ} {e : α → Dyn.DV} {e2 : β → Dyn.DV} {e3 : γ → Dyn.DV} {p : α → Prop} {p2 : β → Prop} {p3 : γ → Prop} {F : α → β → γ → Dyn.RV} (hq : DecOk q e p) (hq2 : DecOk q2 e2 p2) (hq3 : DecOk q3 e3 p3)
    (h : ∀ x y z, p x → p2 y → p3 z → Dyn.CallD P K [e x, e2 y, e3 z] (F x y z)) : Dyn.EntryDOk P (K, en3D q q2 q3 F) := fun args r ps hr hp => by
  dsimp only at hr
  unfold en3D at hr
  split at hr
  · split at hr
    · rename_i x ps' y qs' z rs' hx hy hz
      simp only [Option.some.injEq, Prod.mk.injEq] at hr
      obtain ⟨rfl, rfl⟩ := hr
      rw [allP_append, allP_append] at hp
      obtain ⟨h1, h2⟩ := hq _ _ _ hx hp.1.1
      obtain ⟨h3, h4⟩ := hq2 _ _ _ hy hp.1.2
      obtain ⟨h5, h6⟩ := hq3 _ _ _ hz hp.2
      exact CallD_le (args := [e x, e2 y, e3 z]) ⟨h1, h3, h5, trivial⟩ (h x y z h2 h4 h6)
    · cases hr
  · cases hr
/-- what a value of type Shape shows, one level -/
def aS : Dyn.DV → Option (Sh × List Prop)
  | .agg [.p (.int .i64 k), .p (.int .i64 a), .p (.int .i64 b), .p (.int .i64 c), .p (.int .i64 d), .p (.int .i64 e), .p (.int .i64 f), .p (.int .i64 r), .row nl fl, .row n g] => some (⟨k, ⟨a, b⟩, ⟨c, d⟩, ⟨e, f⟩, r, ctrOf nl fl, n, g⟩, [ctrIs nl fl])
  | _ => none
theorem aS_eq {d : Dyn.DV} {x : Sh} {ps : List Prop} (h : aS d = some (x, ps)) (hp : allP ps) : Dyn.DVLe d (dvS x) := by
  unfold aS at h; split at h
  · simp only [Option.some.injEq, Prod.mk.injEq] at h
    obtain ⟨rfl, rfl⟩ := h
    exact ⟨rfl, rfl, rfl, rfl, rfl, rfl, rfl, rfl, ⟨rfl, hp.1⟩, ⟨rfl, fun _ _ => rfl⟩, trivial⟩
  · cases h
def qS : Dec Sh := aS
theorem qS_ok : DecOk qS dvS (fun _ => True) := fun d x ps h hp => ⟨aS_eq h hp, trivial⟩
/-! ### shapes, all of it: from one level back -/
theorem cCtr_inj {l m : Ctr} (h : ctrOf l.n (fun i => [cRow (l.m i) (l.p i)]) = ctrOf m.n (fun i => [cRow (m.m i) (m.p i)])) : l = m := h
theorem cS_inj {s t : Sh} (h : cS s = cS t) : s = t := by
  have h2 : (aS (.agg (cS s))).map (·.1) = (aS (.agg (cS t))).map (·.1) := by rw [h]
  have e : ∀ s : Sh, (aS (.agg (cS s))).map (·.1) = some s := fun s => rfl
  rw [e, e] at h2
  exact Option.some.inj h2
theorem toSh_inj : ∀ (s t : Shp), toSh s = toSh t → s = t := by
  intro s
  induction s with
  | nil =>
    intro t h
    cases t with
    | nil => rfl
    | mk k' a' b' c' r' l' n' add' sub' =>
      simp only [toSh, Sh.mk.injEq] at h
      have := congrFun h.2.2.2.2.2.2.2 0
      cases this
  | mk k a b c r l n add sub ih =>
    intro t h
    cases t with
    | nil =>
      simp only [toSh, Sh.mk.injEq] at h
      have := congrFun h.2.2.2.2.2.2.2 0
      cases this
    | mk k' a' b' c' r' l' n' add' sub' =>
      simp only [toSh, Sh.mk.injEq] at h
      obtain ⟨rfl, rfl, rfl, rfl, rfl, rfl, rfl, hf⟩ := h
      have h1 : ∀ i, add i = add' i ∧ sub i = sub' i := fun i => by
        have := congrFun hf i
        simp only [partC, List.cons.injEq] at this
        refine ⟨?_, ih i _ (cS_inj this.2)⟩
        have h2 : cB (add i) = cB (add' i) := this.1
        simp only [cB, Dyn.DC.p.injEq, Value.bool.injEq] at h2
        exact h2
      have e1 : add = add' := funext fun i => (h1 i).1
      have e2 : sub = sub' := funext fun i => (h1 i).2
      rw [e1, e2]
instance : Inhabited Shp := ⟨.nil⟩
/-- nothing in it is too long to be counted -/
def ShB : Shp → Prop
  | .nil => False
  | .mk _ _ _ _ _ l n _ sub => CtrB l ∧ n ≤ 1000000000 ∧ ∀ i, i < n → ShB (sub i)
/-- two that differ at most in parts that are not there -/
def SLe (x y : Sh) : Prop := x.k = y.k ∧ x.a = y.a ∧ x.b = y.b ∧ x.c = y.c ∧ x.r = y.r ∧ x.l = y.l ∧ x.n = y.n ∧ ∀ i, i < x.n → x.f i = y.f i
theorem SLe.refl (x : Sh) : SLe x x := ⟨rfl, rfl, rfl, rfl, rfl, rfl, rfl, fun _ _ => rfl⟩
theorem SLe.dv {x y : Sh} (h : SLe x y) : Dyn.DVLe (dvS x) (dvS y) := by
  obtain ⟨k, a, b, c, r, l, n, f⟩ := x
  obtain ⟨k', a', b', c', r', l', n', f'⟩ := y
  obtain ⟨h1, h2, h3, h4, h5, h6, h7, h8⟩ := h
  dsimp only at h1 h2 h3 h4 h5 h6 h7 h8
  subst h1; subst h2; subst h3; subst h4; subst h5; subst h6; subst h7
  exact ⟨rfl, rfl, rfl, rfl, rfl, rfl, rfl, rfl, Dyn.DCLe.refl _, ⟨rfl, h8⟩, trivial⟩
theorem SLe_B {s t : Shp} (h : SLe (toSh s) (toSh t)) (ht : ShB t) : ShB s := by
  cases t with
  | nil => exact ht.elim
  | mk k' a' b' c' r' l' n' add' sub' =>
    obtain ⟨h1, h2, h3, h4, h5, h6, h7, h8⟩ := h
    cases s with
    | nil =>
      have := h8 0 (by show (0 : Nat) < 1; decide)
      cases this
    | mk k a b c r l n add sub =>
      have e6 : l = l' := h6
      have e7 : n = n' := h7
      subst e6; subst e7
      refine ⟨ht.1, ht.2.1, fun i hi => ?_⟩
      have := h8 i hi
      have e : toSh (sub i) = toSh (sub' i) := cS_inj (List.cons.inj this).2
      rw [toSh_inj _ _ e]
      exact ht.2.2 i hi
noncomputable def ofSh (x : Sh) : Shp := Classical.epsilon fun s => toSh s = x ∨ ((¬ ∃ t, toSh t = x) ∧ ShB s ∧ SLe x (toSh s))
theorem ofSh_toSh (s : Shp) : ofSh (toSh s) = s := by
  have h : toSh (ofSh (toSh s)) = toSh s ∨ ((¬ ∃ t, toSh t = toSh s) ∧ ShB (ofSh (toSh s)) ∧ SLe (toSh s) (toSh (ofSh (toSh s)))) := Classical.epsilon_spec (p := fun t => toSh t = toSh s ∨ ((¬ ∃ u, toSh u = toSh s) ∧ ShB t ∧ SLe (toSh s) (toSh t))) ⟨s, .inl rfl⟩
  rcases h with h | h
  · exact toSh_inj _ _ h
  · exact absurd ⟨s, rfl⟩ h.1
/-- a shape of which nothing is too long -/
def PdS (x : Sh) : Prop := ShB (ofSh x) ∧ SLe x (toSh (ofSh x))
theorem PdS_mk {s : Shp} (h : ShB s) : PdS (toSh s) := by unfold PdS; rw [ofSh_toSh]; exact ⟨h, SLe.refl _⟩
theorem PdS_le {x : Sh} {s : Shp} (hs : ShB s) (h : SLe x (toSh s)) : PdS x := by
  by_cases e : ∃ t, toSh t = x
  · obtain ⟨t, rfl⟩ := e
    exact PdS_mk (SLe_B h hs)
  · have q : toSh (ofSh x) = x ∨ ((¬ ∃ t, toSh t = x) ∧ ShB (ofSh x) ∧ SLe x (toSh (ofSh x))) := Classical.epsilon_spec (p := fun s => toSh s = x ∨ ((¬ ∃ t, toSh t = x) ∧ ShB s ∧ SLe x (toSh s))) ⟨s, .inr ⟨e, hs, h⟩⟩
    rcases q with q | q
    · exact absurd ⟨_, q⟩ e
    · exact q.2
theorem PdS_of {x : Sh} (h : PdS x) : ∃ add sub, ofSh x = .mk x.k x.a x.b x.c x.r x.l x.n add sub ∧ ∀ i, i < x.n → x.f i = partC (add i) (toSh (sub i)) := by
  obtain ⟨h1, h2⟩ := h
  revert h1 h2
  generalize ofSh x = s
  intro h1 h2
  cases s with
  | nil => exact h1.elim
  | mk k a b c r l n add sub =>
    obtain ⟨e1, e2, e3, e4, e5, e6, e7, e8⟩ := h2
    have e1 : x.k = k := e1
    have e2 : x.a = a := e2
    have e3 : x.b = b := e3
    have e4 : x.c = c := e4
    have e5 : x.r = r := e5
    have e6 : x.l = l := e6
    have e7 : x.n = n := e7
    subst e1; subst e2; subst e3; subst e4; subst e5; subst e6; subst e7
    exact ⟨add, sub, rfl, e8⟩
def lSelf (l : Ctr) : Prop := ctrSelf l
/-- types that show slices -/
def dtyS (t : TypeId) : Bool := dtyP t || Nat.beq t 27 || Nat.beq t 25 || Nat.beq t 35
end Go.Proofs.Ythnenjodighlmaa

/-! ## Shb -/
namespace Go.Proofs.Ythnenjodighlmaa
open Go Go.RowKit Sym
set_option maxRecDepth 100000

def tabF0 : Dyn.Tabs := Dyn.tabs tbF [] noD noD
theorem tabF0_ok : Dyn.TabsOk Try.prog tabF0 := Dyn.tabs_ok tbF_ok (fun _ h => by cases h)
def tabF1 : Dyn.Tabs := Dyn.tabs tbF [] noD dtyS
theorem tabF1_ok : Dyn.TabsOk Try.prog tabF1 := Dyn.tabs_ok tbF_ok (fun _ h => by cases h)
/-! ### bare -/
def zeP (p : P2) : Bool := bif p.x == 0 then bif p.y == 0 then true else false else false
def bareF (s : Sh) : Bool :=
  bif bif bif s.k != 2 then decide ((s.l.n : Int) > 0) else false then true else bif s.k != 6 then decide ((s.n : Int) > 0) else false then false
  else bif s.k == 1 then bif zeP s.b then zeP s.c else false
  else bif bif s.k == 3 then s.k == 3 else s.k == 4 then zeP s.c
  else bif bif s.k == 2 then s.k == 2 else s.k == 6 then bif bif bif zeP s.a then zeP s.b else false then zeP s.c else false then s.r == 0 else false
  else true
theorem bare_ok (s : Sh) : Dyn.CallD Try.prog 71 [dvS s] (rB (bareF s)) :=
  Dyn.dcontractV (lp := Dyn.noLp) (fuel := 3) (X := tabF0) tabF0_ok mo Try.func71 (by kernel_rfl) (c := bodyD Try.f71.body) (by kernel_rfl) (fun w0 => Dyn.noLp_ok _ w0) (by kernel_rfl) (by kernel_rfl) (show _ = [] by kernel_rfl) trivial
/-! ### contours -/
def ctgI (l : Ctr) (i : Nat) (k : Nat) (_ : Unit) : Bool × Unit := (nearF (l.p i k), ())
def ctgO (l : Ctr) (i : Nat) (left : Int) : Bool × Int :=
  bif decide ((l.m i : Int) > left) then (false, left) else ((runN (ctgI l i) () (l.m i)).1, W (left - l.m i))
def contoursF (l : Ctr) : Bool := (runN (ctgO l) 1000 l.n).1
def ctS (l : Ctr) (k : Int) (left : Int) : Dyn.St := mkS 33 [(0, sH 0 0 l.n), (2, .k (vb false)), (3, sI left), (8, sH 0 0 l.n), (9, sI l.n), (10, sI k)] [some (.deep [cCtr l])]
def ctT (l : Ctr) (k : Int) (left : Int) (j : Int) : Dyn.St := mkS 33 [(0, sH 0 0 l.n), (2, .k (vb false)), (3, sI left), (5, sH 1 0 (l.m k.toNat)), (8, sH 0 0 l.n), (9, sI l.n), (10, sI k), (22, sH 1 0 (l.m k.toNat)), (23, sI (l.m k.toNat)), (24, sI j)] [some (.deep [cCtr l]), some (.deep [cRow (l.m k.toNat) (l.p k.toNat)])]
def ctR : Dyn.St := mkS 33 [(2, .k (vb false))] []
def ctK0 : List Nat := [0, 2, 3, 8, 9, 10]
def ctK1 : List Nat := [0, 2, 3, 5, 8, 9, 10, 22, 23, 24]
def ctLp (l : Ctr) : Dyn.Lp := fun id s => match id with
  | 0 => some (.side [keepS 33 [0] ctK0 (2 ^ 3 + 2 ^ 10) s = ctS l 0 1000] (.ite (contoursF l) (.leaf .normal (ctS l l.n (runN (ctgO l) 1000 l.n).2)) (.leaf .ret ctR)))
  | 2 =>
    let k := intD (s.slots.getD 10 .junk)
    let left := intD (s.slots.getD 3 .junk)
    some (.side [keepA 33 [0] [5] ctK1 (2 ^ 24) s = ctT l k left 0, 0 ≤ k ∧ k < l.n] (.ite (runN (ctgI l k.toNat) () (l.m k.toNat)).1 (.leaf .normal (ctT l k left (l.m k.toNat))) (.leaf .ret ctR)))
  | _ => none
def ctB1 (l : Ctr) (k : Int) (left : Int) (j : Nat) : Dyn.Out :=
  .ite (decide ((j : Int) < l.m k.toNat)) (.side [0 ≤ (j : Int) ∧ (j : Int) < l.m k.toNat] (.ite (!nearF (l.p k.toNat j)) (.leaf .ret ctR) (.leaf .normal (ctT l k left (W (j + 1)))))) (.leaf (.exit 2) (ctT l k left j))
def ctB0 (l : Ctr) (k : Nat) (left : Int) : Dyn.Out :=
  .ite (decide ((k : Int) < l.n)) (.side [0 ≤ (k : Int) ∧ (k : Int) < l.n] (.ite (decide ((l.m k : Int) > left)) (.leaf .ret ctR) (.side [ctT l k (W (left - l.m k)) 0 = ctT l k (W (left - l.m k)) 0, 0 ≤ (k : Int) ∧ (k : Int) < l.n]
    (.ite (runN (ctgI l k) () (l.m k)).1 (.leaf .normal (ctS l (W (k + 1)) (W (left - l.m k)))) (.leaf .ret ctR))))) (.leaf (.exit 0) (ctS l k left))
theorem ct_B1 (l : Ctr) (k left : Int) (j : Nat) : (Dyn.lexec Try.prog tabF1 (ctLp l) 3 (unloopD (blkD Try.f74.body 2)) .leaf (ctT l k left j)).rl (keepR 33 [0] [5] ctK1 [2]) = ctB1 l k left j := by kernel_rfl
theorem ct_B0 (l : Ctr) (k : Nat) (left : Int) : (Dyn.lexec Try.prog tabF1 (ctLp l) 3 (unloopD (blkD Try.f74.body 0)) .leaf (ctS l k left)).rl (keepR 33 [0] [] ctK0 [2]) = ctB0 l k left := by kernel_rfl
theorem ct_blocks : blocksL (bodyD Try.f74.body) = [(0, .loop (unloopD (blkD Try.f74.body 0))), (1, blkD Try.f74.body 1), (2, .loop (unloopD (blkD Try.f74.body 2))), (3, blkD Try.f74.body 3)] := by kernel_rfl
theorem ct_b0 : blocksL (unloopD (blkD Try.f74.body 0)) = [(1, blkD Try.f74.body 1), (2, .loop (unloopD (blkD Try.f74.body 2))), (3, blkD Try.f74.body 3)] := by kernel_rfl
theorem ct_b2 : blocksL (unloopD (blkD Try.f74.body 2)) = [(3, blkD Try.f74.body 3)] := by kernel_rfl
theorem ct_inner (l : Ctr) (hl : CtrB l) (w0 : Dyn.Base Try.prog) (s : Dyn.St) (o : Dyn.Out) (h : ctLp l 2 s = some o) : Dyn.BlockSound Try.prog w0 2 (.loop (unloopD (blkD Try.f74.body 2))) s o := by
  simp only [ctLp, Option.some.injEq] at h
  subst h
  refine side_two fun hS hi => ?_
  revert hS hi
  generalize intD (s.slots.getD 10 .junk) = k
  generalize intD (s.slots.getD 3 .junk) = left
  intro hS hi
  have hm : l.m k.toNat ≤ 1000000000 := hl.2 _ (by omega)
  refine run_block (fuel := 3) tabF1_ok mo (lp := ctLp l) (by rw [ct_b2]; exact lpOk_cons (fun s o h => by cases h) lpOk_nil) (fun j (_ : Unit) => ctT l k left j) (l.m k.toNat) (ctgI l k.toNat) () (fun _ => ctR) (keepR 33 [0] [5] ctK1 [2]) (keepR_ent 33 _ _ _ _) (fun j _ => ctB1 l k left j) (fun j _ => ct_B1 l k left j) (fun j a hj ha => ?_) (fun a ha => ?_) (hS ▸ keepA_ent 33 _ _ _ _ s)
  · refine ⟨fun _ => ⟨⟨⟨by omega, by omega⟩, trivial⟩, fun hn => .inr ⟨rfl, ?_, Dyn.Fits.refl _⟩, fun hn => .inl ⟨rfl, ?_, ?_⟩⟩, fun hf => ?_⟩
    · simpa [ctgI] using hn
    · simpa [ctgI] using hn
    · show Dyn.Fits (ctT l k left (W (j + 1))) _
      rw [Wn1 hj hm]; exact Dyn.Fits.refl _
    · rw [decide_eq_false_iff_not] at hf; omega
  · refine ⟨fun ht => ?_, fun _ => ⟨rfl, Dyn.Fits.refl _⟩⟩
    rw [decide_eq_true_eq] at ht; omega
theorem ct_outer (l : Ctr) (hl : CtrB l) (w0 : Dyn.Base Try.prog) (s : Dyn.St) (o : Dyn.Out) (h : ctLp l 0 s = some o) : Dyn.BlockSound Try.prog w0 0 (.loop (unloopD (blkD Try.f74.body 0))) s o := by
  simp only [ctLp, Option.some.injEq] at h
  subst h
  refine side_one fun hS => ?_
  refine run_block (fuel := 3) tabF1_ok mo (lp := ctLp l) (by rw [ct_b0]; exact lpOk_cons (fun s o h => by cases h) (lpOk_cons (ct_inner l hl w0) (lpOk_cons (fun s o h => by cases h) lpOk_nil))) (fun k left => ctS l k left) l.n (ctgO l) 1000 (fun _ => ctR) (keepR 33 [0] [] ctK0 [2]) (keepR_ent 33 _ _ _ _) (fun k left => ctB0 l k left) (fun k left => ct_B0 l k left) (fun k left hk ha => ?_) (fun a ha => ?_) (hS ▸ keepS_ent 33 (by decide) _ _ s)
  · unfold ctgO
    refine ⟨fun _ => ⟨⟨⟨by omega, by omega⟩, trivial⟩, fun hn => .inr ⟨rfl, ?_, Dyn.Fits.refl _⟩, fun hn => ⟨⟨rfl, ⟨by omega, by omega⟩, trivial⟩, fun hx => .inl ⟨rfl, ?_, ?_⟩, fun hx => .inr ⟨rfl, ?_, Dyn.Fits.refl _⟩⟩⟩, fun hf => ?_⟩
    · rw [hn]; rfl
    · rw [hn]; exact hx
    · rw [hn]
      show Dyn.Fits (ctS l (W (k + 1)) _) _
      rw [Wn1 hk hl.1]; exact Dyn.Fits.refl _
    · rw [hn]; exact hx
    · rw [decide_eq_false_iff_not] at hf; omega
  · refine ⟨fun ht => ?_, fun _ => ⟨rfl, Dyn.Fits.refl _⟩⟩
    rw [decide_eq_true_eq] at ht; omega
theorem contours_ok (l : Ctr) (hl : CtrB l) : Dyn.CallD Try.prog 74 [dvC l] (rB (contoursF l)) := by
  have := Dyn.dcontractV (args := [dvC l]) (lp := ctLp l) (fuel := 3) (X := tabF1) (v := vb (bif contoursF l then true else false)) (l := [ctS l 0 1000 = ctS l 0 1000]) tabF1_ok mo Try.func74 (by kernel_rfl) (c := bodyD Try.f74.body) (by kernel_rfl)
    (fun w0 => by rw [ct_blocks]; exact lpOk_cons (ct_outer l hl w0) (lpOk_cons (fun s o h => by cases h) (lpOk_cons (ct_inner l hl w0) (lpOk_cons (fun s o h => by cases h) lpOk_nil))))
    (by kernel_rfl) (by kernel_rfl) (by kernel_rfl) ⟨rfl, trivial⟩
  rwa [bif_tf] at this
end Go.Proofs.Ythnenjodighlmaa

/-! ## Shc -/
namespace Go.Proofs.Ythnenjodighlmaa
open Go Go.RowKit Sym
set_option maxRecDepth 100000

/-- one level: what the fields are, the parts' shapes -/
def mkSh (k : Int) (a b c : P2) (r : Int) (l : Ctr) (n : Nat) (add : Nat → Bool) (sh : Nat → Sh) : Sh := ⟨k, a, b, c, r, l, n, fun i => partC (add i) (sh i)⟩
theorem toSh_mk (k : Int) (a b c : P2) (r : Int) (l : Ctr) (n : Nat) (add : Nat → Bool) (sub : Nat → Shp) : toSh (.mk k a b c r l n add sub) = mkSh k a b c r l n add (fun i => toSh (sub i)) := rfl
/-- valid, by what it says of parts -/
def validG (g : Sh → Int → Int → Bool × Int) (sh : Nat → Sh) (s : Sh) (forms left : Int) : Bool × Int :=
  bif decide (left < 1) then (false, left) else
  bif !(bareF s) then (false, W (left - 1)) else
  bif s.k == 1 then (andB (nearF s.a) (widF s.r), W (left - 1)) else
  bif s.k == 2 then (contoursF s.l, W (left - 1)) else
  bif s.k == 3 then (andB (andB (nearF s.a) (nearF s.b)) (widF s.r), W (left - 1)) else
  bif s.k == 4 then (andB (andB (andB (nearF s.a) (nearF s.b)) (widF s.r)) (!(bif s.a.x == s.b.x then bif s.a.y == s.b.y then true else false else false)), W (left - 1)) else
  bif s.k == 5 then (andB (andB (andB (andB (nearF s.a) (nearF s.b)) (nearF s.c)) (widF s.r)) (ringOk s.c s.a s.b), W (left - 1)) else
  bif s.k == 6 then (bif decide (forms ≥ 8) then (false, W (left - 1)) else runN (fun i lf => g (sh i) (W (forms + 1)) lf) (W (left - 1)) s.n)
  else (false, W (left - 1))
def enV (Pd : Sh → Prop) (g : Sh → Int → Int → Bool × Int) : List Dyn.LA → Dyn.Lent → Option (Value × List (List Value) × List Prop)
  | [.d u, .d v, .lp 0 0], [(t, [.int .i64 left])] => match qS u, aI v, Nat.beq t 3 with
    | some (x, ps), some forms, true => some (vb (g x forms left).1, [[vi (g x forms left).2]], Pd x :: ps)
    | _, _, _ => none
  | _, _ => none
theorem CallX_le {P : Program} {K : Nat} {u u' v v' : Dyn.DV} {l : List Dyn.LA} {lent : Dyn.Lent} {r : Value} {o : List (List Value)} (h1 : Dyn.DVLe u u') (h2 : Dyn.DVLe v v') (k : Dyn.CallX P K (.d u' :: .d v' :: l) lent r o) : Dyn.CallX P K (.d u :: .d v :: l) lent r o := fun w F bs us hF hn hd hl hden => k w F bs us hF hn hd hl (by
  cases us with
  | nil => exact hden
  | cons x us => cases us with
    | nil => exact hden.2.elim
    | cons y us => exact ⟨Dyn.DenV_le h1 hden.1, Dyn.DenV_le h2 hden.2.1, hden.2.2⟩)
def VaOk (x : Sh) (g : Sh → Int → Int → Bool × Int) : Prop := ∀ forms left, Dyn.CallX Try.prog 57 [.d (dvS x), .d (dvI forms), .lp 0 0] [(3, [vi left])] (vb (g x forms left).1) [[vi (g x forms left).2]]
theorem enV_ok {Pd : Sh → Prop} {g : Sh → Int → Int → Bool × Int} (ih : ∀ x, Pd x → VaOk x g) : Dyn.EntryXOk Try.prog (57, enV Pd g) := fun as' lent u out ps h hp => by
  dsimp only at h
  unfold enV at h
  split at h
  · rename_i t left
    split at h
    · rename_i x ps' forms hx hf ht
      have ht' := Nat.eq_of_beq_eq_true ht
      subst ht'
      simp only [Option.some.injEq, Prod.mk.injEq] at h
      obtain ⟨rfl, rfl, rfl⟩ := h
      exact CallX_le (qS_ok _ _ _ hx hp.2).1 (aI_eq hf) (ih x hp.1 forms left)
    · cases h
  · cases h
def tdV : List Dyn.EntryD := [(71, en1D qS fun s => rB (bareF s)), (74, en1D (qAnd qC CtrB) fun l => rB (contoursF l))]
theorem tdV_ok : ∀ e ∈ tdV, Dyn.EntryDOk Try.prog e := List.forall_mem_cons.2 ⟨en1D_ok qS_ok fun s _ => bare_ok s, List.forall_mem_cons.2 ⟨en1D_ok (qAnd_ok qC_ok) fun l h => contours_ok l h.1, fun _ h => by cases h⟩⟩
def drV (K : Nat) : Bool := Nat.beq K 57
def tabV (Pd : Sh → Prop) (g : Sh → Int → Int → Bool × Int) : Dyn.Tabs := Dyn.tabsX tbF tdV [(57, enV Pd g)] drV dtyS false
theorem tabV_ok {Pd : Sh → Prop} {g : Sh → Int → Int → Bool × Int} (ih : ∀ x, Pd x → VaOk x g) : Dyn.TabsOk Try.prog (tabV Pd g) :=
  Dyn.tabsX_ok tbF_ok tdV_ok (List.forall_mem_cons.2 ⟨enV_ok ih, fun _ h => by cases h⟩)
def vaG (g : Sh → Int → Int → Bool × Int) (sh : Nat → Sh) (forms : Int) (i : Nat) (left : Int) : Bool × Int := g (sh i) (W (forms + 1)) left
def vaS (s : Sh) (forms left i : Int) : Dyn.St := mkF 123 [(1, sI forms), (2, sL 0), (6, .k (vb false)), (109, sH 1 9 s.n), (110, sI s.n), (111, sI i)] [some (.cells 3 [vi left]), some (.deep (cS s))] [(2, 0)]
def vaR (left : Int) : Dyn.St := mkF 123 [(2, sL 0), (6, .k (vb false))] [some (.cells 3 [vi left])] [(2, 0)]
def vaK : List Nat := [1, 2, 6, 109, 110, 111]
def vaLp (g : Sh → Int → Int → Bool × Int) (sh : Nat → Sh) (s : Sh) (forms left : Int) : Dyn.Lp := fun id st => match id with
  | 1 => some (.side [keepA 123 [0, 1] [] vaK (2 ^ 111) st = vaS s forms left 0] (.ite (runN (vaG g sh forms) left s.n).1 (.leaf .normal (vaS s forms (runN (vaG g sh forms) left s.n).2 s.n)) (.leaf .ret (vaR (runN (vaG g sh forms) left s.n).2))))
  | _ => none
def vaB (Pd : Sh → Prop) (g : Sh → Int → Int → Bool × Int) (sh : Nat → Sh) (s : Sh) (forms : Int) (i : Nat) (left : Int) : Dyn.Out :=
  .ite (decide ((i : Int) < s.n)) (.side [0 ≤ (i : Int) ∧ (i : Int) < s.n] (.side [Pd (sh i), ctrSelf (sh i).l] (.ite (!(g (sh i) (W (forms + 1)) left).1) (.leaf .ret (vaR (g (sh i) (W (forms + 1)) left).2)) (.leaf .normal (vaS s forms (g (sh i) (W (forms + 1)) left).2 (W (i + 1))))))) (.leaf (.exit 1) (vaS s forms left i))
theorem va_B (Pd : Sh → Prop) (g : Sh → Int → Int → Bool × Int) (k : Int) (a b c : P2) (r : Int) (l : Ctr) (n : Nat) (add : Nat → Bool) (sh : Nat → Sh) (forms l0 : Int) (i : Nat) (left : Int) :
    (Dyn.lexec Try.prog (tabV Pd g) (vaLp g sh (mkSh k a b c r l n add sh) forms l0) 3 (unloopD (blkD Try.f57.body 1)) .leaf (vaS (mkSh k a b c r l n add sh) forms left i)).rl (keepQ 123 [0, 1] [] vaK [0] [2, 6]) = vaB Pd g sh (mkSh k a b c r l n add sh) forms i left := by kernel_rfl
theorem va_blocks : blocksL (bodyD Try.f57.body) = [(0, blkD Try.f57.body 0), (1, .loop (unloopD (blkD Try.f57.body 1))), (2, blkD Try.f57.body 2)] := by kernel_rfl
theorem va_b1 : blocksL (unloopD (blkD Try.f57.body 1)) = [(2, blkD Try.f57.body 2)] := by kernel_rfl
theorem va_loop {Pd : Sh → Prop} {g : Sh → Int → Int → Bool × Int} (ih : ∀ x, Pd x → VaOk x g) (k : Int) (a b c : P2) (r : Int) (l : Ctr) (n : Nat) (add : Nat → Bool) (sh : Nat → Sh) (hn : n ≤ 1000000000) (hP : ∀ i, i < n → Pd (sh i)) (forms l0 : Int) (w0 : Dyn.Base Try.prog) (s : Dyn.St) (o : Dyn.Out)
    (h : vaLp g sh (mkSh k a b c r l n add sh) forms l0 1 s = some o) : Dyn.BlockSound Try.prog w0 1 (.loop (unloopD (blkD Try.f57.body 1))) s o := by
  simp only [vaLp, Option.some.injEq] at h
  subst h
  refine side_one fun hS => ?_
  refine run_block (fuel := 3) (tabV_ok ih) mo (lp := vaLp g sh (mkSh k a b c r l n add sh) forms l0) (by rw [va_b1]; exact lpOk_cons (fun s o h => by cases h) lpOk_nil) (fun i left => vaS (mkSh k a b c r l n add sh) forms left i) n (vaG g sh forms) l0 vaR (keepQ 123 [0, 1] [] vaK [0] [2, 6]) (keepQ_ent 123 _ _ _ _ _) (fun i left => vaB Pd g sh (mkSh k a b c r l n add sh) forms i left) (fun i left => va_B Pd g k a b c r l n add sh forms l0 i left) (fun i left hi ha => ?_) (fun left ha => ?_) (hS ▸ keepA_ent 123 _ _ _ _ s)
  · refine ⟨fun _ => ⟨⟨⟨by omega, by show (i : Int) < (n : Int); omega⟩, trivial⟩, ⟨hP i hi, ctrSelf_ok _, trivial⟩, fun hx => .inr ⟨rfl, ?_, Dyn.Fits.refl _⟩, fun hx => .inl ⟨rfl, ?_, ?_⟩⟩, fun hf => ?_⟩
    · simpa [vaG] using hx
    · simpa [vaG] using hx
    · rw [Wn1 hi hn]; exact Dyn.Fits.refl _
    · rw [decide_eq_false_iff_not] at hf
      exact absurd (show (i : Int) < (n : Int) by omega) hf
  · refine ⟨fun ht => ?_, fun _ => ⟨rfl, Dyn.Fits.refl _⟩⟩
    rw [decide_eq_true_eq] at ht
    exact absurd (show (n : Int) < (n : Int) from ht) (by omega)
def vaO (g : Sh → Int → Int → Bool × Int) (sh : Nat → Sh) (s : Sh) (forms left : Int) : Dyn.RX :=
  .ite (decide (left < 1)) (.leaf (vb false) [[vi left]])
  (.side [ctrSelf s.l] (.ite (!(bareF s)) (.leaf (vb false) [[vi (W (left - 1))]])
  (.ite (s.k == 1) (.leaf (vb (andB (nearF s.a) (widF s.r))) [[vi (W (left - 1))]])
  (.ite (s.k == 2) (.side [CtrB s.l, ctrSelf s.l] (.leaf (vb (contoursF s.l)) [[vi (W (left - 1))]]))
  (.ite (s.k == 3) (.leaf (vb (andB (andB (nearF s.a) (nearF s.b)) (widF s.r))) [[vi (W (left - 1))]])
  (.ite (s.k == 4) (.leaf (vb (andB (andB (andB (nearF s.a) (nearF s.b)) (widF s.r)) (!(bif s.a.x == s.b.x then bif s.a.y == s.b.y then true else false else false)))) [[vi (W (left - 1))]])
  (.ite (s.k == 5) (.leaf (vb (andB (andB (andB (andB (nearF s.a) (nearF s.b)) (nearF s.c)) (widF s.r)) (ringOk s.c s.a s.b))) [[vi (W (left - 1))]])
  (.ite (s.k == 6) (.ite (decide (forms ≥ 8)) (.leaf (vb false) [[vi (W (left - 1))]]) (.side [vaS s forms (W (left - 1)) 0 = vaS s forms (W (left - 1)) 0] (.ite (runN (vaG g sh forms) (W (left - 1)) s.n).1 (.leaf (vb true) [[vi (runN (vaG g sh forms) (W (left - 1)) s.n).2]]) (.leaf (vb false) [[vi (runN (vaG g sh forms) (W (left - 1)) s.n).2]]))))
  (.leaf (vb false) [[vi (W (left - 1))]])))))))))
theorem va_O (Pd : Sh → Prop) (g : Sh → Int → Int → Bool × Int) (s : Sh) (sh : Nat → Sh) (forms left : Int) : (Dyn.dfunX Try.prog (tabV Pd g) (vaLp g sh s forms (W (left - 1))) 3 Try.f57 [(3, [vi left])] [.d (dvS s), .d (dvI forms), .lp 0 0]).rx Try.prog [(3, [vi left])] Try.f57.results = vaO g sh s forms left := by kernel_rfl
theorem va_sat (g : Sh → Int → Int → Bool × Int) (sh : Nat → Sh) (s : Sh) (hl : CtrB s.l) (forms left : Int) : (vaO g sh s forms left).sat fun u os => u = vb (validG g sh s forms left).1 ∧ os = [[vi (validG g sh s forms left).2]] := by
  unfold validG
  refine ⟨fun h => ?_, fun h => ⟨⟨ctrSelf_ok _, trivial⟩, fun h1 => ?_, fun h1 => ⟨fun h2 => ?_, fun h2 => ⟨fun h3 => ⟨⟨hl, ctrSelf_ok _, trivial⟩, ?_⟩, fun h3 => ⟨fun h4 => ?_, fun h4 => ⟨fun h5 => ?_, fun h5 => ⟨fun h6 => ?_, fun h6 => ⟨fun h7 => ⟨fun h8 => ?_, fun h8 => ⟨⟨rfl, trivial⟩, fun h9 => ?_, fun h9 => ?_⟩⟩, fun h7 => ?_⟩⟩⟩⟩⟩⟩⟩⟩
  · rw [h]; exact ⟨rfl, rfl⟩
  · rw [h, h1]; exact ⟨rfl, rfl⟩
  · rw [h, h1, h2]; exact ⟨rfl, rfl⟩
  · rw [h, h1, h2, h3]; exact ⟨rfl, rfl⟩
  · rw [h, h1, h2, h3, h4]; exact ⟨rfl, rfl⟩
  · rw [h, h1, h2, h3, h4, h5]; exact ⟨rfl, rfl⟩
  · rw [h, h1, h2, h3, h4, h5, h6]; exact ⟨rfl, rfl⟩
  · rw [h, h1, h2, h3, h4, h5, h6, h7, h8]; exact ⟨rfl, rfl⟩
  · rw [h, h1, h2, h3, h4, h5, h6, h7, h8]; exact ⟨congrArg vb h9.symm, rfl⟩
  · rw [h, h1, h2, h3, h4, h5, h6, h7, h8]; exact ⟨congrArg vb h9.symm, rfl⟩
  · rw [h, h1, h2, h3, h4, h5, h6, h7]; exact ⟨rfl, rfl⟩
/-- one level -/
theorem valid_lvl {Pd : Sh → Prop} {g : Sh → Int → Int → Bool × Int} (ih : ∀ x, Pd x → VaOk x g) (k : Int) (a b c : P2) (r : Int) (l : Ctr) (n : Nat) (add : Nat → Bool) (sh : Nat → Sh) (hl : CtrB l) (hn : n ≤ 1000000000) (hP : ∀ i, i < n → Pd (sh i)) (forms left : Int) :
    Dyn.CallX Try.prog 57 [.d (dvS (mkSh k a b c r l n add sh)), .d (dvI forms), .lp 0 0] [(3, [vi left])] (vb (validG g sh (mkSh k a b c r l n add sh) forms left).1) [[vi (validG g sh (mkSh k a b c r l n add sh) forms left).2]] :=
  Dyn.xcontract (lp := vaLp g sh (mkSh k a b c r l n add sh) forms (W (left - 1))) (fuel := 3) (tabV_ok ih) mo Try.func57 (by kernel_rfl) (c := bodyD Try.f57.body) (by kernel_rfl)
    (fun w0 => by rw [va_blocks]; exact lpOk_cons (fun s o h => by cases h) (lpOk_cons (va_loop ih k a b c r l n add sh hn hP forms _ w0) (lpOk_cons (fun s o h => by cases h) lpOk_nil)))
    (by kernel_rfl) (by kernel_rfl) (by kernel_rfl) (va_O Pd g _ sh forms left) (va_sat g sh _ hl forms left)
/-- valid, all the way down -/
def validF : Shp → Int → Int → Bool × Int
  | .nil, _, left => (false, left)
  | .mk k a b c r l n add sub, forms, left =>
    bif decide (left < 1) then (false, left) else
    bif !(bareF (toSh (.mk k a b c r l n add sub))) then (false, W (left - 1)) else
    bif k == 1 then (andB (nearF a) (widF r), W (left - 1)) else
    bif k == 2 then (contoursF l, W (left - 1)) else
    bif k == 3 then (andB (andB (nearF a) (nearF b)) (widF r), W (left - 1)) else
    bif k == 4 then (andB (andB (andB (nearF a) (nearF b)) (widF r)) (!(bif a.x == b.x then bif a.y == b.y then true else false else false)), W (left - 1)) else
    bif k == 5 then (andB (andB (andB (andB (nearF a) (nearF b)) (nearF c)) (widF r)) (ringOk c a b), W (left - 1)) else
    bif k == 6 then (bif decide (forms ≥ 8) then (false, W (left - 1)) else runN (fun i lf => validF (sub i) (W (forms + 1)) lf) (W (left - 1)) n)
    else (false, W (left - 1))
noncomputable def vE (x : Sh) (forms left : Int) : Bool × Int := validF (ofSh x) forms left
theorem vE_eq (s : Shp) (forms left : Int) : vE (toSh s) forms left = validF s forms left := by unfold vE; rw [ofSh_toSh]
theorem validF_lvl (k : Int) (a b c : P2) (r : Int) (l : Ctr) (n : Nat) (add : Nat → Bool) (sub : Nat → Shp) (forms left : Int) : validF (.mk k a b c r l n add sub) forms left = validG vE (fun i => toSh (sub i)) (toSh (.mk k a b c r l n add sub)) forms left := by
  unfold validG
  simp only [vE_eq]
  rfl
theorem valid_ok : ∀ s : Shp, ShB s → VaOk (toSh s) vE := by
  intro s
  induction s with
  | nil => intro h; exact h.elim
  | mk k a b c r l n add sub ih =>
    intro h forms left
    rw [vE_eq, validF_lvl]
    exact valid_lvl (Pd := fun x => ∃ i, i < n ∧ x = toSh (sub i)) (fun x hx => by
      obtain ⟨i, hi, rfl⟩ := hx
      exact ih i (h.2.2 i hi)) k a b c r l n add (fun i => toSh (sub i)) h.1 h.2.1 (fun i hi => ⟨i, hi, rfl⟩) forms left
end Go.Proofs.Ythnenjodighlmaa

/-! ## Shd -/
namespace Go.Proofs.Ythnenjodighlmaa
open Go Go.RowKit Sym
set_option maxRecDepth 100000

noncomputable def okE (x : Sh) : Bool := (vE x 0 1000).1
theorem va_all : ∀ x, PdS x → VaOk x vE := fun x hx forms left => by
  have k := valid_ok _ hx.1 forms left
  rw [show vE (toSh (ofSh x)) forms left = vE x forms left by unfold vE; rw [ofSh_toSh]] at k
  exact CallX_le (SLe.dv hx.2) (Dyn.DVLe.refl _) k
theorem figOk_ok (x : Sh) (h : PdS x) : Dyn.CallD Try.prog 39 [dvS x] (rB (okE x)) :=
  Dyn.dcontractV (lp := Dyn.noLp) (fuel := 3) (tabV_ok va_all) mo Try.func39 (by kernel_rfl) (c := bodyD Try.f39.body) (by kernel_rfl) (fun w0 => Dyn.noLp_ok _ w0) (by kernel_rfl) (by kernel_rfl) (show _ = [PdS x, ctrSelf x.l] by kernel_rfl) ⟨h, ctrSelf_ok _, trivial⟩
/-- a shape's cells as values: its rows stand at name nm, from place off on -/
def shV (nm off : Nat) (s : Sh) : List Value := [vi s.k, vi s.a.x, vi s.a.y, vi s.b.x, vi s.b.y, vi s.c.x, vi s.c.y, vi s.r, .slice (some ⟨nm, off, some 0⟩) s.l.n 0, .slice (some ⟨nm, off + 1, some 0⟩) s.n 0]
/-! ### has -/
def hsG (g : Sh → P2 → Bool) (sh : Nat → Sh) (add : Nat → Bool) (n : Nat) (p : P2) (t : Nat) (_ : Bool) : Bool × Bool := bif g (sh (n - 1 - t)) p then (false, add (n - 1 - t)) else (true, false)
def hasG (g : Sh → P2 → Bool) (sh : Nat → Sh) (add : Nat → Bool) (s : Sh) (p : P2) : Bool :=
  bif s.k == 1 then discHas p s.a s.r else bif s.k == 2 then polyHasF p s.l else bif s.k == 3 then lineHas p s.a s.b s.r else bif s.k == 4 then barHas p s.a s.b s.r else bif s.k == 5 then ringHas p s.c s.a s.b s.r else
  (runN (hsG g sh add s.n p) false s.n).2
def HasOk (x : Sh) (g : Sh → P2 → Bool) : Prop := ∀ p, Dyn.CallD Try.prog 65 [dvS x, dvP p] (rB (g x p))
def tdH (Pd : Sh → Prop) (g : Sh → P2 → Bool) : List Dyn.EntryD := [(85, en2D qP (qAnd qC CtrB) fun p l => rB (polyHasF p l)), (65, en2D (qAnd qS Pd) qP fun x p => rB (g x p))]
def tabH (Pd : Sh → Prop) (g : Sh → P2 → Bool) : Dyn.Tabs := Dyn.tabs tbF (tdH Pd g) noD dtyS
theorem tabH_ok {Pd : Sh → Prop} {g : Sh → P2 → Bool} (ih : ∀ x, Pd x → HasOk x g) : Dyn.TabsOk Try.prog (tabH Pd g) :=
  Dyn.tabs_ok tbF_ok (List.forall_mem_cons.2 ⟨en2D_ok qP_ok (qAnd_ok qC_ok) fun p l _ h => polyHas_ok p l h.1, List.forall_mem_cons.2 ⟨en2D_ok (qAnd_ok qS_ok) qP_ok fun x p h _ => ih x h.1 p, fun _ h => by cases h⟩⟩)
def hsS (s : Sh) (p : P2) (i : Int) : Dyn.St := mkS 76 [(2, sL 1), (3, sL 2), (4, .k (vb false)), (5, sI i)] [some (.deep (cS s)), some (.cells 27 (shV 0 8 s)), some (.cells 23 [vi p.x, vi p.y])]
def hsR (q : Bool) : Dyn.St := mkS 76 [(4, sB q)] []
def hsK : List Nat := [2, 3, 4, 5]
def hsLp (g : Sh → P2 → Bool) (sh : Nat → Sh) (add : Nat → Bool) (s : Sh) (p : P2) : Dyn.Lp := fun id st => match id with
  | 1 => some (.side [keepA 76 [0, 1, 2] [] hsK 0 st = hsS s p (W ((s.n : Int) - 1))] (.ite (runN (hsG g sh add s.n p) false s.n).1 (.leaf .normal (hsS s p ((s.n : Int) - 1 - (s.n : Nat)))) (.leaf .ret (hsR (runN (hsG g sh add s.n p) false s.n).2))))
  | _ => none
def hsB (Pd : Sh → Prop) (g : Sh → P2 → Bool) (sh : Nat → Sh) (add : Nat → Bool) (s : Sh) (p : P2) (i : Int) : Dyn.Out :=
  .ite (decide (i ≥ 0)) (.side [0 ≤ i ∧ i < s.n, Pd (sh i.toNat), ctrSelf (sh i.toNat).l] (.ite (g (sh i.toNat) p) (.side [0 ≤ i ∧ i < s.n] (.leaf .ret (hsR (add i.toNat)))) (.leaf .normal (hsS s p (W (i - 1)))))) (.leaf (.exit 1) (hsS s p i))
theorem hs_B (Pd : Sh → Prop) (g : Sh → P2 → Bool) (k : Int) (a b c : P2) (r : Int) (l : Ctr) (n : Nat) (add : Nat → Bool) (sh : Nat → Sh) (p : P2) (i : Int) :
    (Dyn.lexec Try.prog (tabH Pd g) (hsLp g sh add (mkSh k a b c r l n add sh) p) 3 (unloopD (blkD Try.f65.body 1)) .leaf (hsS (mkSh k a b c r l n add sh) p i)).rl (keepR 76 [0, 1, 2] [] hsK [4]) = hsB Pd g sh add (mkSh k a b c r l n add sh) p i := by kernel_rfl
theorem hs_blocks : blocksL (bodyD Try.f65.body) = [(0, blkD Try.f65.body 0), (1, .loop (unloopD (blkD Try.f65.body 1))), (2, blkD Try.f65.body 2)] := by kernel_rfl
theorem hs_b1 : blocksL (unloopD (blkD Try.f65.body 1)) = [(2, blkD Try.f65.body 2)] := by kernel_rfl
theorem hs_loop {Pd : Sh → Prop} {g : Sh → P2 → Bool} (ih : ∀ x, Pd x → HasOk x g) (k : Int) (a b c : P2) (r : Int) (l : Ctr) (n : Nat) (add : Nat → Bool) (sh : Nat → Sh) (hn : n ≤ 1000000000) (hP : ∀ i, i < n → Pd (sh i)) (p : P2) (w0 : Dyn.Base Try.prog) (s : Dyn.St) (o : Dyn.Out)
    (h : hsLp g sh add (mkSh k a b c r l n add sh) p 1 s = some o) : Dyn.BlockSound Try.prog w0 1 (.loop (unloopD (blkD Try.f65.body 1))) s o := by
  simp only [hsLp, Option.some.injEq] at h
  subst h
  refine side_one fun hS => ?_
  have e0 : W ((n : Int) - 1) = (n : Int) - 1 - ((0 : Nat) : Int) := by rw [W_id (by omega) (by omega)]; omega
  refine run_block (fuel := 3) (tabH_ok ih) mo (lp := hsLp g sh add (mkSh k a b c r l n add sh) p) (by rw [hs_b1]; exact lpOk_cons (fun s o h => by cases h) lpOk_nil) (fun t (_ : Bool) => hsS (mkSh k a b c r l n add sh) p ((n : Int) - 1 - (t : Nat))) n (hsG g sh add n p) false hsR (keepR 76 [0, 1, 2] [] hsK [4]) (keepR_ent 76 _ _ _ _) (fun t _ => hsB Pd g sh add (mkSh k a b c r l n add sh) p ((n : Int) - 1 - (t : Nat))) (fun t _ => hs_B Pd g k a b c r l n add sh p _) (fun t q ht ha => ?_) (fun q ha => ?_) ?_
  · have ei : ((n : Int) - 1 - (t : Nat)).toNat = n - 1 - t := by omega
    unfold hsG hsB
    rw [ei]
    refine ⟨fun _ => ⟨⟨⟨by omega, by show (n : Int) - 1 - (t : Nat) < (n : Int); omega⟩, hP _ (by omega), ctrSelf_ok _, trivial⟩, fun hx => ⟨⟨⟨by omega, by show (n : Int) - 1 - (t : Nat) < (n : Int); omega⟩, trivial⟩, .inr ⟨rfl, ?_, ?_⟩⟩, fun hx => .inl ⟨rfl, ?_, ?_⟩⟩, fun hf => ?_⟩
    · rw [hx]; rfl
    · rw [hx]; exact Dyn.Fits.refl _
    · rw [hx]; rfl
    · rw [W_id (by omega) (by omega), show (n : Int) - 1 - (t : Int) - 1 = (n : Int) - 1 - ((t + 1 : Nat) : Int) by omega]; exact Dyn.Fits.refl _
    · rw [decide_eq_false_iff_not] at hf; omega
  · refine ⟨fun ht => ?_, fun _ => ⟨rfl, Dyn.Fits.refl _⟩⟩
    rw [decide_eq_true_eq] at ht; omega
  · have hS' : keepA 76 [0, 1, 2] [] hsK 0 s = hsS (mkSh k a b c r l n add sh) p ((n : Int) - 1 - ((0 : Nat) : Int)) := by rw [hS]; show hsS _ p (W ((n : Int) - 1)) = _; rw [e0]
    exact hS' ▸ keepA_ent 76 _ _ _ _ s
def hsO (g : Sh → P2 → Bool) (sh : Nat → Sh) (add : Nat → Bool) (s : Sh) (p : P2) : Dyn.RO :=
  .ite (s.k == 1) (.leaf (rB (discHas p s.a s.r)))
  (.ite (s.k == 2) (.side [CtrB s.l, ctrSelf s.l] (.leaf (rB (polyHasF p s.l))))
  (.ite (s.k == 3) (.leaf (rB (lineHas p s.a s.b s.r)))
  (.ite (s.k == 4) (.leaf (rB (barHas p s.a s.b s.r)))
  (.ite (s.k == 5) (.leaf (rB (ringHas p s.c s.a s.b s.r)))
  (.side [hsS s p (W ((s.n : Int) - 1)) = hsS s p (W ((s.n : Int) - 1))] (.ite (runN (hsG g sh add s.n p) false s.n).1 (.leaf (rB false)) (.leaf (rB (runN (hsG g sh add s.n p) false s.n).2))))))))
theorem hs_O (Pd : Sh → Prop) (g : Sh → P2 → Bool) (sh : Nat → Sh) (add : Nat → Bool) (s : Sh) (p : P2) : (Dyn.dfun Try.prog (tabH Pd g) (hsLp g sh add s p) 3 Try.f65 [dvS s, dvP p]).ro Try.prog Try.f65.results = hsO g sh add s p := by kernel_rfl
theorem hsRun_false (g : Sh → P2 → Bool) (sh : Nat → Sh) (add : Nat → Bool) (n : Nat) (p : P2) : ∀ t, (runN (hsG g sh add n p) false t).1 = true → (runN (hsG g sh add n p) false t).2 = false
  | 0, _ => rfl
  | t + 1, h => by
    simp only [runN] at h ⊢
    split at h
    · rename_i b hb
      unfold hsG at h ⊢
      cases hg : g (sh (n - 1 - t)) p with
      | true => rw [hg] at h; cases h
      | false => rfl
    · cases h
theorem ro_leaf {r r' : Dyn.RV} (h : r = r') : (Dyn.RO.leaf r).sat (fun q => Dyn.RVLe q r') := by subst h; exact Dyn.RVLe.refl _
theorem hs_sat (g : Sh → P2 → Bool) (sh : Nat → Sh) (add : Nat → Bool) (s : Sh) (hl : CtrB s.l) (p : P2) : (hsO g sh add s p).sat fun r => Dyn.RVLe r (rB (hasG g sh add s p)) := by
  unfold hasG
  refine ⟨fun h => ?_, fun h => ⟨fun h2 => ⟨⟨hl, ctrSelf_ok _, trivial⟩, ?_⟩, fun h2 => ⟨fun h3 => ?_, fun h3 => ⟨fun h4 => ?_, fun h4 => ⟨fun h5 => ?_, fun h5 => ⟨⟨rfl, trivial⟩, fun h6 => ?_, fun h6 => ?_⟩⟩⟩⟩⟩⟩
  · rw [h]; exact ro_leaf rfl
  · rw [h, h2]; exact ro_leaf rfl
  · rw [h, h2, h3]; exact ro_leaf rfl
  · rw [h, h2, h3, h4]; exact ro_leaf rfl
  · rw [h, h2, h3, h4, h5]; exact ro_leaf rfl
  · rw [h, h2, h3, h4, h5]
    exact ro_leaf (congrArg rB (hsRun_false g sh add s.n p s.n h6).symm)
  · rw [h, h2, h3, h4, h5]; exact ro_leaf rfl
theorem has_lvl {Pd : Sh → Prop} {g : Sh → P2 → Bool} (ih : ∀ x, Pd x → HasOk x g) (k : Int) (a b c : P2) (r : Int) (l : Ctr) (n : Nat) (add : Nat → Bool) (sh : Nat → Sh) (hl : CtrB l) (hn : n ≤ 1000000000) (hP : ∀ i, i < n → Pd (sh i)) (p : P2) :
    Dyn.CallD Try.prog 65 [dvS (mkSh k a b c r l n add sh), dvP p] (rB (hasG g sh add (mkSh k a b c r l n add sh) p)) :=
  Dyn.dcontract (lp := hsLp g sh add (mkSh k a b c r l n add sh) p) (fuel := 3) (tabH_ok ih) mo Try.func65 (by kernel_rfl) (c := bodyD Try.f65.body) (by kernel_rfl)
    (fun w0 => by rw [hs_blocks]; exact lpOk_cons (fun s o h => by cases h) (lpOk_cons (hs_loop ih k a b c r l n add sh hn hP p w0) (lpOk_cons (fun s o h => by cases h) lpOk_nil)))
    (by kernel_rfl) (hs_O Pd g sh add _ p) (hs_sat g sh add _ hl p)
def hasF : Shp → P2 → Bool
  | .nil, _ => false
  | .mk k a b c r l n add sub, p => bif k == 1 then discHas p a r else bif k == 2 then polyHasF p l else bif k == 3 then lineHas p a b r else bif k == 4 then barHas p a b r else bif k == 5 then ringHas p c a b r else
    (runN (fun t (_ : Bool) => bif hasF (sub (n - 1 - t)) p then (false, add (n - 1 - t)) else (true, false)) false n).2
noncomputable def hasE (x : Sh) (p : P2) : Bool := hasF (ofSh x) p
theorem hasE_eq (s : Shp) (p : P2) : hasE (toSh s) p = hasF s p := by unfold hasE; rw [ofSh_toSh]
theorem hasF_lvl (k : Int) (a b c : P2) (r : Int) (l : Ctr) (n : Nat) (add : Nat → Bool) (sub : Nat → Shp) (p : P2) : hasF (.mk k a b c r l n add sub) p = hasG hasE (fun i => toSh (sub i)) add (toSh (.mk k a b c r l n add sub)) p := by
  unfold hasG hsG
  simp only [hasE_eq]
  rfl
theorem has_ok : ∀ s : Shp, ShB s → HasOk (toSh s) hasE := by
  intro s
  induction s with
  | nil => intro h; exact h.elim
  | mk k a b c r l n add sub ih =>
    intro h p
    rw [hasE_eq, hasF_lvl]
    exact has_lvl (Pd := fun x => ∃ i, i < n ∧ x = toSh (sub i)) (fun x hx => by
      obtain ⟨i, hi, rfl⟩ := hx
      exact ih i (h.2.2 i hi)) k a b c r l n add (fun i => toSh (sub i)) h.1 h.2.1 (fun i hi => ⟨i, hi, rfl⟩) p
theorem has_all : ∀ x, PdS x → HasOk x hasE := fun x hx p => by
  have k := has_ok _ hx.1 p
  rw [show hasE (toSh (ofSh x)) p = hasE x p by unfold hasE; rw [ofSh_toSh]] at k
  exact CallD_le (args := dvS (toSh (ofSh x)) :: [dvP p]) ⟨SLe.dv hx.2, Dyn.DVLe.refl _, trivial⟩ k
end Go.Proofs.Ythnenjodighlmaa

/-! ## She -/
namespace Go.Proofs.Ythnenjodighlmaa
open Go Go.RowKit Sym
set_option maxRecDepth 100000

def clG (g : Sh → B4 → Int) (sh : Nat → Sh) (add : Nat → Bool) (b : B4) (i : Nat) (acc : Int) : Int := foldF acc (g (sh i) b) (add i)
def classG (g : Sh → B4 → Int) (sh : Nat → Sh) (add : Nat → Bool) (s : Sh) (b : B4) : Int :=
  bif s.k == 1 then discClass b s.a s.r else bif s.k == 2 then polyClassF b s.l else bif s.k == 3 then lineClass b s.a s.b s.r else bif s.k == 4 then barClass b s.a s.b s.r else bif s.k == 5 then ringClass b s.c s.a s.b s.r else
  foldN (clG g sh add b) 0 s.n
def ClsOk (x : Sh) (g : Sh → B4 → Int) : Prop := ∀ b, Dyn.CallD Try.prog 63 [dvS x, dvX b] (rI (g x b))
def tdK (Pd : Sh → Prop) (g : Sh → B4 → Int) : List Dyn.EntryD := [(80, en2D qX (qAnd qC CtrB) fun b l => rI (polyClassF b l)), (63, en2D (qAnd qS Pd) qX fun x b => rI (g x b))]
def tabK (Pd : Sh → Prop) (g : Sh → B4 → Int) : Dyn.Tabs := Dyn.tabs tbF (tdK Pd g) noD dtyS
theorem tabK_ok {Pd : Sh → Prop} {g : Sh → B4 → Int} (ih : ∀ x, Pd x → ClsOk x g) : Dyn.TabsOk Try.prog (tabK Pd g) :=
  Dyn.tabs_ok tbF_ok (List.forall_mem_cons.2 ⟨en2D_ok qX_ok (qAnd_ok qC_ok) fun p l _ h => polyClass_ok p l h.1, List.forall_mem_cons.2 ⟨en2D_ok (qAnd_ok qS_ok) qX_ok fun x p h _ => ih x h.1 p, fun _ h => by cases h⟩⟩)
def clS (s : Sh) (b : B4) (acc i : Int) : Dyn.St := mkS 73 [(2, sL 1), (3, sL 2), (4, .k (vi 0)), (5, sI acc), (57, sH 0 9 s.n), (58, sI s.n), (59, sI i)] [some (.deep (cS s)), some (.cells 27 (shV 0 8 s)), some (.cells 40 [vi b.x0, vi b.y0, vi b.x1, vi b.y1])]
def clK : List Nat := [2, 3, 4, 5, 57, 58, 59]
def clLp (g : Sh → B4 → Int) (sh : Nat → Sh) (add : Nat → Bool) (s : Sh) (b : B4) : Dyn.Lp := fun id st => match id with
  | 1 => some (.side [keepA 73 [0, 1, 2] [] clK (2 ^ 5 + 2 ^ 59) st = clS s b 0 0] (.leaf .normal (clS s b (foldN (clG g sh add b) 0 s.n) s.n)))
  | _ => none
def clB (Pd : Sh → Prop) (g : Sh → B4 → Int) (sh : Nat → Sh) (add : Nat → Bool) (s : Sh) (b : B4) (i : Nat) (acc : Int) : Dyn.Out :=
  .ite (decide ((i : Int) < s.n)) (.side [0 ≤ (i : Int) ∧ (i : Int) < s.n] (.side [Pd (sh i), ctrSelf (sh i).l] (.leaf .normal (clS s b (foldF acc (g (sh i) b) (add i)) (W (i + 1)))))) (.leaf (.exit 1) (clS s b acc i))
theorem cl_B (Pd : Sh → Prop) (g : Sh → B4 → Int) (k : Int) (a b' c : P2) (r : Int) (l : Ctr) (n : Nat) (add : Nat → Bool) (sh : Nat → Sh) (b : B4) (i : Nat) (acc : Int) :
    (Dyn.lexec Try.prog (tabK Pd g) (clLp g sh add (mkSh k a b' c r l n add sh) b) 3 (unloopD (blkD Try.f63.body 1)) .leaf (clS (mkSh k a b' c r l n add sh) b acc i)).rl (keepR 73 [0, 1, 2] [] clK []) = clB Pd g sh add (mkSh k a b' c r l n add sh) b i acc := by kernel_rfl
theorem cl_blocks : blocksL (bodyD Try.f63.body) = [(0, blkD Try.f63.body 0), (1, .loop (unloopD (blkD Try.f63.body 1))), (2, blkD Try.f63.body 2)] := by kernel_rfl
theorem cl_b1 : blocksL (unloopD (blkD Try.f63.body 1)) = [(2, blkD Try.f63.body 2)] := by kernel_rfl
theorem cl_loop {Pd : Sh → Prop} {g : Sh → B4 → Int} (ih : ∀ x, Pd x → ClsOk x g) (k : Int) (a b' c : P2) (r : Int) (l : Ctr) (n : Nat) (add : Nat → Bool) (sh : Nat → Sh) (hn : n ≤ 1000000000) (hP : ∀ i, i < n → Pd (sh i)) (b : B4) (w0 : Dyn.Base Try.prog) (s : Dyn.St) (o : Dyn.Out)
    (h : clLp g sh add (mkSh k a b' c r l n add sh) b 1 s = some o) : Dyn.BlockSound Try.prog w0 1 (.loop (unloopD (blkD Try.f63.body 1))) s o := by
  simp only [clLp, Option.some.injEq] at h
  subst h
  refine side_one fun hS => ?_
  refine fold_block (fuel := 3) (tabK_ok ih) mo (lp := clLp g sh add (mkSh k a b' c r l n add sh) b) (by rw [cl_b1]; exact lpOk_cons (fun s o h => by cases h) lpOk_nil) (fun i acc => clS (mkSh k a b' c r l n add sh) b acc i) n (clG g sh add b) 0 (keepR 73 [0, 1, 2] [] clK []) (keepR_ent 73 _ _ _ _) (fun i acc => clB Pd g sh add (mkSh k a b' c r l n add sh) b i acc) (fun i acc => cl_B Pd g k a b' c r l n add sh b i acc) (fun i hi => ?_) ?_ (hS ▸ keepA_ent 73 _ _ _ _ s)
  · refine ⟨fun _ => ⟨⟨⟨by omega, by show (i : Int) < (n : Int); omega⟩, trivial⟩, ⟨hP i hi, ctrSelf_ok _, trivial⟩, rfl, ?_⟩, fun hf => ?_⟩
    · rw [Wn1 hi hn]; exact Dyn.Fits.refl _
    · rw [decide_eq_false_iff_not] at hf
      exact absurd (show (i : Int) < (n : Int) by omega) hf
  · refine ⟨fun ht => ?_, fun _ => ⟨rfl, Dyn.Fits.refl _⟩⟩
    rw [decide_eq_true_eq] at ht
    exact absurd (show (n : Int) < (n : Int) from ht) (by omega)
def clO (g : Sh → B4 → Int) (sh : Nat → Sh) (add : Nat → Bool) (s : Sh) (b : B4) : Dyn.RO :=
  .ite (s.k == 1) (.leaf (rI (discClass b s.a s.r)))
  (.ite (s.k == 2) (.side [CtrB s.l, ctrSelf s.l] (.leaf (rI (polyClassF b s.l))))
  (.ite (s.k == 3) (.leaf (rI (lineClass b s.a s.b s.r)))
  (.ite (s.k == 4) (.leaf (rI (barClass b s.a s.b s.r)))
  (.ite (s.k == 5) (.leaf (rI (ringClass b s.c s.a s.b s.r)))
  (.side [clS s b 0 0 = clS s b 0 0] (.leaf (rI (foldN (clG g sh add b) 0 s.n))))))))
theorem cl_O (Pd : Sh → Prop) (g : Sh → B4 → Int) (sh : Nat → Sh) (add : Nat → Bool) (s : Sh) (b : B4) : (Dyn.dfun Try.prog (tabK Pd g) (clLp g sh add s b) 3 Try.f63 [dvS s, dvX b]).ro Try.prog Try.f63.results = clO g sh add s b := by kernel_rfl
theorem cl_sat (g : Sh → B4 → Int) (sh : Nat → Sh) (add : Nat → Bool) (s : Sh) (hl : CtrB s.l) (b : B4) : (clO g sh add s b).sat fun r => Dyn.RVLe r (rI (classG g sh add s b)) := by
  unfold classG
  refine ⟨fun h => ?_, fun h => ⟨fun h2 => ⟨⟨hl, ctrSelf_ok _, trivial⟩, ?_⟩, fun h2 => ⟨fun h3 => ?_, fun h3 => ⟨fun h4 => ?_, fun h4 => ⟨fun h5 => ?_, fun h5 => ⟨⟨rfl, trivial⟩, ?_⟩⟩⟩⟩⟩⟩
  · rw [h]; exact ro_leaf rfl
  · rw [h, h2]; exact ro_leaf rfl
  · rw [h, h2, h3]; exact ro_leaf rfl
  · rw [h, h2, h3, h4]; exact ro_leaf rfl
  · rw [h, h2, h3, h4, h5]; exact ro_leaf rfl
  · rw [h, h2, h3, h4, h5]; exact ro_leaf rfl
theorem class_lvl {Pd : Sh → Prop} {g : Sh → B4 → Int} (ih : ∀ x, Pd x → ClsOk x g) (k : Int) (a b' c : P2) (r : Int) (l : Ctr) (n : Nat) (add : Nat → Bool) (sh : Nat → Sh) (hl : CtrB l) (hn : n ≤ 1000000000) (hP : ∀ i, i < n → Pd (sh i)) (b : B4) :
    Dyn.CallD Try.prog 63 [dvS (mkSh k a b' c r l n add sh), dvX b] (rI (classG g sh add (mkSh k a b' c r l n add sh) b)) :=
  Dyn.dcontract (lp := clLp g sh add (mkSh k a b' c r l n add sh) b) (fuel := 3) (tabK_ok ih) mo Try.func63 (by kernel_rfl) (c := bodyD Try.f63.body) (by kernel_rfl)
    (fun w0 => by rw [cl_blocks]; exact lpOk_cons (fun s o h => by cases h) (lpOk_cons (cl_loop ih k a b' c r l n add sh hn hP b w0) (lpOk_cons (fun s o h => by cases h) lpOk_nil)))
    (by kernel_rfl) (cl_O Pd g sh add _ b) (cl_sat g sh add _ hl b)
def classF : Shp → B4 → Int
  | .nil, _ => 0
  | .mk k a b' c r l n add sub, b => bif k == 1 then discClass b a r else bif k == 2 then polyClassF b l else bif k == 3 then lineClass b a b' r else bif k == 4 then barClass b a b' r else bif k == 5 then ringClass b c a b' r else
    foldN (fun i acc => foldF acc (classF (sub i) b) (add i)) 0 n
noncomputable def classE (x : Sh) (b : B4) : Int := classF (ofSh x) b
theorem classE_eq (s : Shp) (b : B4) : classE (toSh s) b = classF s b := by unfold classE; rw [ofSh_toSh]
theorem classF_lvl (k : Int) (a b' c : P2) (r : Int) (l : Ctr) (n : Nat) (add : Nat → Bool) (sub : Nat → Shp) (b : B4) : classF (.mk k a b' c r l n add sub) b = classG classE (fun i => toSh (sub i)) add (toSh (.mk k a b' c r l n add sub)) b := by
  unfold classG clG
  simp only [classE_eq]
  rfl
theorem class_ok : ∀ s : Shp, ShB s → ClsOk (toSh s) classE := by
  intro s
  induction s with
  | nil => intro h; exact h.elim
  | mk k a b' c r l n add sub ih =>
    intro h b
    rw [classE_eq, classF_lvl]
    exact class_lvl (Pd := fun x => ∃ i, i < n ∧ x = toSh (sub i)) (fun x hx => by
      obtain ⟨i, hi, rfl⟩ := hx
      exact ih i (h.2.2 i hi)) k a b' c r l n add (fun i => toSh (sub i)) h.1 h.2.1 (fun i hi => ⟨i, hi, rfl⟩) b
theorem class_all : ∀ x, PdS x → ClsOk x classE := fun x hx b => by
  have k := class_ok _ hx.1 b
  rw [show classE (toSh (ofSh x)) b = classE x b by unfold classE; rw [ofSh_toSh]] at k
  exact CallD_le (args := dvS (toSh (ofSh x)) :: [dvX b]) ⟨SLe.dv hx.2, Dyn.DVLe.refl _, trivial⟩ k
/-! ### Has, Class -/
noncomputable def figHasE (x : Sh) (p : P2) : Bool := bif okE x then hasE x p else false
noncomputable def figClassE (x : Sh) (b : B4) : Int := bif !(okE x) then 0 else classE x b
noncomputable def tdG : List Dyn.EntryD := [(39, en1D (qAnd qS PdS) fun x => rB (okE x)), (65, en2D (qAnd qS PdS) qP fun x p => rB (hasE x p)), (63, en2D (qAnd qS PdS) qX fun x b => rI (classE x b))]
theorem tdG_ok : ∀ e ∈ tdG, Dyn.EntryDOk Try.prog e := List.forall_mem_cons.2 ⟨en1D_ok (qAnd_ok qS_ok) fun x h => figOk_ok x h.1, List.forall_mem_cons.2 ⟨en2D_ok (qAnd_ok qS_ok) qP_ok fun x p h _ => has_all x h.1 p, List.forall_mem_cons.2 ⟨en2D_ok (qAnd_ok qS_ok) qX_ok fun x b h _ => class_all x h.1 b, fun _ h => by cases h⟩⟩⟩
noncomputable def tabG : Dyn.Tabs := Dyn.tabs tbF tdG noD noD
theorem tabG_ok : Dyn.TabsOk Try.prog tabG := Dyn.tabs_ok tbF_ok tdG_ok
theorem figHas_ok (x : Sh) (h : PdS x) (p : P2) : Dyn.CallD Try.prog 48 [dvS x, dvP p] (rB (figHasE x p)) :=
  Dyn.dcontractV (lp := Dyn.noLp) (fuel := 3) tabG_ok mo Try.func48 (by kernel_rfl) (c := bodyD Try.f48.body) (by kernel_rfl) (fun w0 => Dyn.noLp_ok _ w0) (by kernel_rfl) (by kernel_rfl) (show _ = [PdS x, ctrSelf x.l, some (okE x) = some true ∧ True → allP [PdS x, ctrSelf x.l]] by kernel_rfl) ⟨h, ctrSelf_ok _, fun _ => ⟨h, ctrSelf_ok _, trivial⟩, trivial⟩
theorem figClass_ok (x : Sh) (h : PdS x) (b : B4) : Dyn.CallD Try.prog 46 [dvS x, dvX b] (rI (figClassE x b)) :=
  Dyn.dcontractV (lp := Dyn.noLp) (fuel := 3) tabG_ok mo Try.func46 (by kernel_rfl) (c := bodyD Try.f46.body) (by kernel_rfl) (fun w0 => Dyn.noLp_ok _ w0) (by kernel_rfl) (by kernel_rfl) (show _ = [PdS x, ctrSelf x.l, (!(okE x)) = false → PdS x, (!(okE x)) = false → ctrSelf x.l] by kernel_rfl) ⟨h, ctrSelf_ok _, fun _ => h, fun _ => ctrSelf_ok _, trivial⟩
end Go.Proofs.Ythnenjodighlmaa

/-! ## Shf -/
namespace Go.Proofs.Ythnenjodighlmaa
open Go Go.RowKit Sym
set_option maxRecDepth 100000

/-- a shape as an input may be: any lengths -/
def ShW : Shp → Prop
  | .nil => False
  | .mk _ _ _ _ _ _ n _ sub => ∀ i, i < n → ShW (sub i)
def smL (l : Ctr) (i : Nat) (_ : Unit) : Bool × Unit := (!(decide ((l.m i : Int) > 40)), ())
def smP (g : Sh → Int → Bool) (sh : Nat → Sh) (deep : Int) (i : Nat) (_ : Unit) : Bool × Unit := (g (sh i) (W (deep + 1)), ())
def smallG (g : Sh → Int → Bool) (sh : Nat → Sh) (s : Sh) (deep : Int) : Bool :=
  bif bif bif decide ((s.n : Int) > 12) then true else decide ((s.l.n : Int) > 12) then true else decide (deep > 12) then false else
  bif (runN (smL s.l) () s.l.n).1 then (runN (smP g sh deep) () s.n).1 else false
def SmOk (x : Sh) (g : Sh → Int → Bool) : Prop := ∀ d, Dyn.CallD Try.prog 10 [dvS x, dvI d] (rB (g x d))
def tdSm (Pd : Sh → Prop) (g : Sh → Int → Bool) : List Dyn.EntryD := [(10, en2D (qAnd qS Pd) qI fun x d => rB (g x d))]
def tabSm (Pd : Sh → Prop) (g : Sh → Int → Bool) : Dyn.Tabs := Dyn.tabs tbF (tdSm Pd g) noD dtyP
theorem tabSm_ok {Pd : Sh → Prop} {g : Sh → Int → Bool} (ih : ∀ x, Pd x → SmOk x g) : Dyn.TabsOk Try.prog (tabSm Pd g) :=
  Dyn.tabs_ok tbF_ok (List.forall_mem_cons.2 ⟨en2D_ok (qAnd_ok qS_ok) qI_ok fun x p h _ => ih x h.1 p, fun _ h => by cases h⟩)
def smH (s : Sh) : List (Option Dyn.HE) := [some (.deep (cS s)), some (.cells 27 (shV 0 8 s))]
def smS (s : Sh) (deep i : Int) : Dyn.St := mkS 52 [(1, sI deep), (2, sL 1), (4, .k (vb false)), (5, sI i)] (smH s)
def smT (s : Sh) (deep i : Int) : Dyn.St := mkS 52 [(1, sI deep), (2, sL 1), (4, .k (vb false)), (6, sI i)] (smH s)
def smR : Dyn.St := mkS 52 [(4, .k (vb false))] []
def smK0 : List Nat := [1, 2, 4, 5]
def smK1 : List Nat := [1, 2, 4, 6]
def smLp (g : Sh → Int → Bool) (sh : Nat → Sh) (s : Sh) (deep : Int) : Dyn.Lp := fun id st => match id with
  | 0 => some (.side [keepA 52 [0, 1] [] smK0 (2 ^ 5) st = smS s deep 0, s.l.n ≤ 12] (.ite (runN (smL s.l) () s.l.n).1 (.leaf .normal (smS s deep s.l.n)) (.leaf .ret smR)))
  | 2 => some (.side [keepA 52 [0, 1] [] smK1 (2 ^ 6) st = smT s deep 0, s.n ≤ 12] (.ite (runN (smP g sh deep) () s.n).1 (.leaf .normal (smT s deep s.n)) (.leaf .ret smR)))
  | _ => none
def smB0 (s : Sh) (deep : Int) (i : Nat) : Dyn.Out :=
  .ite (decide ((i : Int) < s.l.n)) (.side [0 ≤ (i : Int) ∧ (i : Int) < s.l.n] (.ite (decide ((s.l.m i : Int) > 40)) (.leaf .ret smR) (.leaf .normal (smS s deep (W (i + 1)))))) (.leaf (.exit 0) (smS s deep i))
def smB2 (Pd : Sh → Prop) (g : Sh → Int → Bool) (sh : Nat → Sh) (s : Sh) (deep : Int) (i : Nat) : Dyn.Out :=
  .ite (decide ((i : Int) < s.n)) (.side [0 ≤ (i : Int) ∧ (i : Int) < s.n, Pd (sh i), ctrSelf (sh i).l] (.ite (!(g (sh i) (W (deep + 1)))) (.leaf .ret smR) (.leaf .normal (smT s deep (W (i + 1)))))) (.leaf (.exit 2) (smT s deep i))
theorem sm_B0 (Pd : Sh → Prop) (g : Sh → Int → Bool) (sh : Nat → Sh) (s : Sh) (deep : Int) (i : Nat) : (Dyn.lexec Try.prog (tabSm Pd g) (smLp g sh s deep) 3 (unloopD (blkD Try.f10.body 0)) .leaf (smS s deep i)).rl (keepR 52 [0, 1] [] smK0 [4]) = smB0 s deep i := by kernel_rfl
def tabSn (Pd : Sh → Prop) (g : Sh → Int → Bool) : Dyn.Tabs := Dyn.tabs tbF (tdSm Pd g) noD dtyS
theorem tabSn_ok {Pd : Sh → Prop} {g : Sh → Int → Bool} (ih : ∀ x, Pd x → SmOk x g) : Dyn.TabsOk Try.prog (tabSn Pd g) :=
  Dyn.tabs_ok tbF_ok (List.forall_mem_cons.2 ⟨en2D_ok (qAnd_ok qS_ok) qI_ok fun x p h _ => ih x h.1 p, fun _ h => by cases h⟩)
theorem sm_B2 (Pd : Sh → Prop) (g : Sh → Int → Bool) (k : Int) (a b c : P2) (r : Int) (l : Ctr) (n : Nat) (add : Nat → Bool) (sh : Nat → Sh) (deep : Int) (i : Nat) :
    (Dyn.lexec Try.prog (tabSn Pd g) (smLp g sh (mkSh k a b c r l n add sh) deep) 3 (unloopD (blkD Try.f10.body 2)) .leaf (smT (mkSh k a b c r l n add sh) deep i)).rl (keepR 52 [0, 1] [] smK1 [4]) = smB2 Pd g sh (mkSh k a b c r l n add sh) deep i := by kernel_rfl
theorem sm_blocks : blocksL (bodyD Try.f10.body) = [(0, .loop (unloopD (blkD Try.f10.body 0))), (1, blkD Try.f10.body 1), (2, .loop (unloopD (blkD Try.f10.body 2))), (3, blkD Try.f10.body 3)] := by kernel_rfl
theorem sm_b0 : blocksL (unloopD (blkD Try.f10.body 0)) = [(1, blkD Try.f10.body 1)] := by kernel_rfl
theorem sm_b2 : blocksL (unloopD (blkD Try.f10.body 2)) = [(3, blkD Try.f10.body 3)] := by kernel_rfl
theorem sm_loop0 {Pd : Sh → Prop} {g : Sh → Int → Bool} (ih : ∀ x, Pd x → SmOk x g) (sh : Nat → Sh) (s : Sh) (deep : Int) (w0 : Dyn.Base Try.prog) (st : Dyn.St) (o : Dyn.Out) (h : smLp g sh s deep 0 st = some o) : Dyn.BlockSound Try.prog w0 0 (.loop (unloopD (blkD Try.f10.body 0))) st o := by
  simp only [smLp, Option.some.injEq] at h
  subst h
  refine side_two fun hS hn => ?_
  refine run_block (fuel := 3) (tabSm_ok ih) mo (lp := smLp g sh s deep) (by rw [sm_b0]; exact lpOk_cons (fun s o h => by cases h) lpOk_nil) (fun i (_ : Unit) => smS s deep i) s.l.n (smL s.l) () (fun _ => smR) (keepR 52 [0, 1] [] smK0 [4]) (keepR_ent 52 _ _ _ _) (fun i _ => smB0 s deep i) (fun i _ => sm_B0 Pd g sh s deep i) (fun i a hi ha => ?_) (fun a ha => ?_) (hS ▸ keepA_ent 52 _ _ _ _ st)
  · refine ⟨fun _ => ⟨⟨⟨by omega, by omega⟩, trivial⟩, fun hx => .inr ⟨rfl, ?_, Dyn.Fits.refl _⟩, fun hx => .inl ⟨rfl, ?_, ?_⟩⟩, fun hf => ?_⟩
    · unfold smL; rw [hx]; rfl
    · unfold smL; rw [hx]; rfl
    · rw [Wn1 hi (by omega)]; exact Dyn.Fits.refl _
    · rw [decide_eq_false_iff_not] at hf; omega
  · refine ⟨fun ht => ?_, fun _ => ⟨rfl, Dyn.Fits.refl _⟩⟩
    rw [decide_eq_true_eq] at ht; omega
theorem sm_loop2 {Pd : Sh → Prop} {g : Sh → Int → Bool} (ih : ∀ x, Pd x → SmOk x g) (k : Int) (a b c : P2) (r : Int) (l : Ctr) (n : Nat) (add : Nat → Bool) (sh : Nat → Sh) (hP : ∀ i, i < n → Pd (sh i)) (deep : Int) (w0 : Dyn.Base Try.prog) (st : Dyn.St) (o : Dyn.Out) (h : smLp g sh (mkSh k a b c r l n add sh) deep 2 st = some o) : Dyn.BlockSound Try.prog w0 2 (.loop (unloopD (blkD Try.f10.body 2))) st o := by
  simp only [smLp, Option.some.injEq] at h
  subst h
  refine side_two fun hS hn => ?_
  have hn' : n ≤ 12 := hn
  refine run_block (fuel := 3) (tabSn_ok ih) mo (lp := smLp g sh (mkSh k a b c r l n add sh) deep) (by rw [sm_b2]; exact lpOk_cons (fun s o h => by cases h) lpOk_nil) (fun i (_ : Unit) => smT (mkSh k a b c r l n add sh) deep i) n (smP g sh deep) () (fun _ => smR) (keepR 52 [0, 1] [] smK1 [4]) (keepR_ent 52 _ _ _ _) (fun i _ => smB2 Pd g sh (mkSh k a b c r l n add sh) deep i) (fun i _ => sm_B2 Pd g k a b c r l n add sh deep i) (fun i a hi ha => ?_) (fun a ha => ?_) (hS ▸ keepA_ent 52 _ _ _ _ st)
  · refine ⟨fun _ => ⟨⟨⟨by omega, by show (i : Int) < (n : Int); omega⟩, hP i hi, ctrSelf_ok _, trivial⟩, fun hx => .inr ⟨rfl, ?_, Dyn.Fits.refl _⟩, fun hx => .inl ⟨rfl, ?_, ?_⟩⟩, fun hf => ?_⟩
    · simpa [smP] using hx
    · simpa [smP] using hx
    · rw [Wn1 hi (by omega)]; exact Dyn.Fits.refl _
    · rw [decide_eq_false_iff_not] at hf
      exact absurd (show (i : Int) < (n : Int) by omega) hf
  · refine ⟨fun ht => ?_, fun _ => ⟨rfl, Dyn.Fits.refl _⟩⟩
    rw [decide_eq_true_eq] at ht
    exact absurd (show (n : Int) < (n : Int) from ht) (by omega)
def smBig (s : Sh) (deep : Int) : Bool := bif bif decide ((s.n : Int) > 12) then true else decide ((s.l.n : Int) > 12) then true else decide (deep > 12)
def tabS0 (Pd : Sh → Prop) (g : Sh → Int → Bool) : Dyn.Tabs := Dyn.tabs tbF (tdSm Pd g) noD noD
theorem tabS0_ok {Pd : Sh → Prop} {g : Sh → Int → Bool} (ih : ∀ x, Pd x → SmOk x g) : Dyn.TabsOk Try.prog (tabS0 Pd g) :=
  Dyn.tabs_ok tbF_ok (List.forall_mem_cons.2 ⟨en2D_ok (qAnd_ok qS_ok) qI_ok fun x p h _ => ih x h.1 p, fun _ h => by cases h⟩)
def smO (g : Sh → Int → Bool) (sh : Nat → Sh) (s : Sh) (deep : Int) : Dyn.RO :=
  .ite (smBig s deep) (.leaf (rB false)) (.side [smS s deep 0 = smS s deep 0, s.l.n ≤ 12] (.ite (runN (smL s.l) () s.l.n).1 (.side [smT s deep 0 = smT s deep 0, s.n ≤ 12] (.ite (runN (smP g sh deep) () s.n).1 (.leaf (rB true)) (.leaf (rB false)))) (.leaf (rB false))))
theorem sm_O (Pd : Sh → Prop) (g : Sh → Int → Bool) (sh : Nat → Sh) (s : Sh) (deep : Int) : (Dyn.dfun Try.prog (tabS0 Pd g) (smLp g sh s deep) 3 Try.f10 [dvS s, dvI deep]).ro Try.prog Try.f10.results = smO g sh s deep := by kernel_rfl
theorem sm_sat (g : Sh → Int → Bool) (sh : Nat → Sh) (s : Sh) (deep : Int) : (smO g sh s deep).sat fun r => Dyn.RVLe r (rB (smallG g sh s deep)) := by
  have e : smallG g sh s deep = bif smBig s deep then false else bif (runN (smL s.l) () s.l.n).1 then (runN (smP g sh deep) () s.n).1 else false := rfl
  rw [e]
  have hb : smBig s deep = false → s.l.n ≤ 12 ∧ s.n ≤ 12 := fun h => by
    unfold smBig at h
    by_cases h1 : ((s.n : Int) > 12)
    · rw [decide_eq_true h1] at h; cases h
    · by_cases h2 : ((s.l.n : Int) > 12)
      · rw [decide_eq_true h2, decide_eq_false h1] at h; cases h
      · omega
  refine ⟨fun h => ?_, fun h => ⟨⟨rfl, (hb h).1, trivial⟩, fun h2 => ⟨⟨rfl, (hb h).2, trivial⟩, fun h3 => ?_, fun h3 => ?_⟩, fun h2 => ?_⟩⟩
  · rw [h]; exact ro_leaf rfl
  · rw [h, h2, h3]; exact ro_leaf rfl
  · rw [h, h2, h3]; exact ro_leaf rfl
  · rw [h, h2]; exact ro_leaf rfl
theorem small_lvl {Pd : Sh → Prop} {g : Sh → Int → Bool} (ih : ∀ x, Pd x → SmOk x g) (k : Int) (a b c : P2) (r : Int) (l : Ctr) (n : Nat) (add : Nat → Bool) (sh : Nat → Sh) (hP : ∀ i, i < n → Pd (sh i)) (deep : Int) :
    Dyn.CallD Try.prog 10 [dvS (mkSh k a b c r l n add sh), dvI deep] (rB (smallG g sh (mkSh k a b c r l n add sh) deep)) :=
  Dyn.dcontract (lp := smLp g sh (mkSh k a b c r l n add sh) deep) (fuel := 3) (tabS0_ok ih) mo Try.func10 (by kernel_rfl) (c := bodyD Try.f10.body) (by kernel_rfl)
    (fun w0 => by rw [sm_blocks]; exact lpOk_cons (sm_loop0 ih sh _ deep w0) (lpOk_cons (fun s o h => by cases h) (lpOk_cons (sm_loop2 ih k a b c r l n add sh hP deep w0) (lpOk_cons (fun s o h => by cases h) lpOk_nil))))
    (by kernel_rfl) (sm_O Pd g sh _ deep) (sm_sat g sh _ deep)
def smallF : Shp → Int → Bool
  | .nil, _ => false
  | .mk _ _ _ _ _ l n _ sub, deep =>
    bif bif bif decide ((n : Int) > 12) then true else decide ((l.n : Int) > 12) then true else decide (deep > 12) then false else
    bif (runN (smL l) () l.n).1 then (runN (fun i (_ : Unit) => (smallF (sub i) (W (deep + 1)), ())) () n).1 else false
noncomputable def smallE (x : Sh) (d : Int) : Bool := smallF (ofSh x) d
theorem smallE_eq (s : Shp) (d : Int) : smallE (toSh s) d = smallF s d := by unfold smallE; rw [ofSh_toSh]
theorem smallF_lvl (k : Int) (a b c : P2) (r : Int) (l : Ctr) (n : Nat) (add : Nat → Bool) (sub : Nat → Shp) (d : Int) : smallF (.mk k a b c r l n add sub) d = smallG smallE (fun i => toSh (sub i)) (toSh (.mk k a b c r l n add sub)) d := by
  unfold smallG smP
  simp only [smallE_eq]
  rfl
def PdW (x : Sh) : Prop := ShW (ofSh x) ∧ SLe x (toSh (ofSh x))
theorem PdW_mk {s : Shp} (h : ShW s) : PdW (toSh s) := by unfold PdW; rw [ofSh_toSh]; exact ⟨h, SLe.refl _⟩
theorem small_ok : ∀ s : Shp, ShW s → SmOk (toSh s) smallE := by
  intro s
  induction s with
  | nil => intro h; exact h.elim
  | mk k a b c r l n add sub ih =>
    intro h d
    rw [smallE_eq, smallF_lvl]
    exact small_lvl (Pd := fun x => ∃ i, i < n ∧ x = toSh (sub i)) (fun x hx => by
      obtain ⟨i, hi, rfl⟩ := hx
      exact ih i (h i hi)) k a b c r l n add (fun i => toSh (sub i)) (fun i hi => ⟨i, hi, rfl⟩) d
theorem small_all : ∀ x, PdW x → SmOk x smallE := fun x hx d => by
  have k := small_ok _ hx.1 d
  rw [show smallE (toSh (ofSh x)) d = smallE x d by unfold smallE; rw [ofSh_toSh]] at k
  exact CallD_le (args := dvS (toSh (ofSh x)) :: [dvI d]) ⟨SLe.dv hx.2, Dyn.DVLe.refl _, trivial⟩ k
/-- what is small is short -/
theorem runN_all {α : Type} {g : Nat → α → Bool × α} {a : α} : ∀ {n : Nat}, (runN g a n).1 = true → ∀ k, k < n → ∃ b, runN g a k = (true, b) ∧ (g k b).1 = true
  | 0, _ => fun k hk => by omega
  | n + 1, h => fun k hk => by
    have hn : (runN g a n).1 = true := by
      cases hr : runN g a n with
      | mk q b => cases q with
        | true => rfl
        | false => rw [runN_stop hr (Nat.le_succ n)] at h; cases h
    rcases Nat.lt_or_eq_of_le (Nat.le_of_lt_succ hk) with hlt | rfl
    · exact runN_all hn k hlt
    · cases hr : runN g a k with
      | mk q b =>
        rw [hr] at hn
        simp only at hn; subst hn
        exact ⟨b, rfl, by rw [runN_go hr] at h; exact h⟩
theorem small_B : ∀ (s : Shp) (d : Int), smallF s d = true → ShB s := by
  intro s
  induction s with
  | nil => intro d h; cases h
  | mk k a b c r l n add sub ih =>
    intro d h
    unfold smallF at h
    by_cases h1 : ((n : Int) > 12)
    · rw [decide_eq_true h1] at h; cases h
    · by_cases h2 : ((l.n : Int) > 12)
      · rw [decide_eq_true h2, decide_eq_false h1] at h; cases h
      · by_cases h3 : (d > 12)
        · rw [decide_eq_true h3, decide_eq_false h1, decide_eq_false h2] at h; cases h
        · rw [decide_eq_false h1, decide_eq_false h2, decide_eq_false h3] at h
          simp only [cond_false] at h
          cases hl : (runN (smL l) () l.n).1 with
          | false => rw [hl] at h; cases h
          | true =>
            rw [hl] at h
            simp only [cond_true] at h
            refine ⟨⟨by omega, fun i hi => ?_⟩, by omega, fun i hi => ?_⟩
            · obtain ⟨_, _, hx⟩ := runN_all hl i hi
              unfold smL at hx
              simp only [Bool.not_eq_true', decide_eq_false_iff_not] at hx
              omega
            · obtain ⟨_, _, hx⟩ := runN_all h i hi
              exact ih i _ hx
end Go.Proofs.Ythnenjodighlmaa

/-! ## Wid -/
namespace Go.Proofs.Ythnenjodighlmaa
open Go Go.RowKit

theorem sh32_eq (x : Int) : sh32 x = x / 4294967296 := by
  unfold sh32
  have : (2 : Int) ^ min (Int.toNat 32) 64 = 4294967296 := by decide
  rw [this, Int.fdiv_eq_ediv_of_nonneg _ (by decide)]
theorem lo32_eq {x : Int} (h0 : 0 ≤ x) (h1 : x < 18446744073709551616) : lo32 x = x % 4294967296 := by
  have e : (BitVec.ofInt 64 x &&& BitVec.ofInt 64 4294967295).toNat = x.toNat % 4294967296 := by
    rw [BitVec.toNat_and]
    have a : (BitVec.ofInt 64 4294967295).toNat = 2 ^ 32 - 1 := by decide
    have b : (BitVec.ofInt 64 x).toNat = x.toNat := by
      rw [BitVec.toNat_ofInt]
      have : ((2 ^ 64 : Nat) : Int) = 18446744073709551616 := by decide
      rw [this, Int.emod_eq_of_lt h0 h1]
    rw [a, b, Nat.and_two_pow_sub_one_eq_mod]
  unfold lo32 u64
  rw [e, U_id (by omega) (by omega)]
  omega
theorem halves_mul (x y : Int) : x * y = (x / 4294967296 * (y / 4294967296)) * 18446744073709551616 + (x / 4294967296 * (y % 4294967296) + x % 4294967296 * (y / 4294967296)) * 4294967296 + x % 4294967296 * (y % 4294967296) := by
  have a := Int.emod_add_mul_ediv x 4294967296
  have b := Int.emod_add_mul_ediv y 4294967296
  generalize x / 4294967296 = p at *
  generalize y / 4294967296 = q at *
  generalize x % 4294967296 = s at *
  generalize y % 4294967296 = t at *
  subst a b
  grind
theorem half_bd {x y : Int} (h0 : 0 ≤ x) (h1 : x ≤ 4294967295) (h2 : 0 ≤ y) (h3 : y ≤ 4294967295) : 0 ≤ x * y ∧ x * y ≤ 18446744065119617025 := by
  have a := Int.mul_nonneg h0 h2
  have b := (mul_bd (A := 4294967295) (B := 4294967295) (x := x) (y := y) (by omega) h1 (by omega) h3).2
  have e : (4294967295 : Int) * 4294967295 = 18446744065119617025 := by decide
  omega
structure In64 (x : Int) : Prop where
  lo : 0 ≤ x
  hi : x < 18446744073709551616
theorem mulHi_eq {x y : Int} (hx : In64 x) (hy : In64 y) : mulHi x y = x * y / 18446744073709551616 := by
  obtain ⟨x0, x1⟩ := hx; obtain ⟨y0, y1⟩ := hy
  unfold mulHi
  rw [lo32_eq x0 x1, lo32_eq y0 y1, sh32_eq x, sh32_eq y]
  have e := halves_mul x y
  have a := half_bd (x := x % 4294967296) (y := y % 4294967296) (by omega) (by omega) (by omega) (by omega)
  have b := half_bd (x := x / 4294967296) (y := y % 4294967296) (by omega) (by omega) (by omega) (by omega)
  have c := half_bd (x := x % 4294967296) (y := y / 4294967296) (by omega) (by omega) (by omega) (by omega)
  have d := half_bd (x := x / 4294967296) (y := y / 4294967296) (by omega) (by omega) (by omega) (by omega)
  rw [e]
  generalize x % 4294967296 * (y % 4294967296) = A at *
  generalize x / 4294967296 * (y % 4294967296) = B at *
  generalize x % 4294967296 * (y / 4294967296) = C at *
  generalize x / 4294967296 * (y / 4294967296) = D at *
  dsimp only
  rw [U_id (x := A) (by omega) (by omega), U_id (x := B) (by omega) (by omega), U_id (x := C) (by omega) (by omega), U_id (x := D) (by omega) (by omega), sh32_eq A]
  rw [U_id (x := B + A / 4294967296) (by omega) (by omega)]
  rw [lo32_eq (x := B + A / 4294967296) (by omega) (by omega), sh32_eq (B + A / 4294967296)]
  rw [U_id (x := (B + A / 4294967296) % 4294967296 + C) (by omega) (by omega), sh32_eq ((B + A / 4294967296) % 4294967296 + C)]
  rw [U_id (x := D + (B + A / 4294967296) / 4294967296) (by omega) (by omega), U_id (by omega) (by omega)]
  omega
theorem wmul_eq {x y : Int} (hx : In64 x) (hy : In64 y) : wmul x y = ⟨x * y / 18446744073709551616, x * y % 18446744073709551616⟩ := by
  unfold wmul mulLo
  rw [mulHi_eq hx hy, U_eq]
theorem rMul_eq {x y : Int} (hx : In64 x) (hy : In64 y) : rMul x y = ⟨x * y / 18446744073709551616, x * y % 18446744073709551616⟩ := by
  obtain ⟨x0, x1⟩ := hx; obtain ⟨y0, y1⟩ := hy
  unfold rMul
  rw [lo32_eq x0 x1, lo32_eq y0 y1, sh32_eq x, sh32_eq y]
  have e := halves_mul x y
  have a := half_bd (x := x % 4294967296) (y := y % 4294967296) (by omega) (by omega) (by omega) (by omega)
  have b := half_bd (x := x / 4294967296) (y := y % 4294967296) (by omega) (by omega) (by omega) (by omega)
  have c := half_bd (x := x % 4294967296) (y := y / 4294967296) (by omega) (by omega) (by omega) (by omega)
  have d := half_bd (x := x / 4294967296) (y := y / 4294967296) (by omega) (by omega) (by omega) (by omega)
  rw [e]
  dsimp only
  generalize x % 4294967296 * (y % 4294967296) = A at *
  generalize x / 4294967296 * (y % 4294967296) = B at *
  generalize x % 4294967296 * (y / 4294967296) = C at *
  generalize x / 4294967296 * (y / 4294967296) = D at *
  rw [U_id (x := A) (by omega) (by omega), U_id (x := B) (by omega) (by omega), U_id (x := C) (by omega) (by omega), U_id (x := D) (by omega) (by omega), sh32_eq A, sh32_eq B, sh32_eq C,
    lo32_eq (x := A) (by omega) (by omega), lo32_eq (x := B) (by omega) (by omega), lo32_eq (x := C) (by omega) (by omega)]
  rw [U_id (x := A / 4294967296 + B % 4294967296) (by omega) (by omega)]
  rw [U_id (x := A / 4294967296 + B % 4294967296 + C % 4294967296) (by omega) (by omega)]
  generalize hm : A / 4294967296 + B % 4294967296 + C % 4294967296 = m
  rw [U_id (x := D + B / 4294967296) (by omega) (by omega), U_id (x := D + B / 4294967296 + C / 4294967296) (by omega) (by omega), sh32_eq m, U_id (by omega) (by omega)]
  have p : (2 : Int) ^ min (Int.toNat 32) 64 = 4294967296 := by decide
  rw [p, U_eq (m * 4294967296)]
  have q : m * 4294967296 % 18446744073709551616 = m % 4294967296 * 4294967296 := by omega
  rw [q]
  have o : (BitVec.ofInt 64 (m % 4294967296 * 4294967296) ||| BitVec.ofInt 64 (A % 4294967296)).toNat = 2 ^ 32 * (m % 4294967296).toNat + (A % 4294967296).toNat := by
    rw [BitVec.toNat_or, BitVec.toNat_ofInt, BitVec.toNat_ofInt]
    have : ((2 ^ 64 : Nat) : Int) = 18446744073709551616 := by decide
    rw [this, Int.emod_eq_of_lt (a := m % 4294967296 * 4294967296) (by omega) (by omega), Int.emod_eq_of_lt (a := A % 4294967296) (by omega) (by omega)]
    rw [Nat.two_pow_add_eq_or_of_lt (show (A % 4294967296).toNat < 2 ^ 32 by omega)]
    congr 1
    omega
  unfold u64
  rw [o]
  have g1 : ((2 ^ 32 * (m % 4294967296).toNat + (A % 4294967296).toNat : Nat) : Int) = m % 4294967296 * 4294967296 + A % 4294967296 := by omega
  rw [g1, U_id (by omega) (by omega)]
  have g2 : D + B / 4294967296 + C / 4294967296 + m / 4294967296 = (D * 18446744073709551616 + (B + C) * 4294967296 + A) / 18446744073709551616 := by omega
  have g3 : m % 4294967296 * 4294967296 + A % 4294967296 = (D * 18446744073709551616 + (B + C) * 4294967296 + A) % 18446744073709551616 := by omega
  rw [g2, g3]
theorem wabs_eq {v : Int} (h0 : -9223372036854775808 ≤ v) (h1 : v ≤ 9223372036854775807) : wabs v = (v.natAbs : Int) := by
  unfold wabs
  by_cases h : v < 0
  · rw [decide_eq_true h, bif_t, U_eq, U_eq]; omega
  · rw [decide_eq_false h, bif_f, U_eq]; omega
theorem rAbs_eq {v : Int} (h0 : -9223372036854775808 ≤ v) (h1 : v ≤ 9223372036854775807) : rAbs v = (v.natAbs : Int) := by
  unfold rAbs
  by_cases h : v < 0
  · rw [decide_eq_true h, bif_t, W_id (x := v + 1) (by omega) (by omega), W_id (by omega) (by omega), U_eq, U_eq]; omega
  · rw [decide_eq_false h, bif_f, U_eq]; omega
theorem ucmp_eq (x y : Int) : ucmp x y = if x < y then -1 else if x > y then 1 else 0 := by
  unfold ucmp
  simp only [bne_self_eq_false, bif_f]
  by_cases h : x < y
  · rw [decide_eq_true h, bif_t, if_pos h]
  · rw [decide_eq_false h, bif_f, if_neg h]
    by_cases h' : x > y
    · rw [decide_eq_true h', bif_t, if_pos h']
    · rw [decide_eq_false h', bif_f, if_neg h']
theorem wcmp_le (m n : Int) : wcmp ⟨m / 18446744073709551616, m % 18446744073709551616⟩ ⟨n / 18446744073709551616, n % 18446744073709551616⟩ ≤ 0 ↔ m ≤ n := by
  unfold wcmp
  dsimp only
  by_cases h : m / 18446744073709551616 = n / 18446744073709551616
  · have : (m / 18446744073709551616 != n / 18446744073709551616) = false := by simp [h]
    rw [this, bif_f, ucmp_eq]
    split
    · omega
    · split <;> omega
  · have : (m / 18446744073709551616 != n / 18446744073709551616) = true := by simp [h]
    rw [this, bif_t, ucmp_eq]
    split
    · omega
    · split <;> omega
theorem rCmp_le (m n : Int) : rCmp ⟨m / 18446744073709551616, m % 18446744073709551616⟩ ⟨n / 18446744073709551616, n % 18446744073709551616⟩ ≤ 0 ↔ m ≤ n := by
  unfold rCmp wEq
  dsimp only
  simp only [orB_eq, andB_eq]
  by_cases h : m / 18446744073709551616 = n / 18446744073709551616
  · have e1 : (m / 18446744073709551616 == n / 18446744073709551616) = true := by simp [h]
    have e2 : decide (m / 18446744073709551616 < n / 18446744073709551616) = false := by simp [h]
    rw [e1, e2]
    by_cases h' : m % 18446744073709551616 = n % 18446744073709551616
    · have e3 : (m % 18446744073709551616 == n % 18446744073709551616) = true := by simp [h']
      rw [e3]; simp only [bif_t]; omega
    · have e3 : (m % 18446744073709551616 == n % 18446744073709551616) = false := by simp [h']
      rw [e3]
      by_cases k : m % 18446744073709551616 < n % 18446744073709551616
      · rw [decide_eq_true k]; simp only [bif_t, bif_f, Bool.true_and, Bool.false_or]; omega
      · rw [decide_eq_false k]; simp only [bif_t, bif_f, Bool.and_false, Bool.false_or]; omega
  · have e1 : (m / 18446744073709551616 == n / 18446744073709551616) = false := by simp [h]
    rw [e1]
    by_cases k : m / 18446744073709551616 < n / 18446744073709551616
    · rw [decide_eq_true k]; simp only [bif_t, bif_f, Bool.true_or]; omega
    · rw [decide_eq_false k]; simp only [bif_f, Bool.false_and, Bool.false_or]; omega
theorem natAbs_sq (v : Int) : (v.natAbs : Int) * (v.natAbs : Int) = v * v := by
  rcases Int.natAbs_eq v with h | h <;> grind
theorem wle {k x y : Int} (h0 : -9223372036854775808 ≤ k) (h1 : k ≤ 9223372036854775807) (hx : In64 x) (hy : In64 y) : decide (wcmp (wsq k) (wmul x y) ≤ 0) = decide (k * k ≤ x * y) := by
  unfold wsq
  rw [wabs_eq h0 h1, wmul_eq ⟨by omega, by omega⟩ ⟨by omega, by omega⟩, wmul_eq hx hy, natAbs_sq]
  exact decide_eq_decide.2 (wcmp_le _ _)
theorem rle {k x y : Int} (h0 : -9223372036854775808 ≤ k) (h1 : k ≤ 9223372036854775807) (hx : In64 x) (hy : In64 y) : decide (rCmp (rSq k) (rMul x y) ≤ 0) = decide (k * k ≤ x * y) := by
  unfold rSq
  rw [rAbs_eq h0 h1, rMul_eq ⟨by omega, by omega⟩ ⟨by omega, by omega⟩, rMul_eq hx hy, natAbs_sq]
  exact decide_eq_decide.2 (rCmp_le _ _)

/-! ### the planar products -/
theorem sum2s {x y z w : Int} (h1 : -2147483646 ≤ x) (h2 : x ≤ 2147483646) (h3 : -2147483646 ≤ y) (h4 : y ≤ 2147483646) (h5 : -2147483646 ≤ z) (h6 : z ≤ 2147483646) (h7 : -2147483646 ≤ w) (h8 : w ≤ 2147483646) :
    W (W (x * y) + W (z * w)) = x * y + z * w ∧ W (W (x * y) - W (z * w)) = x * y - z * w ∧ -9223372019674906632 ≤ x * y + z * w ∧ x * y + z * w ≤ 9223372019674906632 ∧ -9223372019674906632 ≤ x * y - z * w ∧ x * y - z * w ≤ 9223372019674906632 := by
  have a := mul_bd (A := 2147483646) (B := 2147483646) h1 h2 h3 h4
  have b := mul_bd (A := 2147483646) (B := 2147483646) h5 h6 h7 h8
  have e : (2147483646 : Int) * 2147483646 = 4611686009837453316 := by decide
  rw [e] at a b
  rw [W_id (x := x * y) (by omega) (by omega), W_id (x := z * w) (by omega) (by omega), W_id (x := x * y + z * w) (by omega) (by omega), W_id (x := x * y - z * w) (by omega) (by omega)]
  omega
theorem df {u v : Int} (h1 : In30 u) (h2 : In30 v) : W (u - v) = u - v ∧ -2147483646 ≤ u - v ∧ u - v ≤ 2147483646 := by
  obtain ⟨a, b⟩ := h1; obtain ⟨c, d⟩ := h2
  rw [W_id (by omega) (by omega)]; omega
theorem cross_eq {o a b : P2} (ho : PR o) (ha : PR a) (hb : PR b) : cross o a b = crossI o a b ∧ -9223372019674906632 ≤ crossI o a b ∧ crossI o a b ≤ 9223372019674906632 := by
  have p := df ha.x ho.x; have q := df hb.y ho.y; have s := df ha.y ho.y; have t := df hb.x ho.x
  unfold cross crossI
  rw [p.1, q.1, s.1, t.1]
  have e := sum2s p.2.1 p.2.2 q.2.1 q.2.2 s.2.1 s.2.2 t.2.1 t.2.2
  exact ⟨e.2.1, e.2.2.2.2⟩
theorem rDot_eq {o a b : P2} (ho : PR o) (ha : PR a) (hb : PR b) : rDot o a b = dotI o a b ∧ -9223372019674906632 ≤ dotI o a b ∧ dotI o a b ≤ 9223372019674906632 := by
  have p := df ha.x ho.x; have q := df hb.y ho.y; have s := df ha.y ho.y; have t := df hb.x ho.x
  unfold rDot dotI
  rw [p.1, q.1, s.1, t.1]
  have e := sum2s p.2.1 p.2.2 t.2.1 t.2.2 s.2.1 s.2.2 q.2.1 q.2.2
  exact ⟨e.1, e.2.2.1, e.2.2.2.1⟩
theorem rDist_eq2 {p q : P2} (hp : PR p) (hq : PR q) : rDist p q = distI p q ∧ 0 ≤ distI p q ∧ distI p q ≤ 9223372019674906632 := by
  have a := df hp.x hq.x; have b := df hp.y hq.y
  unfold rDist distI
  rw [a.1, b.1]
  have e := sum2s a.2.1 a.2.2 a.2.1 a.2.2 b.2.1 b.2.2 b.2.1 b.2.2
  have h1 := sq_nn (p.x - q.x); have h2 := sq_nn (p.y - q.y)
  exact ⟨e.1, by omega, e.2.2.2.1⟩
theorem dist2_eq {a c : P2} (ha : PR a) (hc : PR c) : dist2 (W (c.x - a.x)) (W (c.y - a.y)) = distI a c := by
  have p := df hc.x ha.x; have q := df hc.y ha.y
  unfold dist2 distI
  rw [p.1, q.1, (sum2s p.2.1 p.2.2 p.2.1 p.2.2 q.2.1 q.2.2 q.2.1 q.2.2).1]
  grind
theorem along_eq {p a c : P2} (hp : PR p) (ha : PR a) (hc : PR c) : W (W (W (p.x - a.x) * W (c.x - a.x)) + W (W (p.y - a.y) * W (c.y - a.y))) = dotI a c p := by
  have s := df hc.x ha.x; have q := df hc.y ha.y; have u := df hp.x ha.x; have v := df hp.y ha.y
  rw [s.1, q.1, u.1, v.1, (sum2s u.2.1 u.2.2 s.2.1 s.2.2 v.2.1 v.2.2 q.2.1 q.2.2).1]
  unfold dotI; grind
theorem rsq {r : Int} (h1 : 0 ≤ r) (h2 : r ≤ 2147483648) : W (r * r) = r * r ∧ 0 ≤ r * r ∧ r * r ≤ 4611686018427387904 := by
  have a := sq_bd (A := 2147483648) (x := r) (by omega) h2
  have e : (2147483648 : Int) * 2147483648 = 4611686018427387904 := by decide
  rw [W_id (by omega) (by omega)]; omega
theorem U64 {x : Int} (h1 : 0 ≤ x) (h2 : x ≤ 9223372036854775807) : U x = x ∧ In64 (U x) := by
  have : U x = x := U_id h1 (by omega)
  rw [this]; exact ⟨rfl, by omega, by omega⟩
/-- the line through a and c passes within r of p -/
def clear (p a c : P2) (r : Int) : Bool := decide (crossI a c p * crossI a c p ≤ r * r * distI a c)
theorem clear_eq {p a c : P2} {r : Int} (hp : PR p) (ha : PR a) (hc : PR c) (h1 : 0 ≤ r) (h2 : r ≤ 2147483648) :
    decide (wcmp (wsq (cross a c p)) (wmul (U (square r)) (U (dist2 (W (c.x - a.x)) (W (c.y - a.y))))) ≤ 0) = clear p a c r := by
  have k := cross_eq ha hc hp
  have d := rDist_eq2 ha hc
  have s := rsq h1 h2
  rw [k.1, dist2_eq ha hc, square_eq h1 h2]
  rw [wle (by omega) (by omega) (U64 (x := r * r) (by omega) (by omega)).2 (U64 (x := distI a c) (by omega) (by omega)).2, (U64 (x := r * r) (by omega) (by omega)).1, (U64 (x := distI a c) (by omega) (by omega)).1]
  rfl
theorem rWithin_eq {p a c : P2} {r : Int} (hp : PR p) (ha : PR a) (hc : PR c) (h1 : 0 ≤ r) (h2 : r ≤ 2147483648) :
    rWithin (cross a c p) r (rDist a c) = clear p a c r := by
  have k := cross_eq ha hc hp
  have d := rDist_eq2 ha hc
  have s := rsq h1 h2
  unfold rWithin
  rw [k.1, d.1, s.1]
  rw [rle (by omega) (by omega) (U64 (x := r * r) (by omega) (by omega)).2 (U64 (x := distI a c) (by omega) (by omega)).2, (U64 (x := r * r) (by omega) (by omega)).1, (U64 (x := distI a c) (by omega) (by omega)).1]
  rfl
end Go.Proofs.Ythnenjodighlmaa

/-! ## Bar -/
namespace Go.Proofs.Ythnenjodighlmaa
open Go Go.RowKit
set_option maxRecDepth 100000

def all4 (f : P2 → Bool) (b : B4) : Bool := f ⟨b.x0, b.y0⟩ && f ⟨b.x1, b.y0⟩ && f ⟨b.x0, b.y1⟩ && f ⟨b.x1, b.y1⟩
theorem up_sum (c : Bool) {n : Int} (h1 : -100 ≤ n) (h2 : n ≤ 100) : up c n = n + (if c then 1 else 0) := by
  cases c
  · simp [up]
  · simp only [up, bif_t, if_true]; rw [W_id (by omega) (by omega)]
theorem cnt4_sum (f : P2 → Bool) (b : B4) : cnt4 f b = (if f ⟨b.x0, b.y0⟩ then 1 else 0) + (if f ⟨b.x1, b.y0⟩ then 1 else 0) + (if f ⟨b.x0, b.y1⟩ then 1 else 0) + (if f ⟨b.x1, b.y1⟩ then 1 else 0) := by
  unfold cnt4
  cases f ⟨b.x0, b.y0⟩ <;> cases f ⟨b.x1, b.y0⟩ <;> cases f ⟨b.x0, b.y1⟩ <;> cases f ⟨b.x1, b.y1⟩ <;> decide
theorem cnt4_all (f : P2 → Bool) (b : B4) : (cnt4 f b == 4) = all4 f b := by
  rw [cnt4_sum]; unfold all4
  cases f ⟨b.x0, b.y0⟩ <;> cases f ⟨b.x1, b.y0⟩ <;> cases f ⟨b.x0, b.y1⟩ <;> cases f ⟨b.x1, b.y1⟩ <;> rfl
theorem bumps (i j k l : Int) (hi : i = -1 ∨ i = 0 ∨ i = 1) (hj : j = -1 ∨ j = 0 ∨ j = 1) (hk : k = -1 ∨ k = 0 ∨ k = 1) (hl : l = -1 ∨ l = 0 ∨ l = 1) :
    ((bump3 (W (l + 1)) (bump3 (W (k + 1)) (bump3 (W (j + 1)) (bump3 (W (i + 1)) ⟨0, 0, 0⟩)))).m == 4) = (i == -1 && j == -1 && k == -1 && l == -1)
    ∧ ((bump3 (W (l + 1)) (bump3 (W (k + 1)) (bump3 (W (j + 1)) (bump3 (W (i + 1)) ⟨0, 0, 0⟩)))).p == 4) = (i == 1 && j == 1 && k == 1 && l == 1) := by
  rcases hi with rfl | rfl | rfl <;> rcases hj with rfl | rfl | rfl <;> rcases hk with rfl | rfl | rfl <;> rcases hl with rfl | rfl | rfl <;> decide
theorem cnt3_all (f : P2 → Int) (b : B4) (h : ∀ q, f q = -1 ∨ f q = 0 ∨ f q = 1) : ((cnt3 f b).m == 4) = all4 (fun q => f q == -1) b ∧ ((cnt3 f b).p == 4) = all4 (fun q => f q == 1) b := by
  unfold cnt3 all4
  exact bumps _ _ _ _ (h _) (h _) (h _) (h _)
structure Cs (b : B4) (f g : P2 → Bool) : Prop where
  h : all4 f b = all4 g b
theorem all4_congr {f g : P2 → Bool} {b : B4} (hb : BR b) (h : ∀ q, PR q → f q = g q) : all4 f b = all4 g b := by
  unfold all4
  rw [h _ ⟨hb.x0, hb.y0⟩, h _ ⟨hb.x1, hb.y0⟩, h _ ⟨hb.x0, hb.y1⟩, h _ ⟨hb.x1, hb.y1⟩]
theorem all4_mono {f g : P2 → Bool} {b : B4} (hb : BR b) (h : ∀ q, PR q → f q = true → g q = true) (ha : all4 f b = true) : all4 g b = true := by
  unfold all4 at *
  simp only [Bool.and_eq_true] at *
  exact ⟨⟨⟨h _ ⟨hb.x0, hb.y0⟩ ha.1.1.1, h _ ⟨hb.x1, hb.y0⟩ ha.1.1.2⟩, h _ ⟨hb.x0, hb.y1⟩ ha.1.2⟩, h _ ⟨hb.x1, hb.y1⟩ ha.2⟩

/-! ### bars -/
def same (a c : P2) : Prop := a.x = c.x ∧ a.y = c.y
instance (a c : P2) : Decidable (same a c) := inferInstanceAs (Decidable (_ ∧ _))
theorem ptEq_eq (a c : P2) : ptEq a c = decide (same a c) := by
  unfold ptEq same
  by_cases h : a.x = c.x
  · by_cases k : a.y = c.y
    · simp [h, k]
    · simp [h, k]
  · simp [h]
theorem dist_pos (a c : P2) : distI a c = 0 ↔ same a c := by
  unfold distI same
  constructor
  · intro h
    have h1 := sq_nn (a.x - c.x); have h2 := sq_nn (a.y - c.y)
    have e1 : (a.x - c.x) * (a.x - c.x) = 0 := by omega
    have e2 : (a.y - c.y) * (a.y - c.y) = 0 := by omega
    have := Int.mul_eq_zero.1 e1; have := Int.mul_eq_zero.1 e2
    omega
  · rintro ⟨h, k⟩; rw [h, k]; simp
theorem dist_nn (a c : P2) : 0 ≤ distI a c := by
  unfold distI
  have h1 := sq_nn (a.x - c.x); have h2 := sq_nn (a.y - c.y); omega
theorem beside_eq {p a c : P2} {h : Int} (hp : PR p) (ha : PR a) (hc : PR c) (h1 : 0 ≤ h) (h2 : h ≤ 2147483648) :
    beside p a c h = if clear p a c h = true then 0 else if crossI a c p > 0 then 1 else -1 := by
  unfold beside
  dsimp only
  rw [clear_eq hp ha hc h1 h2, (cross_eq ha hc hp).1]
  cases clear p a c h
  · by_cases k : crossI a c p > 0
    · simp [k]
    · simp [k]
  · simp
theorem past_eq {p a c : P2} (hp : PR p) (ha : PR a) (hc : PR c) : past p a c = if dotI a c p < 0 then -1 else if dotI a c p > distI a c then 1 else 0 := by
  unfold past
  dsimp only
  rw [along_eq hp ha hc, dist2_eq ha hc]
  by_cases k : dotI a c p < 0
  · simp [k]
  · by_cases k' : dotI a c p > distI a c
    · simp [k, k']
    · simp [k, k']
def barI (p a c : P2) (h : Int) : Bool := !(decide (same a c)) && decide (1 ≤ h) && clear p a c h && decide (0 ≤ dotI a c p) && decide (dotI a c p ≤ distI a c)
theorem barHas_eq {p a c : P2} {h : Int} (hp : PR p) (ha : PR a) (hc : PR c) (h2 : h ≤ 2147483648) : barHas p a c h = barI p a c h := by
  unfold barHas barVoid barI
  rw [ptEq_eq]
  by_cases h1 : h < 1
  · have : ¬ 1 ≤ h := by omega
    simp [h1, this, orB_eq, andB_eq]
  · rw [beside_eq hp ha hc (by omega) h2, past_eq hp ha hc]
    have : 1 ≤ h := by omega
    simp only [h1, this, orB_eq, andB_eq, decide_true, decide_false, Bool.or_false, Bool.and_true]
    cases clear p a c h
    · by_cases k : crossI a c p > 0
      · simp [k]
      · simp [k]
    · by_cases k : dotI a c p < 0
      · have : ¬ 0 ≤ dotI a c p := by omega
        simp [k, this]
      · by_cases k' : dotI a c p > distI a c
        · have : ¬ dotI a c p ≤ distI a c := by omega
          simp [k, k', this]
        · have k1 : 0 ≤ dotI a c p := by omega
          have k2 : dotI a c p ≤ distI a c := by omega
          simp [k, k', k1, k2]
theorem rBarHas_eq {p a c : P2} {h : Int} (hp : PR p) (ha : PR a) (hc : PR c) (h2 : h ≤ 2147483648) : rBarHas p a c h = barI p a c h := by
  unfold rBarHas barI

  by_cases h1 : h < 1
  · have : ¬ 1 ≤ h := by omega
    simp [this, andB_eq]
  · rw [rWithin_eq hp ha hc (by omega) h2, (rDist_eq2 ha hc).1, (rDot_eq ha hc hp).1]
    have k : decide (distI a c > 0) = !(decide (same a c)) := by
      have := dist_pos a c; have := dist_nn a c
      by_cases e : same a c
      · have : distI a c = 0 := (dist_pos a c).2 e
        simp [e, this]
      · have : distI a c > 0 := by
          have : distI a c ≠ 0 := fun x => e ((dist_pos a c).1 x)
          omega
        simp [e, this]
    rw [k]
    simp only [andB_eq]
    cases decide (same a c) <;> cases clear p a c h <;> cases decide (0 ≤ dotI a c p) <;> cases decide (dotI a c p ≤ distI a c) <;> simp
def leftI (a c : P2) (h : Int) (q : P2) : Bool := !(clear q a c h) && decide (crossI a c q > 0)
def rightI (a c : P2) (h : Int) (q : P2) : Bool := !(clear q a c h) && !(decide (crossI a c q > 0))
def barCl (b : B4) (a c : P2) (h : Int) : Int :=
  if h < 1 ∨ same a c then 0 else
  if all4 (fun q => barI q a c h) b then 2 else
  if all4 (rightI a c h) b || all4 (leftI a c h) b || all4 (fun q => decide (dotI a c q < 0)) b || all4 (fun q => decide (dotI a c q > distI a c)) b then 0 else 1
theorem barClass_eq {b : B4} {a c : P2} {h : Int} (hb : BR b) (ha : PR a) (hc : PR c) (hx : b.x0 ≤ b.x1) (hy : b.y0 ≤ b.y1) (h2 : h ≤ 2147483648) : barClass b a c h = barCl b a c h := by
  unfold barClass barCl
  have e0 : barVoid a c h = decide (h < 1 ∨ same a c) := by
    unfold barVoid; rw [ptEq_eq, orB_eq]
    by_cases k : h < 1 <;> by_cases k' : same a c <;> simp [k, k']
  rw [e0]
  by_cases k0 : h < 1 ∨ same a c
  · rw [decide_eq_true k0, bif_t, if_pos k0]
  · rw [decide_eq_false k0, bif_f, if_neg k0]
    have h1 : 1 ≤ h := by omega
    have hh : boxHas b ⟨b.x0, b.y0⟩ = true := (boxHas_eq _ _).2 ⟨by simp, hx, by simp, hy⟩
    rw [hh]
    have hv : barVoid a c h = false := by rw [e0, decide_eq_false k0]
    have e1 : (cnt4 (fun p => andB (beside p a c h == 0) (past p a c == 0)) b == 4) = all4 (fun q => barI q a c h) b := by
      rw [cnt4_all]
      refine all4_congr hb fun q hq => ?_
      rw [← barHas_eq hq ha hc h2]; unfold barHas; rw [hv]; rfl
    have s3 : ∀ q, beside q a c h = -1 ∨ beside q a c h = 0 ∨ beside q a c h = 1 := fun q => by have := beside_01 q a c h; omega
    have p3 : ∀ q, past q a c = -1 ∨ past q a c = 0 ∨ past q a c = 1 := fun q => by have := past_01 q a c; omega
    rw [e1, (cnt3_all _ b s3).1, (cnt3_all _ b s3).2, (cnt3_all _ b p3).1, (cnt3_all _ b p3).2]
    have e2 : all4 (fun q => beside q a c h == -1) b = all4 (rightI a c h) b := all4_congr hb fun q hq => by
      rw [beside_eq hq ha hc (by omega) h2]; unfold rightI
      cases clear q a c h
      · by_cases k : crossI a c q > 0 <;> simp [k]
      · simp
    have e3 : all4 (fun q => beside q a c h == 1) b = all4 (leftI a c h) b := all4_congr hb fun q hq => by
      rw [beside_eq hq ha hc (by omega) h2]; unfold leftI
      cases clear q a c h
      · by_cases k : crossI a c q > 0 <;> simp [k]
      · simp
    have e4 : all4 (fun q => past q a c == -1) b = all4 (fun q => decide (dotI a c q < 0)) b := all4_congr hb fun q hq => by
      rw [past_eq hq ha hc]
      by_cases k : dotI a c q < 0
      · simp [k]
      · by_cases k' : dotI a c q > distI a c <;> simp [k, k']
    have e5 : all4 (fun q => past q a c == 1) b = all4 (fun q => decide (dotI a c q > distI a c)) b := all4_congr hb fun q hq => by
      rw [past_eq hq ha hc]
      by_cases k : dotI a c q < 0
      · have : ¬ dotI a c q > distI a c := by have := dist_nn a c; omega
        simp [k, this]
      · by_cases k' : dotI a c q > distI a c <;> simp [k, k']
    rw [e2, e3, e4, e5]
    simp only [orB_eq, Bool.not_true, bif_f]
    cases all4 (fun q => barI q a c h) b <;> cases all4 (rightI a c h) b <;> cases all4 (leftI a c h) b <;> cases all4 (fun q => decide (dotI a c q < 0)) b <;> cases all4 (fun q => decide (dotI a c q > distI a c)) b <;> rfl
theorem clear_zero {q a c : P2} {h : Int} (k : crossI a c q = 0) : clear q a c h = true := by
  unfold clear
  rw [k]
  have := Int.mul_nonneg (sq_nn h) (dist_nn a c)
  simpa using this
theorem rBar_eq {b : B4} {a c : P2} {h : Int} (hb : BR b) (ha : PR a) (hc : PR c) (h2 : h ≤ 2147483648) : rBar b a c h = barCl b a c h := by
  unfold rBar barCl
  have e0 : orB (decide (h < 1)) (rDist a c == 0) = decide (h < 1 ∨ same a c) := by
    rw [(rDist_eq2 ha hc).1, orB_eq]
    have := dist_pos a c
    by_cases k : h < 1 <;> by_cases k' : same a c <;> simp [k, k', this]
  rw [e0]
  by_cases k0 : h < 1 ∨ same a c
  · rw [decide_eq_true k0, bif_t, if_pos k0]
  · rw [decide_eq_false k0, bif_f, if_neg k0]
    have h1 : 1 ≤ h := by omega
    dsimp only
    rw [cnt4_all, cnt4_all, cnt4_all, cnt4_all, cnt4_all]
    have e1 : all4 (fun q => rBarHas q a c h) b = all4 (fun q => barI q a c h) b := all4_congr hb fun q hq => rBarHas_eq hq ha hc h2
    have e2 : all4 (fun q => andB (!(rWithin (cross a c q) h (rDist a c))) (decide (cross a c q > 0))) b = all4 (leftI a c h) b := all4_congr hb fun q hq => by
      rw [rWithin_eq hq ha hc (by omega) h2, (cross_eq ha hc hq).1, andB_eq]; rfl
    have e3 : all4 (fun q => andB (!(rWithin (cross a c q) h (rDist a c))) (decide (cross a c q < 0))) b = all4 (rightI a c h) b := all4_congr hb fun q hq => by
      rw [rWithin_eq hq ha hc (by omega) h2, (cross_eq ha hc hq).1, andB_eq]; unfold rightI
      by_cases k : crossI a c q = 0
      · rw [clear_zero k]; rfl
      · congr 1
        by_cases k' : crossI a c q < 0
        · have : ¬ crossI a c q > 0 := by omega
          simp [k', this]
        · have : crossI a c q > 0 := by omega
          simp [k', this]
    have e4 : all4 (fun q => decide (rDot a c q < 0)) b = all4 (fun q => decide (dotI a c q < 0)) b := all4_congr hb fun q hq => by rw [(rDot_eq ha hc hq).1]
    have e5 : all4 (fun q => decide (rDot a c q > rDist a c)) b = all4 (fun q => decide (dotI a c q > distI a c)) b := all4_congr hb fun q hq => by rw [(rDot_eq ha hc hq).1, (rDist_eq2 ha hc).1]
    rw [e1, e2, e3, e4, e5]
    simp only [orB_eq]
    cases all4 (fun q => barI q a c h) b <;> cases all4 (rightI a c h) b <;> cases all4 (leftI a c h) b <;> cases all4 (fun q => decide (dotI a c q < 0)) b <;> cases all4 (fun q => decide (dotI a c q > distI a c)) b <;> rfl
theorem barVoid_lt {a c : P2} {h : Int} (k : h < 1) : barVoid a c h = true := by
  unfold barVoid; rw [orB_eq, decide_eq_true k, Bool.or_true]
theorem barVoid_same (a : P2) (h : Int) : barVoid a a h = true := by
  unfold barVoid; rw [orB_eq, ptEq_eq, decide_eq_true (show same a a from ⟨rfl, rfl⟩), Bool.true_or]
theorem barClass_void {b : B4} {a c : P2} {h : Int} (k : barVoid a c h = true) : barClass b a c h = 0 := by unfold barClass; rw [k]; rfl
theorem barHas_void {p a c : P2} {h : Int} (k : barVoid a c h = true) : barHas p a c h = false := by unfold barHas; rw [k]; rfl
end Go.Proofs.Ythnenjodighlmaa

/-! ## Box -/
namespace Go.Proofs.Ythnenjodighlmaa
open Go Go.RowKit Sym
set_option maxRecDepth 100000

theorem cnt4_lt (f : P2 → Bool) (b : B4) : decide (cnt4 f b < 4) = !(all4 f b) := by
  rw [cnt4_sum]; unfold all4
  cases f ⟨b.x0, b.y0⟩ <;> cases f ⟨b.x1, b.y0⟩ <;> cases f ⟨b.x0, b.y1⟩ <;> cases f ⟨b.x1, b.y1⟩ <;> rfl
/-- the segment's own box has no point of b -/
def sepI (b : B4) (p q : P2) : Bool := decide (max p.x q.x < b.x0) || decide (min p.x q.x > b.x1) || decide (max p.y q.y < b.y0) || decide (min p.y q.y > b.y1)
def meetsI (b : B4) (p q : P2) : Bool := !(sepI b p q) && (!(all4 (fun c => decide (crossI p q c > 0)) b) && !(all4 (fun c => decide (crossI p q c < 0)) b))
theorem meets_eq {b : B4} {p q : P2} (hb : BR b) (hp : PR p) (hq : PR q) (hx : b.x0 ≤ b.x1) (hy : b.y0 ≤ b.y1) : meets b p q = meetsI b p q := by
  have e1 : all4 (fun c => decide (cross p q c > 0)) b = all4 (fun c => decide (crossI p q c > 0)) b := all4_congr hb fun c hc => by rw [(cross_eq hp hq hc).1]
  have e2 : all4 (fun c => decide (cross p q c < 0)) b = all4 (fun c => decide (crossI p q c < 0)) b := all4_congr hb fun c hc => by rw [(cross_eq hp hq hc).1]
  have e3 : emptyBx b = false := by
    unfold emptyBx; rw [orB_eq, decide_eq_false (show ¬ b.x0 > b.x1 by omega), decide_eq_false (show ¬ b.y0 > b.y1 by omega)]; rfl
  unfold meets meetsI sepI
  rw [cnt4_lt, cnt4_lt, e1, e2, e3]
  simp only [orB_eq, andB_eq, imax_eq, imin_eq, Bool.false_or]
  cases (decide (max p.x q.x < b.x0) || decide (min p.x q.x > b.x1) || decide (max p.y q.y < b.y0) || decide (min p.y q.y > b.y1)) <;> rfl
theorem rMeets_eq {b : B4} {p q : P2} (hb : BR b) (hp : PR p) (hq : PR q) : rMeets b p q = meetsI b p q := by
  have e1 : all4 (fun c => decide (cross p q c > 0)) b = all4 (fun c => decide (crossI p q c > 0)) b := all4_congr hb fun c hc => by rw [(cross_eq hp hq hc).1]
  have e2 : all4 (fun c => decide (cross p q c < 0)) b = all4 (fun c => decide (crossI p q c < 0)) b := all4_congr hb fun c hc => by rw [(cross_eq hp hq hc).1]
  unfold rMeets meetsI sepI rApart
  rw [cnt4_lt, cnt4_lt, e1, e2]
  simp only [orB_eq, andB_eq, imax_eq, imin_eq]
  have e4 : (decide (b.x1 < min p.x q.x) || decide (max p.x q.x < b.x0) || decide (b.y1 < min p.y q.y) || decide (max p.y q.y < b.y0)) = (decide (max p.x q.x < b.x0) || decide (min p.x q.x > b.x1) || decide (max p.y q.y < b.y0) || decide (min p.y q.y > b.y1)) := by
    rw [Bool.or_comm (decide (b.x1 < min p.x q.x)), Bool.or_assoc, Bool.or_assoc, Bool.or_assoc, Bool.or_assoc, Bool.or_comm (decide (b.y1 < min p.y q.y))]
  rw [e4]
  cases (decide (max p.x q.x < b.x0) || decide (min p.x q.x > b.x1) || decide (max p.y q.y < b.y0) || decide (min p.y q.y > b.y1)) <;> rfl
/-- some corner of a box is on the one side of a line through a point of the box, some on the other -/
theorem sides_in {b : B4} {p q : P2} (h : hasI b p) : all4 (fun c => decide (crossI p q c > 0)) b = false ∧ all4 (fun c => decide (crossI p q c < 0)) b = false := by
  obtain ⟨h1, h2, h3, h4⟩ := h
  have key : ∀ (u v : Int), (0 ≤ u * (b.x1 - p.x) ∧ u * (b.x0 - p.x) ≤ 0 ∨ u * (b.x1 - p.x) ≤ 0 ∧ 0 ≤ u * (b.x0 - p.x)) ∧ (0 ≤ v * (b.y1 - p.y) ∧ v * (b.y0 - p.y) ≤ 0 ∨ v * (b.y1 - p.y) ≤ 0 ∧ 0 ≤ v * (b.y0 - p.y)) := fun u v => by
    have one : ∀ (u lo hi : Int), lo ≤ 0 → 0 ≤ hi → (0 ≤ u * hi ∧ u * lo ≤ 0 ∨ u * hi ≤ 0 ∧ 0 ≤ u * lo) := fun u lo hi a c => by
      rcases Int.le_total 0 u with k | k
      · have := Int.mul_nonneg k c; have := Int.mul_nonneg k (show 0 ≤ -lo by omega)
        left; constructor
        · assumption
        · have e : u * -lo = -(u * lo) := by grind
          omega
      · have := Int.mul_nonneg (show 0 ≤ -u by omega) c; have := Int.mul_nonneg (show 0 ≤ -u by omega) (show 0 ≤ -lo by omega)
        right
        have e1 : -u * hi = -(u * hi) := by grind
        have e2 : -u * -lo = u * lo := by grind
        omega
    exact ⟨one u _ _ (by omega) (by omega), one v _ _ (by omega) (by omega)⟩
  have e : ∀ x y, crossI p q ⟨x, y⟩ = (q.x - p.x) * (y - p.y) - (q.y - p.y) * (x - p.x) := fun _ _ => rfl
  unfold all4
  simp only [e]
  obtain ⟨k1, k2⟩ := key (q.y - p.y) (q.x - p.x)
  generalize (q.x - p.x) * (b.y0 - p.y) = A at *
  generalize (q.x - p.x) * (b.y1 - p.y) = B at *
  generalize (q.y - p.y) * (b.x0 - p.x) = C at *
  generalize (q.y - p.y) * (b.x1 - p.x) = D at *
  constructor
  · simp only [Bool.and_eq_false_iff, decide_eq_false_iff_not]; omega
  · simp only [Bool.and_eq_false_iff, decide_eq_false_iff_not]; omega
theorem meetsI_in {b : B4} {p : P2} (q : P2) (h : hasI b p) : meetsI b p q = true := by
  have s := sides_in (q := q) h
  obtain ⟨h1, h2, h3, h4⟩ := h
  unfold meetsI
  rw [s.1, s.2]
  unfold sepI
  rw [decide_eq_false (show ¬ max p.x q.x < b.x0 by omega), decide_eq_false (show ¬ min p.x q.x > b.x1 by omega), decide_eq_false (show ¬ max p.y q.y < b.y0 by omega), decide_eq_false (show ¬ min p.y q.y > b.y1 by omega)]
  rfl
theorem near_zero (b : B4) (p : P2) (hx : b.x0 ≤ b.x1) (hy : b.y0 ≤ b.y1) : nearI b p = 0 ↔ hasI b p := by
  have e : ∀ v lo hi : Int, lo ≤ hi → (gapI v lo hi * gapI v lo hi = 0 ↔ lo ≤ v ∧ v ≤ hi) := fun v lo hi hh => by
    rw [Int.mul_eq_zero]
    unfold gapI; split
    · omega
    · split <;> omega
  have a := e p.x b.x0 b.x1 hx; have c := e p.y b.y0 b.y1 hy
  have n1 := sq_nn (gapI p.x b.x0 b.x1); have n2 := sq_nn (gapI p.y b.y0 b.y1)
  unfold nearI hasI
  omega

/-! ### quarters -/
def q0 (b : B4) : B4 := ⟨spl b 0 b.x0, spl b 0 b.y0, spl b 0 (midX b), spl b 0 (midY b)⟩
def q1 (b : B4) : B4 := ⟨spl b 0 (midX b), spl b 0 b.y0, spl b 0 b.x1, spl b 0 (midY b)⟩
def q2 (b : B4) : B4 := ⟨spl b 0 b.x0, spl b 0 (midY b), spl b 0 (midX b), spl b 0 b.y1⟩
def q3 (b : B4) : B4 := ⟨spl b 0 (midX b), spl b 0 (midY b), spl b 0 b.x1, spl b 0 b.y1⟩
structure Fits (b : B4) : Prop where
  x0 : -536870912 ≤ b.x0
  x : b.x0 ≤ b.x1
  x1 : b.x1 ≤ 536870912
  y0 : -536870912 ≤ b.y0
  y : b.y0 ≤ b.y1
  y1 : b.y1 ≤ 536870912
theorem lBox_fits (b : B4) : Fits (lBox b) := by
  obtain ⟨h1, h2, h3, h4, h5, h6⟩ := lBox_r b
  exact ⟨h1, h2, h3, h4, h5, h6⟩
theorem boxOk_iff (b : B4) : boxOk b = true ↔ Fits b := by
  unfold boxOk within
  simp only [andB_eq, Bool.and_eq_true, decide_eq_true_eq]
  constructor
  · rintro ⟨⟨⟨⟨⟨a, c⟩, d, e⟩, f, g⟩, h, i⟩, j, k⟩; exact ⟨d, a, i, f, c, k⟩
  · rintro ⟨a, c, d, e, f, g⟩; exact ⟨⟨⟨⟨⟨c, f⟩, by omega, by omega⟩, by omega, by omega⟩, by omega, by omega⟩, by omega, by omega⟩
theorem spl_of {b : B4} (hb : Fits b) (h : splOk b = true) : (∀ v, spl b 0 v = v) ∧ b.x0 < midX b ∧ b.y0 < midY b ∧ 2 * midX b = b.x0 + b.x1 ∧ 2 * midY b = b.y0 + b.y1 := by
  obtain ⟨a1, a2, a3, a4, a5, a6⟩ := hb
  have k : ∀ v, spl b 0 v = v := fun v => by
    unfold splOk at h; unfold spl
    cases hq : boxOk b
    · rw [hq] at h; cases h
    · rw [hq] at h
      simp only [Bool.not_true, bif_f] at h ⊢
      cases ho : orB (orB (orB (W (b.x1 - b.x0) == 0) (W (b.y1 - b.y0) == 0)) ((W (b.x1 - b.x0)).tmod 2 != 0)) ((W (b.y1 - b.y0)).tmod 2 != 0)
      · rfl
      · rw [ho] at h; cases h
  refine ⟨k, ?_⟩
  unfold splOk at h
  rw [(boxOk_iff b).2 ⟨a1, a2, a3, a4, a5, a6⟩] at h
  rw [W_id (x := b.x1 - b.x0) (by omega) (by omega), W_id (x := b.y1 - b.y0) (by omega) (by omega)] at h
  simp only [Bool.not_true, bif_f, orB_eq] at h
  have h' : ¬ (((b.x1 - b.x0 = 0 ∨ b.y1 - b.y0 = 0) ∨ (b.x1 - b.x0).tmod 2 ≠ 0) ∨ (b.y1 - b.y0).tmod 2 ≠ 0) := by
    intro q
    have : (b.x1 - b.x0 == 0 || b.y1 - b.y0 == 0 || (b.x1 - b.x0).tmod 2 != 0 || (b.y1 - b.y0).tmod 2 != 0) = true := by
      simp only [Bool.or_eq_true, beq_iff_eq, bne_iff_ne]; exact q
    rw [this] at h; cases h
  rw [Int.tmod_eq_emod_of_nonneg (by omega), Int.tmod_eq_emod_of_nonneg (by omega)] at h'
  unfold midX midY
  rw [W_id (x := b.x1 - b.x0) (by omega) (by omega), W_id (x := b.y1 - b.y0) (by omega) (by omega), Int.tdiv_eq_ediv_of_nonneg (by omega), Int.tdiv_eq_ediv_of_nonneg (by omega),
    W_id (x := (b.x1 - b.x0) / 2) (by omega) (by omega), W_id (x := (b.y1 - b.y0) / 2) (by omega) (by omega), W_id (by omega) (by omega), W_id (by omega) (by omega)]
  omega
def badQ (b s : B4) (c d : P2) : Bool := orB (orB (orB (!(boxOk s)) (apart s b)) (!(boxHas b c))) (!(ptEq c d))
theorem badQ_no {b s : B4} {c : P2} (hs : Fits s) (h1 : b.x0 ≤ s.x0) (h2 : s.x1 ≤ b.x1) (h3 : b.y0 ≤ s.y0) (h4 : s.y1 ≤ b.y1) (hc : hasI s c) : badQ b s c c = false := by
  obtain ⟨a1, a2, a3, a4, a5, a6⟩ := id hs
  obtain ⟨c1, c2, c3, c4⟩ := hc
  have e1 : boxOk s = true := (boxOk_iff s).2 hs
  have e2 : apart s b = false := by
    unfold apart emptyBx
    simp only [orB_eq, Bool.or_eq_false_iff, decide_eq_false_iff_not]
    omega
  have e3 : boxHas b c = true := (boxHas_eq b c).2 ⟨by omega, by omega, by omega, by omega⟩
  have e4 : ptEq c c = true := by rw [ptEq_eq]; exact decide_eq_true ⟨rfl, rfl⟩
  unfold badQ; rw [e1, e2, e3, e4]; rfl
def boxHolds (b0 : B4) (x y : Int) (p0 : P2) : Bool :=
  let b := lBox b0
  let p := lPt p0
  let q := lIn b x y
  let d := rDist p q
  bif orB (orB (orB (!(boxHas b q)) (decide (near b p > d))) (decide (most b p < d))) (!((near b p == 0) == boxHas b p)) then false else
  let fin := fun n => andB (andB (orB (!(splOk b)) (decide (n ≥ 1))) (meets b q p)) true
  let n1 := up (boxHas (q0 b) q) 0
  let n2 := up (boxHas (q1 b) q) n1
  let n3 := up (boxHas (q2 b) q) n2
  let n4 := up (boxHas (q3 b) q) n3
  bif splOk b then bif badQ b (q0 b) ⟨(q0 b).x0, (q0 b).y0⟩ ⟨b.x0, b.y0⟩ then false else
  bif splOk b then bif badQ b (q1 b) ⟨(q1 b).x1, (q1 b).y0⟩ ⟨b.x1, b.y0⟩ then false else
  bif splOk b then bif badQ b (q2 b) ⟨(q2 b).x0, (q2 b).y1⟩ ⟨b.x0, b.y1⟩ then false else
  bif splOk b then bif badQ b (q3 b) ⟨(q3 b).x1, (q3 b).y1⟩ ⟨b.x1, b.y1⟩ then false else fin n4 else fin n3 else fin n2 else fin n1 else fin 0
theorem boxHolds_true (b0 : B4) (x y : Int) (p0 : P2) : boxHolds b0 x y p0 = true := by
  have hb := lBox_fits b0
  have hB := lBox_R b0
  have hP := lPt_R p0
  have hq := (lIn_has x y hB hb.x hb.y).1
  unfold boxHolds
  dsimp only
  generalize lBox b0 = b at *
  generalize lPt p0 = p at *
  generalize lIn b x y = q at *
  have hQ : PR q := by
    obtain ⟨⟨a1, a2⟩, ⟨a3, a4⟩, ⟨a5, a6⟩, a7, a8⟩ := hB
    obtain ⟨h1, h2, h3, h4⟩ := hq
    exact ⟨⟨by omega, by omega⟩, ⟨by omega, by omega⟩⟩
  have e0 : orB (orB (orB (!(boxHas b q)) (decide (near b p > rDist p q))) (decide (most b p < rDist p q))) (!((near b p == 0) == boxHas b p)) = false := by
    rw [(boxHas_eq b q).2 hq, (near_eq hB hP).1, (most_eq hB hP).1, (rDist_eq2 hP hQ).1]
    have a := near_le (p := p) hq; have c := most_ge (p := p) hq
    rw [decide_eq_false (show ¬ nearI b p > distI p q by omega), decide_eq_false (show ¬ mostI b p < distI p q by omega)]
    have z := near_zero b p hb.x hb.y
    have : (nearI b p == 0) = boxHas b p := by
      rw [Bool.eq_iff_iff, boxHas_eq, beq_iff_eq]; exact z
    rw [this]; simp [orB_eq]
  rw [e0, bif_f, meets_eq hB hQ hP hb.x hb.y, meetsI_in p hq]
  cases hs : splOk b
  · rfl
  · obtain ⟨k, l1, l2, l3, l4⟩ := spl_of hb hs
    obtain ⟨a1, a2, a3, a4, a5, a6⟩ := hb
    obtain ⟨h1, h2, h3, h4⟩ := hq
    unfold q0 q1 q2 q3
    simp only [k]
    rw [badQ_no (b := b) (s := ⟨b.x0, b.y0, midX b, midY b⟩) (c := ⟨b.x0, b.y0⟩) ⟨a1, by dsimp only; omega, by dsimp only; omega, a4, by dsimp only; omega, by dsimp only; omega⟩ (by simp) (by dsimp only; omega) (by simp) (by dsimp only; omega) ⟨by simp, by dsimp only; omega, by simp, by dsimp only; omega⟩,
      badQ_no (b := b) (s := ⟨midX b, b.y0, b.x1, midY b⟩) (c := ⟨b.x1, b.y0⟩) ⟨by dsimp only; omega, by dsimp only; omega, by dsimp only; omega, a4, by dsimp only; omega, by dsimp only; omega⟩ (by dsimp only; omega) (by simp) (by simp) (by dsimp only; omega) ⟨by dsimp only; omega, by simp, by simp, by dsimp only; omega⟩,
      badQ_no (b := b) (s := ⟨b.x0, midY b, midX b, b.y1⟩) (c := ⟨b.x0, b.y1⟩) ⟨a1, by dsimp only; omega, by dsimp only; omega, by dsimp only; omega, by dsimp only; omega, by dsimp only; omega⟩ (by simp) (by dsimp only; omega) (by dsimp only; omega) (by simp) ⟨by simp, by dsimp only; omega, by dsimp only; omega, by simp⟩,
      badQ_no (b := b) (s := ⟨midX b, midY b, b.x1, b.y1⟩) (c := ⟨b.x1, b.y1⟩) ⟨by dsimp only; omega, by dsimp only; omega, by dsimp only; omega, by dsimp only; omega, by dsimp only; omega, by dsimp only; omega⟩ (by dsimp only; omega) (by simp) (by dsimp only; omega) (by simp) ⟨by dsimp only; omega, by simp, by dsimp only; omega, by simp⟩]
    have u : ∀ (c : Bool) (n : Int), 0 ≤ n → n ≤ 10 → n ≤ up c n ∧ up c n ≤ n + 1 ∧ (c = true → up c n = n + 1) := fun c n a d => by
      rw [up_sum c (by omega) (by omega)]; cases c <;> simp <;> omega
    have u1 := u (boxHas ⟨b.x0, b.y0, midX b, midY b⟩ q) 0 (by omega) (by omega)
    have u2 := u (boxHas ⟨midX b, b.y0, b.x1, midY b⟩ q) _ u1.1 (by omega)
    have u3 := u (boxHas ⟨b.x0, midY b, midX b, b.y1⟩ q) _ (Int.le_trans u1.1 u2.1) (by omega)
    have u4 := u (boxHas ⟨midX b, midY b, b.x1, b.y1⟩ q) _ (Int.le_trans (Int.le_trans u1.1 u2.1) u3.1) (by omega)
    have n : up (boxHas ⟨midX b, midY b, b.x1, b.y1⟩ q) (up (boxHas ⟨b.x0, midY b, midX b, b.y1⟩ q) (up (boxHas ⟨midX b, b.y0, b.x1, midY b⟩ q) (up (boxHas ⟨b.x0, b.y0, midX b, midY b⟩ q) 0))) ≥ 1 := by
      by_cases kx : q.x ≤ midX b
      · by_cases ky : q.y ≤ midY b
        · have := u1.2.2 ((boxHas_eq _ _).2 ⟨h1, kx, h3, ky⟩); omega
        · have := u3.2.2 ((boxHas_eq _ _).2 ⟨h1, kx, by dsimp only; omega, h4⟩); omega
      · by_cases ky : q.y ≤ midY b
        · have := u2.2.2 ((boxHas_eq _ _).2 ⟨by dsimp only; omega, h2, h3, ky⟩); omega
        · have := u4.2.2 ((boxHas_eq _ _).2 ⟨by dsimp only; omega, h2, by dsimp only; omega, h4⟩); omega
    simp only [bif_t, bif_f]
    rw [decide_eq_true n]; rfl
end Go.Proofs.Ythnenjodighlmaa

/-! ## Lin -/
namespace Go.Proofs.Ythnenjodighlmaa
open Go Go.RowKit Sym
set_option maxRecDepth 100000

/-- p is in the stroke -/
def lineI (p a c : P2) (r : Int) : Bool :=
  if dotI a c p ≤ 0 then decide (distI p a ≤ r * r) else if dotI a c p ≥ distI a c then decide (distI p c ≤ r * r) else clear p a c r
theorem lineHas_eq {p a c : P2} {r : Int} (hp : PR p) (ha : PR a) (hc : PR c) (h1 : 1 ≤ r) (h2 : r ≤ 2147483648) : lineHas p a c r = lineI p a c r := by
  unfold lineHas lineI
  rw [decide_eq_false (show ¬ r < 1 by omega), bif_f]
  dsimp only
  rw [along_eq hp ha hc, dist2_eq ha hc]
  have e := clear_eq hp ha hc (r := r) (by omega) h2
  rw [dist2_eq ha hc] at e
  rw [e, square_eq (by omega) h2]
  have n1 := near_eq (b := ⟨a.x, a.y, a.x, a.y⟩) ⟨ha.x, ha.y, ha.x, ha.y⟩ hp
  have n2 := near_eq (b := ⟨c.x, c.y, c.x, c.y⟩) ⟨hc.x, hc.y, hc.x, hc.y⟩ hp
  rw [n1.1, n2.1, dist_near, dist_near]
  by_cases k : dotI a c p ≤ 0
  · simp [k]
  · by_cases k' : dotI a c p ≥ distI a c
    · simp [k, k']
    · simp [k, k']
theorem rLineHas_eq {p a c : P2} {r : Int} (hp : PR p) (ha : PR a) (hc : PR c) (h1 : 1 ≤ r) (h2 : r ≤ 2147483648) : rLineHas p a c r = lineI p a c r := by
  unfold rLineHas lineI
  rw [decide_eq_false (show ¬ r < 1 by omega), bif_f]
  rw [rWithin_eq hp ha hc (by omega) h2, (rDot_eq ha hc hp).1, (rDist_eq2 ha hc).1, (rDist_eq2 hp ha).1, (rDist_eq2 hp hc).1, (rsq (r := r) (by omega) h2).1]
  by_cases k : dotI a c p ≤ 0
  · simp [k]
  · by_cases k' : dotI a c p ≥ distI a c
    · simp [k, k']
    · simp [k, k']
def any4 (f : P2 → Bool) (b : B4) : Bool := f ⟨b.x0, b.y0⟩ || f ⟨b.x1, b.y0⟩ || f ⟨b.x0, b.y1⟩ || f ⟨b.x1, b.y1⟩
theorem cnt4_any (f : P2 → Bool) (b : B4) : decide (cnt4 f b > 0) = any4 f b := by
  rw [cnt4_sum]; unfold any4
  cases f ⟨b.x0, b.y0⟩ <;> cases f ⟨b.x1, b.y0⟩ <;> cases f ⟨b.x0, b.y1⟩ <;> cases f ⟨b.x1, b.y1⟩ <;> rfl
theorem cnt4_none (f : P2 → Bool) (b : B4) : (cnt4 f b == 0) = !(any4 f b) := by
  rw [cnt4_sum]; unfold any4
  cases f ⟨b.x0, b.y0⟩ <;> cases f ⟨b.x1, b.y0⟩ <;> cases f ⟨b.x0, b.y1⟩ <;> cases f ⟨b.x1, b.y1⟩ <;> rfl
theorem any4_congr {f g : P2 → Bool} {b : B4} (hb : BR b) (h : ∀ q, PR q → f q = g q) : any4 f b = any4 g b := by
  unfold any4
  rw [h _ ⟨hb.x0, hb.y0⟩, h _ ⟨hb.x1, hb.y0⟩, h _ ⟨hb.x0, hb.y1⟩, h _ ⟨hb.x1, hb.y1⟩]
def lineCl (b : B4) (a c : P2) (r : Int) : Int :=
  if all4 (fun q => lineI q a c r) b then 2 else
  if any4 (fun q => lineI q a c r) b || decide (nearI b a ≤ r * r) || decide (nearI b c ≤ r * r) || meetsI b a c then 1 else 0
theorem lineClass_lt {b : B4} {a c : P2} {r : Int} (h : r < 1) : lineClass b a c r = 0 := by unfold lineClass; rw [decide_eq_true h]; rfl
theorem lineHas_lt {p a c : P2} {r : Int} (h : r < 1) : lineHas p a c r = false := by unfold lineHas; rw [decide_eq_true h]; rfl
theorem lineClass_eq {b : B4} {a c : P2} {r : Int} (hb : BR b) (ha : PR a) (hc : PR c) (hx : b.x0 ≤ b.x1) (hy : b.y0 ≤ b.y1) (h1 : 1 ≤ r) (h2 : r ≤ 2147483648) : lineClass b a c r = lineCl b a c r := by
  unfold lineClass lineCl
  have hh : boxHas b ⟨b.x0, b.y0⟩ = true := (boxHas_eq _ _).2 ⟨by simp, hx, by simp, hy⟩
  rw [hh, decide_eq_false (show ¬ r < 1 by omega)]
  have e1 : all4 (fun p => lineHas p a c r) b = all4 (fun p => lineI p a c r) b := all4_congr hb fun q hq => lineHas_eq hq ha hc h1 h2
  have e2 : any4 (fun p => lineHas p a c r) b = any4 (fun p => lineI p a c r) b := any4_congr hb fun q hq => lineHas_eq hq ha hc h1 h2
  dsimp only
  rw [cnt4_all, cnt4_any, e1, e2, square_eq (by omega) h2, (near_eq hb ha).1, (near_eq hb hc).1, meets_eq hb ha hc hx hy]
  simp only [orB_eq, Bool.not_true, Bool.or_false, bif_f]
  cases all4 (fun p => lineI p a c r) b
  · cases (any4 (fun p => lineI p a c r) b || decide (nearI b a ≤ r * r) || decide (nearI b c ≤ r * r) || meetsI b a c) <;> rfl
  · rfl
theorem clamp_dist {b : B4} {p : P2} (hx : b.x0 ≤ b.x1) (hy : b.y0 ≤ b.y1) : distI p ⟨imin (imax p.x b.x0) b.x1, imin (imax p.y b.y0) b.y1⟩ = nearI b p := by
  have e : ∀ u lo hi : Int, lo ≤ hi → (u - min (max u lo) hi) * (u - min (max u lo) hi) = gapI u lo hi * gapI u lo hi := fun u lo hi h => by
    have : gapI u lo hi = u - min (max u lo) hi ∨ gapI u lo hi = -(u - min (max u lo) hi) := by unfold gapI; split <;> omega
    rcases this with h | h <;> rw [h]
    grind
  unfold distI nearI
  simp only [imin_eq, imax_eq]
  rw [e _ _ _ hx, e _ _ _ hy]
theorem rNear_eq2 {b : B4} {p : P2} (hb : BR b) (hp : PR p) (hx : b.x0 ≤ b.x1) (hy : b.y0 ≤ b.y1) : rNear b p = nearI b p := by
  obtain ⟨⟨a1, a2⟩, ⟨a3, a4⟩, ⟨a5, a6⟩, a7, a8⟩ := hb
  unfold rNear
  rw [(rDist_eq2 hp (q := ⟨imin (imax p.x b.x0) b.x1, imin (imax p.y b.y0) b.y1⟩) ⟨⟨by dsimp only; simp only [imin_eq, imax_eq]; omega, by dsimp only; simp only [imin_eq, imax_eq]; omega⟩, ⟨by dsimp only; simp only [imin_eq, imax_eq]; omega, by dsimp only; simp only [imin_eq, imax_eq]; omega⟩⟩).1, clamp_dist hx hy]
theorem rLine_eq {b : B4} {a c : P2} {r : Int} (hb : BR b) (ha : PR a) (hc : PR c) (hx : b.x0 ≤ b.x1) (hy : b.y0 ≤ b.y1) (h1 : 1 ≤ r) (h2 : r ≤ 2147483648) : rLine b a c r = lineCl b a c r := by
  unfold rLine lineCl
  rw [decide_eq_false (show ¬ r < 1 by omega), bif_f]
  have e1 : all4 (fun p => rLineHas p a c r) b = all4 (fun p => lineI p a c r) b := all4_congr hb fun q hq => rLineHas_eq hq ha hc h1 h2
  have e2 : any4 (fun p => rLineHas p a c r) b = any4 (fun p => lineI p a c r) b := any4_congr hb fun q hq => rLineHas_eq hq ha hc h1 h2
  dsimp only
  rw [cnt4_all, cnt4_any, e1, e2, (rsq (r := r) (by omega) h2).1, rNear_eq2 hb ha hx hy, rNear_eq2 hb hc hx hy, rMeets_eq hb ha hc]
  simp only [orB_eq]
  cases all4 (fun p => lineI p a c r) b <;> cases any4 (fun p => lineI p a c r) b <;> cases decide (nearI b a ≤ r * r) <;> cases decide (nearI b c ≤ r * r) <;> cases meetsI b a c <;> rfl

/-! ### corners say all of what is linear -/
def isC (b : B4) (c : P2) : Prop := (c.x = b.x0 ∨ c.x = b.x1) ∧ (c.y = b.y0 ∨ c.y = b.y1)
theorem all4_iff {f : P2 → Bool} {b : B4} : all4 f b = true ↔ ∀ c, isC b c → f c = true := by
  unfold all4
  simp only [Bool.and_eq_true]
  constructor
  · rintro ⟨⟨⟨h1, h2⟩, h3⟩, h4⟩ ⟨x, y⟩ ⟨hx, hy⟩
    dsimp only at hx hy
    rcases hx with rfl | rfl <;> rcases hy with rfl | rfl <;> assumption
  · intro h
    exact ⟨⟨⟨h _ ⟨.inl rfl, .inl rfl⟩, h _ ⟨.inr rfl, .inl rfl⟩⟩, h _ ⟨.inl rfl, .inr rfl⟩⟩, h _ ⟨.inr rfl, .inr rfl⟩⟩
theorem any4_iff {f : P2 → Bool} {b : B4} : any4 f b = true ↔ ∃ c, isC b c ∧ f c = true := by
  unfold any4
  simp only [Bool.or_eq_true]
  constructor
  · rintro (((h | h) | h) | h)
    · exact ⟨_, ⟨.inl rfl, .inl rfl⟩, h⟩
    · exact ⟨_, ⟨.inr rfl, .inl rfl⟩, h⟩
    · exact ⟨_, ⟨.inl rfl, .inr rfl⟩, h⟩
    · exact ⟨_, ⟨.inr rfl, .inr rfl⟩, h⟩
  · rintro ⟨⟨x, y⟩, ⟨hx, hy⟩, h⟩
    dsimp only at hx hy
    rcases hx with rfl | rfl <;> rcases hy with rfl | rfl <;> simp [h]
theorem isC_has {b : B4} {c : P2} (hx : b.x0 ≤ b.x1) (hy : b.y0 ≤ b.y1) (h : isC b c) : hasI b c := by
  obtain ⟨h1, h2⟩ := h
  exact ⟨by omega, by omega, by omega, by omega⟩
/-- some corner has at least so much of a linear form -/
theorem corner_ge {b : B4} {q : P2} (u v : Int) (h : hasI b q) : ∃ c, isC b c ∧ u * q.x + v * q.y ≤ u * c.x + v * c.y := by
  obtain ⟨h1, h2, h3, h4⟩ := h
  have one : ∀ u x lo hi : Int, lo ≤ x → x ≤ hi → u * x ≤ u * lo ∨ u * x ≤ u * hi := fun u x lo hi a c => by
    rcases Int.le_total 0 u with k | k
    · right; exact Int.mul_le_mul_of_nonneg_left c k
    · left
      have := Int.mul_nonneg (show 0 ≤ -u by omega) (show 0 ≤ x - lo by omega)
      have e : -u * (x - lo) = u * lo - u * x := by grind
      omega
  rcases one u q.x b.x0 b.x1 h1 h2 with k | k <;> rcases one v q.y b.y0 b.y1 h3 h4 with k' | k'
  · exact ⟨⟨b.x0, b.y0⟩, ⟨.inl rfl, .inl rfl⟩, by dsimp only; omega⟩
  · exact ⟨⟨b.x0, b.y1⟩, ⟨.inl rfl, .inr rfl⟩, by dsimp only; omega⟩
  · exact ⟨⟨b.x1, b.y0⟩, ⟨.inr rfl, .inl rfl⟩, by dsimp only; omega⟩
  · exact ⟨⟨b.x1, b.y1⟩, ⟨.inr rfl, .inr rfl⟩, by dsimp only; omega⟩
theorem cross_lin (a c p : P2) : crossI a c p = -(c.y - a.y) * p.x + (c.x - a.x) * p.y + ((c.y - a.y) * a.x - (c.x - a.x) * a.y) := by unfold crossI; grind
theorem dot_lin (a c p : P2) : dotI a c p = (c.x - a.x) * p.x + (c.y - a.y) * p.y - ((c.x - a.x) * a.x + (c.y - a.y) * a.y) := by unfold dotI; grind
theorem cross_ge {b : B4} {q : P2} (a c : P2) (h : hasI b q) : ∃ k, isC b k ∧ crossI a c q ≤ crossI a c k := by
  obtain ⟨k, hk, hl⟩ := corner_ge (-(c.y - a.y)) (c.x - a.x) h
  exact ⟨k, hk, by rw [cross_lin, cross_lin]; omega⟩
theorem cross_le {b : B4} {q : P2} (a c : P2) (h : hasI b q) : ∃ k, isC b k ∧ crossI a c k ≤ crossI a c q := by
  obtain ⟨k, hk, hl⟩ := corner_ge (c.y - a.y) (-(c.x - a.x)) h
  refine ⟨k, hk, ?_⟩
  rw [cross_lin, cross_lin a c q]
  have e1 : -(c.y - a.y) * q.x = -((c.y - a.y) * q.x) := by grind
  have e2 : -(c.x - a.x) * q.y = -((c.x - a.x) * q.y) := by grind
  have e3 : -(c.y - a.y) * k.x = -((c.y - a.y) * k.x) := by grind
  have e4 : -(c.x - a.x) * k.y = -((c.x - a.x) * k.y) := by grind
  rw [e1, e3]; rw [e2, e4] at hl; omega
theorem dot_ge {b : B4} {q : P2} (a c : P2) (h : hasI b q) : ∃ k, isC b k ∧ dotI a c q ≤ dotI a c k := by
  obtain ⟨k, hk, hl⟩ := corner_ge (c.x - a.x) (c.y - a.y) h
  exact ⟨k, hk, by rw [dot_lin, dot_lin]; omega⟩
theorem dot_le {b : B4} {q : P2} (a c : P2) (h : hasI b q) : ∃ k, isC b k ∧ dotI a c k ≤ dotI a c q := by
  obtain ⟨k, hk, hl⟩ := corner_ge (-(c.x - a.x)) (-(c.y - a.y)) h
  refine ⟨k, hk, ?_⟩
  rw [dot_lin, dot_lin a c q]
  have e1 : -(c.y - a.y) * q.y = -((c.y - a.y) * q.y) := by grind
  have e2 : -(c.x - a.x) * q.x = -((c.x - a.x) * q.x) := by grind
  have e3 : -(c.y - a.y) * k.y = -((c.y - a.y) * k.y) := by grind
  have e4 : -(c.x - a.x) * k.x = -((c.x - a.x) * k.x) := by grind
  rw [e1, e2, e3, e4] at hl; omega
/-- what is clear at the corners is clear within -/
theorem clear_in {b : B4} {q a c : P2} {r : Int} (h : hasI b q) (hk : ∀ k, isC b k → clear k a c r = true) : clear q a c r = true := by
  unfold clear at *
  simp only [decide_eq_true_eq] at *
  rcases Int.le_total 0 (crossI a c q) with s | s
  · obtain ⟨k, hc, hl⟩ := cross_ge a c h
    have := hk k hc
    have := sq_le (x := crossI a c q) (y := crossI a c k) (by omega) hl
    omega
  · obtain ⟨k, hc, hl⟩ := cross_le a c h
    have := hk k hc
    have t := sq_le (x := crossI a c q) (y := -crossI a c k) (by omega) (by omega)
    have e : -crossI a c k * -crossI a c k = crossI a c k * crossI a c k := by grind
    omega
/-- the product of lengths is told by both products -/
theorem lagrange (a c p : P2) : distI a c * distI p a = dotI a c p * dotI a c p + crossI a c p * crossI a c p := by
  unfold distI dotI crossI; grind
theorem lagrange2 (a c p : P2) : distI a c * distI p c = (dotI a c p - distI a c) * (dotI a c p - distI a c) + crossI a c p * crossI a c p := by
  unfold distI dotI crossI; grind
end Go.Proofs.Ythnenjodighlmaa

/-! ## Disc -/
namespace Go.Proofs.Ythnenjodighlmaa
open Go Go.RowKit Sym
set_option maxRecDepth 100000

theorem pt_BR {p : P2} (h : PR p) : BR ⟨p.x, p.y, p.x, p.y⟩ := ⟨h.x, h.y, h.x, h.y⟩
theorem discHas_eq {p c : P2} {r : Int} (hp : PR p) (hc : PR c) (h1 : 1 ≤ r) (h2 : r ≤ 2147483648) : discHas p c r = decide (distI p c ≤ r * r) := by
  unfold discHas
  rw [decide_eq_false (show ¬ r < 1 by omega), bif_f, (near_eq (pt_BR hc) hp).1, dist_near, square_eq (by omega) h2]
theorem discHas_no {p c : P2} {r : Int} (h : r < 1) : discHas p c r = false := by
  unfold discHas; rw [decide_eq_true h, bif_t]
theorem discClass_no {b : B4} {c : P2} {r : Int} (h : r < 1) : discClass b c r = 0 := by
  unfold discClass; rw [decide_eq_true h]; rfl
theorem discClass_eq {b : B4} {c : P2} {r : Int} (hb : BR b) (hc : PR c) (hx : b.x0 ≤ b.x1) (hy : b.y0 ≤ b.y1) (h1 : 1 ≤ r) (h2 : r ≤ 2147483648) :
    discClass b c r = if nearI b c > r * r then 0 else if mostI b c ≤ r * r then 2 else 1 := by
  unfold discClass
  have hh : boxHas b ⟨b.x0, b.y0⟩ = true := (boxHas_eq _ _).2 ⟨by simp, hx, by simp, hy⟩
  rw [decide_eq_false (show ¬ r < 1 by omega), hh, (near_eq hb hc).1, (most_eq hb hc).1, square_eq (by omega) h2]
  show (bif decide (nearI b c > r * r) then 0 else bif decide (mostI b c ≤ r * r) then 2 else 1) = _
  by_cases k : nearI b c > r * r
  · rw [decide_eq_true k, if_pos k]; rfl
  · rw [decide_eq_false k, if_neg k, bif_f]
    by_cases k' : mostI b c ≤ r * r
    · rw [decide_eq_true k', if_pos k']; rfl
    · rw [decide_eq_false k', if_neg k']; rfl

/-! ### the reference -/
theorem rDist_eq {p q : P2} (hp : PR p) (hq : PR q) : rDist p q = distI p q := by
  obtain ⟨⟨a, b⟩, c, d⟩ := hp; obtain ⟨⟨e, f⟩, g, h⟩ := hq
  unfold rDist distI
  rw [W_id (x := p.x - q.x) (by omega) (by omega), W_id (x := p.y - q.y) (by omega) (by omega)]
  have k := sq_bd (A := 2147483646) (x := p.x - q.x) (by omega) (by omega)
  have l := sq_bd (A := 2147483646) (x := p.y - q.y) (by omega) (by omega)
  have m : (2147483646 : Int) * 2147483646 = 4611686009837453316 := by decide
  rw [m] at k l
  rw [W_id (x := (p.x - q.x) * (p.x - q.x)) (by omega) (by omega), W_id (x := (p.y - q.y) * (p.y - q.y)) (by omega) (by omega), W_id (by omega) (by omega)]
theorem rNear_eq {b : B4} {p : P2} (hb : BR b) (hp : PR p) (hx : b.x0 ≤ b.x1) (hy : b.y0 ≤ b.y1) : rNear b p = nearI b p := by
  unfold rNear
  simp only [imin_eq, imax_eq]
  obtain ⟨⟨a1, a2⟩, ⟨a3, a4⟩, ⟨a5, a6⟩, a7, a8⟩ := hb
  have hq : PR ⟨min (max p.x b.x0) b.x1, min (max p.y b.y0) b.y1⟩ := ⟨⟨by dsimp only; omega, by dsimp only; omega⟩, ⟨by dsimp only; omega, by dsimp only; omega⟩⟩
  rw [rDist_eq hp hq]
  have e : ∀ u lo hi : Int, lo ≤ hi → (u - min (max u lo) hi) * (u - min (max u lo) hi) = gapI u lo hi * gapI u lo hi := fun u lo hi h => by
    have : gapI u lo hi = u - min (max u lo) hi ∨ gapI u lo hi = -(u - min (max u lo) hi) := by unfold gapI; split <;> omega
    rcases this with h | h <;> rw [h]
    grind
  unfold distI nearI
  dsimp only
  rw [e _ _ _ hx, e _ _ _ hy]
theorem rMost_eq {b : B4} {p : P2} (hb : BR b) (hp : PR p) (hx : b.x0 ≤ b.x1) (hy : b.y0 ≤ b.y1) : rMost b p = mostI b p := by
  unfold rMost
  rw [rDist_eq hp ⟨hb.x0, hb.y0⟩, rDist_eq hp ⟨hb.x1, hb.y0⟩, rDist_eq hp ⟨hb.x0, hb.y1⟩, rDist_eq hp ⟨hb.x1, hb.y1⟩]
  simp only [imax_eq]
  have e : ∀ u lo hi : Int, lo ≤ hi → reachI u lo hi * reachI u lo hi = max ((u - lo) * (u - lo)) ((u - hi) * (u - hi)) := fun u lo hi h => by
    have h5 : (reachI u lo hi = u - lo ∧ -(u - lo) ≤ u - hi ∧ u - hi ≤ u - lo) ∨ (reachI u lo hi = -(u - hi) ∧ u - hi ≤ u - lo ∧ u - lo ≤ -(u - hi)) := by unfold reachI; omega
    rcases h5 with ⟨h6, h7, h8⟩ | ⟨h6, h7, h8⟩
    · have := sq_le h7 h8
      rw [h6]; omega
    · have := sq_le (x := u - lo) (y := -(u - hi)) (by omega) h8
      have e : -(u - hi) * -(u - hi) = (u - hi) * (u - hi) := by grind
      rw [h6, e]; rw [e] at this; omega
  unfold distI mostI
  dsimp only
  rw [e _ _ _ hx, e _ _ _ hy]
  omega
theorem rDiscHas_eq {p c : P2} {r : Int} (hp : PR p) (hc : PR c) (h1 : 1 ≤ r) (h2 : r ≤ 2147483648) : rDiscHas p c r = decide (distI p c ≤ r * r) := by
  have a := sq_bd (A := 2147483648) (x := r) (by omega) h2
  unfold rDiscHas
  rw [decide_eq_true (show r ≥ 1 by omega), rDist_eq hp hc, W_id (by omega) (by omega)]; rfl
theorem rDisc_eq {b : B4} {c : P2} {r : Int} (hb : BR b) (hc : PR c) (hx : b.x0 ≤ b.x1) (hy : b.y0 ≤ b.y1) (h1 : 1 ≤ r) (h2 : r ≤ 2147483648) : rDisc b c r = discClass b c r := by
  have a := sq_bd (A := 2147483648) (x := r) (by omega) h2
  rw [discClass_eq hb hc hx hy h1 h2]
  unfold rDisc
  rw [decide_eq_false (show ¬ r < 1 by omega), rNear_eq hb hc hx hy, rMost_eq hb hc hx hy, W_id (by omega) (by omega)]
  show (bif decide (nearI b c > r * r) then 0 else bif decide (mostI b c ≤ r * r) then 2 else 1) = _
  by_cases k : nearI b c > r * r
  · rw [decide_eq_true k, if_pos k]; rfl
  · rw [decide_eq_false k, if_neg k, bif_f]
    by_cases k' : mostI b c ≤ r * r
    · rw [decide_eq_true k', if_pos k']; rfl
    · rw [decide_eq_false k', if_neg k']; rfl

/-! ### DiscFar -/
def sel4 (i a b c d : Int) : Int := bif decide (i = ((0 : Nat) : Int)) then a else bif decide (i = ((1 : Nat) : Int)) then b else bif decide (i = ((2 : Nat) : Int)) then c else d
def dfC (at_ : Int) : P2 := ⟨sel4 (band at_ 3) 536870912 (W (0 - 536870912)) 536870912 (W (0 - 536870912)), sel4 (band at_ 3) 536870912 536870912 (W (0 - 536870912)) (W (0 - 536870912))⟩
def dfR (less : Int) : Int := W (536870912 - (lR less).tmod 1000)
def discFar (p0 : P2) (at_ less : Int) : Bool :=
  let c := dfC at_
  let p := lPt p0
  let r := dfR less
  let d := W (W (W (p.x - c.x) * W (p.x - c.x)) + W (W (p.y - c.y) * W (p.y - c.y)))
  let k := discClass ⟨p.x, p.y, p.x, p.y⟩ c r
  andB (andB (andB (discHas p c r == decide (d ≤ W (r * r))) ((k == 2) == decide (d ≤ W (r * r)))) ((k == 0) == decide (d > W (r * r)))) true
theorem discFar_true (p0 : P2) (at_ less : Int) : discFar p0 at_ less = true := by
  have hp := lPt_R p0
  have hc : PR (dfC at_) := by
    have e : W (0 - 536870912) = -536870912 := by decide
    have s : ∀ i a b c d : Int, (a = 536870912 ∨ a = -536870912) → (b = 536870912 ∨ b = -536870912) → (c = 536870912 ∨ c = -536870912) → (d = 536870912 ∨ d = -536870912) → In30 (sel4 i a b c d) := by
      intro i a b c d h1 h2 h3 h4
      have t : ∀ q1 q2 q3 : Bool, In30 (bif q1 then a else bif q2 then b else bif q3 then c else d) := by
        intro q1 q2 q3
        unfold In30
        cases q1 <;> cases q2 <;> cases q3 <;> simp only [cond_true, cond_false] <;> omega
      exact t _ _ _
    unfold dfC; rw [e]
    exact ⟨s _ _ _ _ _ (.inl rfl) (.inr rfl) (.inl rfl) (.inr rfl), s _ _ _ _ _ (.inl rfl) (.inl rfl) (.inr rfl) (.inr rfl)⟩
  have hr : 1 ≤ dfR less ∧ dfR less ≤ 536870912 := by
    have a := lR_bd less
    have b := Int.tmod_nonneg (a := lR less) 1000 (by omega)
    have c := (tmod_bd (lR less) (n := 1000) (by decide)).2
    unfold dfR; rw [W_id (by omega) (by omega)]; omega
  have h2 := sq_bd (A := 536870912) (x := dfR less) (by omega) hr.2
  have ed : W (W (W ((lPt p0).x - (dfC at_).x) * W ((lPt p0).x - (dfC at_).x)) + W (W ((lPt p0).y - (dfC at_).y) * W ((lPt p0).y - (dfC at_).y))) = distI (lPt p0) (dfC at_) := rDist_eq hp hc
  unfold discFar
  dsimp only
  rw [ed, discHas_eq hp hc hr.1 (by omega), W_id (x := dfR less * dfR less) (by omega) (by omega), discClass_eq (pt_BR hp) hc (by simp) (by simp) hr.1 (by omega)]
  have e1 : nearI ⟨(lPt p0).x, (lPt p0).y, (lPt p0).x, (lPt p0).y⟩ (dfC at_) = distI (lPt p0) (dfC at_) := by rw [dist_near]; unfold distI; grind
  have e2 : mostI ⟨(lPt p0).x, (lPt p0).y, (lPt p0).x, (lPt p0).y⟩ (dfC at_) = distI (lPt p0) (dfC at_) := by rw [dist_most]; unfold distI; grind
  rw [e1, e2]
  generalize distI (lPt p0) (dfC at_) = D; generalize dfR less * dfR less = R
  by_cases k : D > R
  · have k' : ¬ D ≤ R := by omega
    simp [k, k', andB]
  · have k' : D ≤ R := by omega
    simp [k, k', andB]

/-! ### DiscTells -/
def discTells0 (b : B4) (c : P2) (r : Int) (p : P2) (k : Int) : Bool :=
  andB (andB (andB (discClass b c r == rDisc b c r) (discHas p c r == rDiscHas p c r)) (orB (decide (k ≥ 1)) (andB (discClass b c k == 0) (!(discHas p c k))))) true
def lSmR (r m : Int) : Int := W (r.tmod m + 1)
theorem lSmR_bd {r m : Int} (h : 0 ≤ r) (h0 : 0 < m) (h1 : m ≤ 100) : 1 ≤ lSmR r m ∧ lSmR r m ≤ m := by
  have a := Int.tmod_nonneg (a := r) m h
  have b := (tmod_bd r h0).2
  unfold lSmR; rw [W_id (by omega) (by omega)]; omega
def discTells (b : B4) (c : P2) (r : Int) (p : P2) (small : Bool) : Bool :=
  bif small then discTells0 (lSmall (lBox b)) (lClose (lPt c) 20) (lSmR (lR r) 25) (lClose (lPt p) 20) r else discTells0 (lBox b) (lPt c) (lR r) (lPt p) r
theorem close_R (p : P2) {n : Int} (h0 : 0 ≤ n) (h1 : n ≤ 1073741823) : PR (lClose p n) := by
  obtain ⟨⟨a, b⟩, c, d⟩ := lClose_r p h0 (by omega)
  exact ⟨⟨by omega, by omega⟩, ⟨by omega, by omega⟩⟩
theorem discTells0_true {b : B4} {c : P2} {r : Int} {p : P2} (k : Int) (hb : BR b) (hc : PR c) (hp : PR p) (hx : b.x0 ≤ b.x1) (hy : b.y0 ≤ b.y1) (h1 : 1 ≤ r) (h2 : r ≤ 2147483648) : discTells0 b c r p k = true := by
  unfold discTells0
  rw [rDisc_eq hb hc hx hy h1 h2, discHas_eq hp hc h1 h2, rDiscHas_eq hp hc h1 h2]
  by_cases hk : k ≥ 1
  · simp [hk, andB, orB]
  · rw [discClass_no (show k < 1 by omega), discHas_no (show k < 1 by omega)]
    simp [andB, orB]
theorem discTells_true (b : B4) (c : P2) (r : Int) (p : P2) (small : Bool) : discTells b c r p small = true := by
  have a := lR_bd r
  unfold discTells
  cases small
  · have h := lBox_r b
    exact discTells0_true r (lBox_R b) (lPt_R c) (lPt_R p) h.2.1 h.2.2.2.2.1 a.1 (by omega)
  · have h := lSmall_r (lBox b)
    have e := lSmR_bd (r := lR r) (m := 25) (by omega) (by decide) (by decide)
    exact discTells0_true r (lSmall_R _) (close_R _ (by decide) (by decide)) (close_R _ (by decide) (by decide)) h.2.2.1 h.2.2.2.2.2.2.1 e.1 (by omega)
theorem n21 : W (20 + 1) ≠ 0 := by decide
end Go.Proofs.Ythnenjodighlmaa

/-! ## Bas -/
namespace Go.Proofs.Ythnenjodighlmaa
open Go Go.RowKit Sym
set_option maxRecDepth 100000

def barTells0 (b : B4) (a c : P2) (h : Int) (p : P2) (k : Int) : Bool :=
  andB (andB (andB (andB (barClass b a c h == rBar b a c h) (barHas p a c h == rBarHas p a c h)) (orB (decide (k ≥ 1)) (andB (barClass b a c k == 0) (!(barHas p a c k))))) (barClass b a a h == 0)) true
def barTells (b : B4) (a c : P2) (h : Int) (p : P2) (small : Bool) : Bool :=
  bif small then barTells0 (lSmall (lBox b)) (lClose (lPt a) 20) (lClose (lPt c) 20) (lSmR (lR h) 12) (lClose (lPt p) 20) h else barTells0 (lBox b) (lPt a) (lPt c) (lR h) (lPt p) h
theorem barTells0_true {b : B4} {a c : P2} {h : Int} {p : P2} (k : Int) (hb : BR b) (ha : PR a) (hc : PR c) (hp : PR p) (hx : b.x0 ≤ b.x1) (hy : b.y0 ≤ b.y1) (h2 : h ≤ 2147483648) : barTells0 b a c h p k = true := by
  unfold barTells0
  rw [barClass_eq hb ha hc hx hy h2, rBar_eq hb ha hc h2, barHas_eq hp ha hc h2, rBarHas_eq hp ha hc h2, barClass_void (barVoid_same a h)]
  by_cases hk : k ≥ 1
  · simp [hk, andB, orB]
  · rw [barClass_void (barVoid_lt (show k < 1 by omega)), barHas_void (barVoid_lt (show k < 1 by omega))]
    simp [andB, orB]
theorem barTells_true (b : B4) (a c : P2) (h : Int) (p : P2) (small : Bool) : barTells b a c h p small = true := by
  have r := lR_bd h
  unfold barTells
  cases small
  · have h := lBox_r b
    exact barTells0_true _ (lBox_R b) (lPt_R a) (lPt_R c) (lPt_R p) h.2.1 h.2.2.2.2.1 (by omega)
  · have hs := lSmall_r (lBox b)
    have e := lSmR_bd (r := lR h) (m := 12) (by omega) (by decide) (by decide)
    exact barTells0_true _ (lSmall_R _) (close_R _ (by decide) (by decide)) (close_R _ (by decide) (by decide)) (close_R _ (by decide) (by decide)) hs.2.2.1 hs.2.2.2.2.2.2.1 (by omega)
theorem n10 : W (9 + 1) ≠ 0 := by decide
theorem n41 : W (40 + 1) ≠ 0 := by decide

/-! ### BarParts -/
def addP (a d : P2) : P2 := ⟨W (a.x + d.x), W (a.y + d.y)⟩
def addP2 (a d : P2) : P2 := ⟨W (a.x + W (2 * d.x)), W (a.y + W (2 * d.y))⟩
def lMore (more : Int) : Int := (lR more).tmod 9
def barParts (b0 : B4) (a0 d0 : P2) (h0 : Int) (p0 : P2) (more : Int) : Bool :=
  let b := lSmall b0
  let a := lClose a0 20
  let d := lClose d0 9
  let p := lClose p0 40
  let h := lSmR (lR h0) 12
  let c := addP a d
  let e := addP2 a d
  let w := W (h + lMore more)
  andB (andB (andB (barHas p a e h == orB (barHas p a c h) (barHas p c e h)) (orB (!(barHas p a c h)) (barHas p a c w))) (orB (barClass b a c h != 2) (barClass b a e w == 2))) true
theorem lMore_bd (more : Int) : 0 ≤ lMore more ∧ lMore more ≤ 8 := by
  have a := lR_bd more
  have m0 := Int.tmod_nonneg (a := lR more) 9 (by omega)
  have m1 := (tmod_bd (lR more) (n := 9) (by decide)).2
  unfold lMore; omega
theorem addP_eq {a d : P2} {n m : Int} (ha : (-n ≤ a.x ∧ a.x ≤ n) ∧ (-n ≤ a.y ∧ a.y ≤ n)) (hd : (-m ≤ d.x ∧ d.x ≤ m) ∧ (-m ≤ d.y ∧ d.y ≤ m)) (hn : n ≤ 100) (hm : m ≤ 100) :
    addP a d = ⟨a.x + d.x, a.y + d.y⟩ ∧ addP2 a d = ⟨a.x + 2 * d.x, a.y + 2 * d.y⟩ := by
  unfold addP addP2
  rw [W_id (x := a.x + d.x) (by omega) (by omega), W_id (x := a.y + d.y) (by omega) (by omega), W_id (x := 2 * d.x) (by omega) (by omega), W_id (x := 2 * d.y) (by omega) (by omega),
    W_id (x := a.x + 2 * d.x) (by omega) (by omega), W_id (x := a.y + 2 * d.y) (by omega) (by omega)]
  exact ⟨rfl, rfl⟩
theorem PR_of {p : P2} {n : Int} (h : (-n ≤ p.x ∧ p.x ≤ n) ∧ (-n ≤ p.y ∧ p.y ≤ n)) (hn : n ≤ 1073741823) : PR p := ⟨⟨by omega, by omega⟩, ⟨by omega, by omega⟩⟩
theorem same_add (a d : P2) : same a ⟨a.x + d.x, a.y + d.y⟩ ↔ same ⟨0, 0⟩ d := by unfold same; dsimp only; omega
theorem same_add2 (a d : P2) : same a ⟨a.x + 2 * d.x, a.y + 2 * d.y⟩ ↔ same ⟨0, 0⟩ d := by unfold same; dsimp only; omega
theorem same_add12 (a d : P2) : same ⟨a.x + d.x, a.y + d.y⟩ ⟨a.x + 2 * d.x, a.y + 2 * d.y⟩ ↔ same ⟨0, 0⟩ d := by unfold same; dsimp only; omega
/-- with the length doubled -/
theorem clear_add2 (p a d : P2) (h : Int) : clear p a ⟨a.x + 2 * d.x, a.y + 2 * d.y⟩ h = clear p a ⟨a.x + d.x, a.y + d.y⟩ h := by
  unfold clear crossI distI; dsimp only
  refine decide_eq_decide.2 ?_
  have e1 : ((a.x + 2 * d.x - a.x) * (p.y - a.y) - (a.y + 2 * d.y - a.y) * (p.x - a.x)) = 2 * (d.x * (p.y - a.y) - d.y * (p.x - a.x)) := by grind
  have e2 : ((a.x + d.x - a.x) * (p.y - a.y) - (a.y + d.y - a.y) * (p.x - a.x)) = d.x * (p.y - a.y) - d.y * (p.x - a.x) := by grind
  have e3 : (a.x - (a.x + 2 * d.x)) * (a.x - (a.x + 2 * d.x)) + (a.y - (a.y + 2 * d.y)) * (a.y - (a.y + 2 * d.y)) = 4 * (d.x * d.x + d.y * d.y) := by grind
  have e4 : (a.x - (a.x + d.x)) * (a.x - (a.x + d.x)) + (a.y - (a.y + d.y)) * (a.y - (a.y + d.y)) = d.x * d.x + d.y * d.y := by grind
  rw [e1, e2, e3, e4]
  generalize d.x * (p.y - a.y) - d.y * (p.x - a.x) = K
  generalize d.x * d.x + d.y * d.y = L
  have f1 : 2 * K * (2 * K) = 4 * (K * K) := by grind
  have f2 : h * h * (4 * L) = 4 * (h * h * L) := by grind
  rw [f1, f2]; omega
theorem clear_add12 (p a d : P2) (h : Int) : clear p ⟨a.x + d.x, a.y + d.y⟩ ⟨a.x + 2 * d.x, a.y + 2 * d.y⟩ h = clear p a ⟨a.x + d.x, a.y + d.y⟩ h := by
  unfold clear crossI distI; dsimp only
  refine decide_eq_decide.2 ?_
  have e1 : ((a.x + 2 * d.x - (a.x + d.x)) * (p.y - (a.y + d.y)) - (a.y + 2 * d.y - (a.y + d.y)) * (p.x - (a.x + d.x))) = d.x * (p.y - a.y) - d.y * (p.x - a.x) := by grind
  have e2 : ((a.x + d.x - a.x) * (p.y - a.y) - (a.y + d.y - a.y) * (p.x - a.x)) = d.x * (p.y - a.y) - d.y * (p.x - a.x) := by grind
  have e3 : (a.x + d.x - (a.x + 2 * d.x)) * (a.x + d.x - (a.x + 2 * d.x)) + (a.y + d.y - (a.y + 2 * d.y)) * (a.y + d.y - (a.y + 2 * d.y)) = d.x * d.x + d.y * d.y := by grind
  have e4 : (a.x - (a.x + d.x)) * (a.x - (a.x + d.x)) + (a.y - (a.y + d.y)) * (a.y - (a.y + d.y)) = d.x * d.x + d.y * d.y := by grind
  rw [e1, e2, e3, e4]
theorem dots (p a d : P2) : dotI a ⟨a.x + 2 * d.x, a.y + 2 * d.y⟩ p = 2 * dotI a ⟨a.x + d.x, a.y + d.y⟩ p
    ∧ distI a ⟨a.x + 2 * d.x, a.y + 2 * d.y⟩ = 4 * distI a ⟨a.x + d.x, a.y + d.y⟩
    ∧ dotI ⟨a.x + d.x, a.y + d.y⟩ ⟨a.x + 2 * d.x, a.y + 2 * d.y⟩ p = dotI a ⟨a.x + d.x, a.y + d.y⟩ p - distI a ⟨a.x + d.x, a.y + d.y⟩
    ∧ distI ⟨a.x + d.x, a.y + d.y⟩ ⟨a.x + 2 * d.x, a.y + 2 * d.y⟩ = distI a ⟨a.x + d.x, a.y + d.y⟩ := by
  unfold dotI distI; dsimp only
  refine ⟨?_, ?_, ?_, ?_⟩ <;> grind
/-- more width is no less -/
theorem clear_mono {p a c : P2} {h w : Int} (h0 : 0 ≤ h) (hw : h ≤ w) (k : clear p a c h = true) : clear p a c w = true := by
  unfold clear at *
  simp only [decide_eq_true_eq] at *
  have := sq_le (x := h) (y := w) (by omega) hw
  have := Int.mul_nonneg (show 0 ≤ w * w - h * h by omega) (dist_nn a c)
  have e : (w * w - h * h) * distI a c = w * w * distI a c - h * h * distI a c := by grind
  omega
theorem barI_mono {p a c : P2} {h w : Int} (h0 : 0 ≤ h) (hw : h ≤ w) (k : barI p a c h = true) : barI p a c w = true := by
  unfold barI at *
  simp only [Bool.and_eq_true, decide_eq_true_eq] at *
  exact ⟨⟨⟨⟨k.1.1.1.1, by omega⟩, clear_mono h0 hw k.1.1.2⟩, k.1.2⟩, k.2⟩
theorem bar_two (p a d : P2) (h : Int) : barI p a ⟨a.x + 2 * d.x, a.y + 2 * d.y⟩ h = (barI p a ⟨a.x + d.x, a.y + d.y⟩ h || barI p ⟨a.x + d.x, a.y + d.y⟩ ⟨a.x + 2 * d.x, a.y + 2 * d.y⟩ h) := by
  unfold barI
  rw [clear_add2, clear_add12, decide_eq_decide.2 (same_add2 a d), decide_eq_decide.2 (same_add a d), decide_eq_decide.2 (same_add12 a d)]
  obtain ⟨e1, e2, e3, e4⟩ := dots p a d
  rw [e1, e2, e3, e4]
  have n := dist_nn a ⟨a.x + d.x, a.y + d.y⟩
  generalize dotI a ⟨a.x + d.x, a.y + d.y⟩ p = t at *
  generalize distI a ⟨a.x + d.x, a.y + d.y⟩ = L at *
  generalize clear p a ⟨a.x + d.x, a.y + d.y⟩ h = k
  generalize decide (same ⟨0, 0⟩ d) = s
  generalize decide (1 ≤ h) = o
  have x : (decide (0 ≤ 2 * t) && decide (2 * t ≤ 4 * L)) = ((decide (0 ≤ t) && decide (t ≤ L)) || (decide (0 ≤ t - L) && decide (t - L ≤ L))) := by
    rw [← Bool.decide_and, ← Bool.decide_and, ← Bool.decide_and, ← Bool.decide_or]
    refine decide_eq_decide.2 ?_; omega
  cases s <;> cases o <;> cases k <;> simp_all
theorem barCl_two {b : B4} {a c : P2} {h : Int} : barCl b a c h = 2 ↔ (¬ (h < 1 ∨ same a c) ∧ all4 (fun q => barI q a c h) b = true) := by
  unfold barCl
  by_cases k : h < 1 ∨ same a c
  · rw [if_pos k]; simp [k]
  · rw [if_neg k]
    cases all4 (fun q => barI q a c h) b
    · simp [k]; split <;> decide
    · simp [k]
theorem barParts_true (b : B4) (a d : P2) (h : Int) (p : P2) (more : Int) : barParts b a d h p more = true := by
  have ha := lClose_r a (n := 20) (by decide) (by decide)
  have hd := lClose_r d (n := 9) (by decide) (by decide)
  have hp := PR_of (lClose_r p (n := 40) (by decide) (by decide)) (by decide)
  have hr := lR_bd h
  have hh := lSmR_bd (r := lR h) (m := 12) (by omega) (by decide) (by decide)
  have hm := lMore_bd more
  have hs := lSmall_r b
  have hB := lSmall_R b
  unfold barParts
  dsimp only
  rw [(addP_eq ha hd (by decide) (by decide)).1, (addP_eq ha hd (by decide) (by decide)).2]
  generalize lClose a 20 = A at *
  generalize lClose d 9 = D at *
  generalize lClose p 40 = Q at *
  generalize lSmR (lR h) 12 = H at *
  generalize lMore more = M at *
  generalize lSmall b = B at *
  have hA : PR A := PR_of ha (by decide)
  have hC : PR ⟨A.x + D.x, A.y + D.y⟩ := ⟨⟨by dsimp only; omega, by dsimp only; omega⟩, ⟨by dsimp only; omega, by dsimp only; omega⟩⟩
  have hE : PR ⟨A.x + 2 * D.x, A.y + 2 * D.y⟩ := ⟨⟨by dsimp only; omega, by dsimp only; omega⟩, ⟨by dsimp only; omega, by dsimp only; omega⟩⟩
  rw [W_id (x := H + M) (by omega) (by omega)]
  rw [barHas_eq hp hA hE (by omega), barHas_eq hp hA hC (by omega), barHas_eq hp hC hE (by omega), barHas_eq hp hA hC (h := H + M) (by omega),
    barClass_eq hB hA hC hs.2.2.1 hs.2.2.2.2.2.2.1 (by omega), barClass_eq hB hA hE hs.2.2.1 hs.2.2.2.2.2.2.1 (by omega), bar_two]
  have m1 : barI Q A ⟨A.x + D.x, A.y + D.y⟩ H = true → barI Q A ⟨A.x + D.x, A.y + D.y⟩ (H + M) = true := barI_mono (by omega) (by omega)
  have m2 : barCl B A ⟨A.x + D.x, A.y + D.y⟩ H = 2 → barCl B A ⟨A.x + 2 * D.x, A.y + 2 * D.y⟩ (H + M) = 2 := by
    rw [barCl_two, barCl_two]
    rintro ⟨k1, k2⟩
    refine ⟨?_, all4_mono hB (fun q hq k => ?_) k2⟩
    · rw [same_add2]; rw [same_add] at k1
      rintro (x | x)
      · exact k1 (Or.inl (by omega))
      · exact k1 (Or.inr x)
    · have := barI_mono (w := H + M) (by omega) (by omega) k
      rw [bar_two, this, Bool.true_or]
  simp only [andB_eq, orB_eq, Bool.and_true, beq_self_eq_true, Bool.true_and]
  have f1 : (!barI Q A ⟨A.x + D.x, A.y + D.y⟩ H || barI Q A ⟨A.x + D.x, A.y + D.y⟩ (H + M)) = true := by
    cases k : barI Q A ⟨A.x + D.x, A.y + D.y⟩ H
    · rfl
    · rw [m1 k]; rfl
  have f2 : (barCl B A ⟨A.x + D.x, A.y + D.y⟩ H != 2 || barCl B A ⟨A.x + 2 * D.x, A.y + 2 * D.y⟩ (H + M) == 2) = true := by
    by_cases k : barCl B A ⟨A.x + D.x, A.y + D.y⟩ H = 2
    · rw [m2 k]; simp
    · simp [k]
  rw [f1, f2]; rfl
end Go.Proofs.Ythnenjodighlmaa
