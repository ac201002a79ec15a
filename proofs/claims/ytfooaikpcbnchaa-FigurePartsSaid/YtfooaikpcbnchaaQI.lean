/-
  OWN WORK. Joined by merge.py: Tue Tuf Fir Tug Fpa.
-/
import Derived.Test.YtfooaikpcbnchaaQH
/-! ## Tue -/
namespace Go.Proofs.Ytfooaikpcbnchaa
open Go Go.RowKit Sym
set_option maxRecDepth 100000

def tbU : List Entry := (16, en2p dT dI (fun _ n => W (n + 1) ≠ 0) (fun t n => tn (tameT t n))) :: tbF
theorem tbU_ok : ∀ e ∈ tbU, EntryOk Try.prog e := List.forall_mem_cons.2 ⟨en2p_ok dT_eq dI_eq tameT_ok, tbF_ok⟩
noncomputable def tdY : List Dyn.EntryD := [(15, en0R (rB true)), (14, en2D (qAnd qS PdW) qI fun x d => rB (smallE x d)), (18, en3D (qAnd qS PdS) qB qI fun x q d => .val (dvS (tameE x q d))), (22, en2D (qAnd qS PdS) (qAnd qS PdW) fun x y => rB (sameE x y)), (20, en2D (qAnd qS PdS) qT fun x t => .tup [dvS (moveE x t), dvB (movesE x t)])]
def drY (K : Nat) : Bool := Nat.beq K 20 || Nat.beq K 18
noncomputable def tabY : Dyn.Tabs := Dyn.tabs tbU tdY drY dtyS
theorem tabY_ok : Dyn.TabsOk Try.prog tabY := Dyn.tabs_ok tbU_ok (List.forall_mem_cons.2 ⟨en0R_ok awake11_ok, List.forall_mem_cons.2 ⟨en2D_ok (qAnd_ok qS_ok) qI_ok fun x d h _ => small_all x h.1 d, List.forall_mem_cons.2 ⟨en3D_ok (qAnd_ok qS_ok) qB_ok qI_ok fun x q d h _ _ => tame_all x h.1 q d, List.forall_mem_cons.2 ⟨en2D_ok (qAnd_ok qS_ok) (qAnd_ok qS_ok) fun x y h h2 => same_all x h.1 y h2.1, List.forall_mem_cons.2 ⟨en2D_ok (qAnd_ok qS_ok) qT_ok fun x t h _ => move_ok x h.1 t, fun _ h => by cases h⟩⟩⟩⟩⟩)
def an (a b : Bool) : Bool := bif a then b else false
def m6 : Int := 1000000
noncomputable def thC (t u v : Tn) (p : P2) (S : Sh) (k : Nat) : Bool :=
  let w := thenF t u
  let q : Tn := ⟨false, false, t.q, ⟨0, 0⟩⟩
  let m : Tn := ⟨t.mx, t.my, 0, ⟨0, 0⟩⟩
  let c4 := an (an (an (an (eqP (turnPtF (turnPtF p t) u) (turnPtF p w)) (eqT (thenF w v) (thenF t (thenF u v)))) (movesE S t)) (movesE (moveE S t) u)) (movesE S w)
  match k with
  | 4 => c4
  | _ =>
    let c6 := an (an c4 (sameE (moveE (moveE S t) u) (moveE S w))) (movesE S noT)
    match k with
    | 6 => c6
    | _ => an (an (an (an (an (an (an c6 (sameE (moveE S noT) S)) (eqT (thenF (thenF q q) (thenF q q)) noT)) (eqT (thenF m m) noT)) (!w.my)) (decide (w.q ≥ 0))) (decide (w.q ≤ 3))) true
noncomputable def thO0 (t u v : Tn) (p : P2) (s S : Sh) : Dyn.RO :=
  .side [W (1000000 + 1) ≠ 0, W (1000000 + 1) ≠ 0, W (1000000 + 1) ≠ 0, W (1000000 + 1) ≠ 0, PdS s, ctrSelf s.l]
    (.side [PdS S, ctrSelf S.l] (.side [PdS (moveE S t), ctrSelf (moveE S t).l] (.side [PdS S, ctrSelf S.l] (.side [PdS S, ctrSelf S.l]
      (.side [some (thC t u v p S 4) = some true ∧ True → allP [PdS (moveE (moveE S t) u), ctrSelf (moveE (moveE S t) u).l, PdW (moveE S (thenF t u)), ctrSelf (moveE S (thenF t u)).l],
              some (thC t u v p S 6) = some true ∧ True → allP [PdS (moveE S noT), ctrSelf (moveE S noT).l, PdW S, ctrSelf S.l]]
        (.leaf (rB (thC t u v p S 7))))))))
noncomputable def thO (t u v : Tn) (p : P2) (s : Sh) : Dyn.RO :=
  .side [PdW s, ctrSelf s.l] (.ite (!(smallE s 0)) (.leaf (rB true)) (thO0 (tameT t 1000000) (tameT u 1000000) (tameT v 1000000) (lClose p 1000000) s (tameE s true 0)))
theorem th_O (t u v : Tn) (p : P2) (s : Sh) : (Dyn.dfun Try.prog tabY Dyn.noLp 3 Try.f3 [dvT t, dvT u, dvT v, dvP p, dvS s]).ro Try.prog Try.f3.results = thO t u v p s := by kernel_rfl
theorem thC_true {t u v : Tn} {p : P2} {σ : Shp} (hp : PB 1000000 p) (ht : PB 1000000 t.u) (hu : PB 1000000 u.u) (hv : PB 1000000 v.u) (f : Fine (PB 40) σ 0) : thC t u v p (toSh σ) 7 = true := by
  have a := move_fine f ht (by decide) (by decide) (by decide)
  have b := move_fine a.2.2 hu (by decide) (by decide) (by decide)
  have w : PB 2000000 (thenF t u).u := turn_PB (B := 1000000) (C := 1000000) ht hu (by decide) (by decide)
  have c := move_fine f w (by decide) (by decide) (by decide)
  have e := move_fine (t := noT) (C := 0) f ⟨⟨by decide, by decide⟩, ⟨by decide, by decide⟩⟩ (by decide) (by decide) (by decide)
  have hq := quF_Q4 (W ((bif plX u then W (0 - plQ t) else plQ t) + plQ u))
  have q1 : decide ((thenF t u).q ≥ 0) = true := decide_eq_true (by show quF (W ((bif plX u then W (0 - plQ t) else plQ t) + plQ u)) ≥ 0; unfold Q4 at hq; omega)
  have q2 : decide ((thenF t u).q ≤ 3) = true := decide_eq_true (by show quF (W ((bif plX u then W (0 - plQ t) else plQ t) + plQ u)) ≤ 3; unfold Q4 at hq; omega)
  unfold thC
  dsimp only
  rw [turn_then hp ht hu (by decide) (by decide) (by decide) (by decide), show eqP (turnPtF p (thenF t u)) (turnPtF p (thenF t u)) = true from eqP_iff.2 rfl,
    then_assoc (C := 1000000) (by decide) (by decide) ht hu hv, eqT_refl, a.1, a.2.1, b.1, b.2.1, c.1, c.2.1, e.1, e.2.1, same_toSh, same_toSh, same_then ht hu (by decide) (by decide) (by decide) (by decide) σ 0 f,
    same_none (by decide) σ 0 f, four_none, twice_none, eqT_refl, q1, q2]
  rfl
theorem then_ok' (t u v : Tn) (p : P2) (s : Sh) (hs : PdW s) : Dyn.CallD Try.prog 3 [dvT t, dvT u, dvT v, dvP p, dvS s] (rB true) := by
  refine Dyn.dcontract (lp := Dyn.noLp) (fuel := 3) tabY_ok mo Try.func3 (by kernel_rfl) (c := bodyD Try.f3.body) (by kernel_rfl) (fun w0 => Dyn.noLp_ok _ w0) (by kernel_rfl) (th_O t u v p s) ?_
  refine ⟨⟨hs, ctrSelf_ok _, trivial⟩, fun h => ro_leaf rfl, fun h => ?_⟩
  have hB : ShB (ofSh s) := small_B _ 0 (by simpa [smallE] using h)
  have hS : PdS s := ⟨hB, hs.2⟩
  have ht := tameT_PB t (n := 1000000) (by decide) (by decide)
  have hu := tameT_PB u (n := 1000000) (by decide) (by decide)
  have hv := tameT_PB v (n := 1000000) (by decide) (by decide)
  have hp : PB 1000000 (lClose p 1000000) := lClose_r p (by decide) (by decide)
  have f : Fine (PB 40) (tameS (ofSh s) true 0) 0 := tame_fine true (ofSh s) 0 hB (by decide) (by decide)
  have pT : PdS (tameE s true 0) := PdS_mk (fine_B _ 0 f (by decide))
  unfold thO0
  refine ⟨⟨by decide, by decide, by decide, by decide, hS, ctrSelf_ok _, trivial⟩, ⟨pT, ctrSelf_ok _, trivial⟩, ⟨moveE_PdS pT _, ctrSelf_ok _, trivial⟩, ⟨pT, ctrSelf_ok _, trivial⟩, ⟨pT, ctrSelf_ok _, trivial⟩,
    ⟨fun _ => ⟨moveE_PdS (moveE_PdS pT _) _, ctrSelf_ok _, PdS_W (moveE_PdS pT _), ctrSelf_ok _, trivial⟩, fun _ => ⟨moveE_PdS pT _, ctrSelf_ok _, PdS_W pT, ctrSelf_ok _, trivial⟩, trivial⟩, ?_⟩
  rw [show tameE s true 0 = toSh (tameS (ofSh s) true 0) from rfl, thC_true hp ht hu hv f]
  exact ro_leaf rfl
theorem turnThen_ok (t u v : Tn) (p : P2) (s : Shp) (hs : ShW s) : Dyn.CallD Try.prog 3 [dvT t, dvT u, dvT v, dvP p, dvS (toSh s)] (rB true) := then_ok' t u v p (toSh s) (PdW_mk hs)
end Go.Proofs.Ytfooaikpcbnchaa

/-! ## Tuf -/
namespace Go.Proofs.Ytfooaikpcbnchaa
open Go Go.RowKit Sym
set_option maxRecDepth 100000

/-- a form of two, as the program writes it -/
def formS (add : Bool) (S U : Sh) : Sh := ⟨6, ze, ze, ze, 0, zeL, 2, Dyn.pickL 0 [partC true S, partC add U]⟩
noncomputable def tdZ : List Dyn.EntryD := (25, en1D (qAnd qS PdS) fun x => .tup [dvX (figBnd x).1, dvB (figBnd x).2]) :: tdY
noncomputable def tabZ : Dyn.Tabs := Dyn.tabs tbU tdZ drY dtyS
theorem tabZ_ok : Dyn.TabsOk Try.prog tabZ := Dyn.tabs_ok tbU_ok (List.forall_mem_cons.2 ⟨en1D_ok (qAnd_ok qS_ok) fun x h => figBnd_ok x h.1, List.forall_mem_cons.2 ⟨en0R_ok awake11_ok, List.forall_mem_cons.2 ⟨en2D_ok (qAnd_ok qS_ok) qI_ok fun x d h _ => small_all x h.1 d, List.forall_mem_cons.2 ⟨en3D_ok (qAnd_ok qS_ok) qB_ok qI_ok fun x q d h _ _ => tame_all x h.1 q d, List.forall_mem_cons.2 ⟨en2D_ok (qAnd_ok qS_ok) (qAnd_ok qS_ok) fun x y h h2 => same_all x h.1 y h2.1, List.forall_mem_cons.2 ⟨en2D_ok (qAnd_ok qS_ok) qT_ok fun x t h _ => move_ok x h.1 t, fun _ h => by cases h⟩⟩⟩⟩⟩⟩)
noncomputable def frV (F Z : Sh) (t : Tn) : Bool :=
  let p := (figBnd F).1
  let q := (figBnd Z).1
  let w := W (p.x1 - p.x0)
  let h := W (p.y1 - p.y0)
  bif bif (figBnd F).2 == (figBnd Z).2 then bif !(figBnd F).2 then true else bif W (q.x1 - q.x0) == (bif band t.q 1 == 1 then h else w) then W (q.y1 - q.y0) == (bif band t.q 1 == 1 then w else h) else false else false then true else false
noncomputable def frR (F Z : Sh) (t : Tn) : Dyn.RO := .side [PdS F, ctrIs 0 noF] (.side [PdS Z, ctrSelf Z.l] (.leaf (rB (frV F Z t))))
noncomputable def frO1 (s u S U F : Sh) (t : Tn) (add : Bool) : Dyn.RO :=
  let G := bif bif !(movesE S t) then true else !(movesE U t) then true else !(movesE F t)
  let Z := moveE F t
  let F' := formS add (moveE S t) (moveE U t)
  .side [PdS s, ctrSelf s.l, PdS u, ctrSelf u.l, W (1000000 + 1) ≠ 0] (.side [PdS S, ctrSelf S.l] (.side [PdS U, ctrSelf U.l] (.side [PdS F, ctrIs 0 noF]
    (.ite G (.side [G = true] (.ite true (.leaf (rB false)) (frR F Z t)))
      (.side [G = false, PdS Z, ctrSelf Z.l, PdW F', ctrIs 0 noF] (.ite (!(sameE Z F')) (.leaf (rB false)) (frR F Z t)))))))
noncomputable def frO (s u : Sh) (t : Tn) (add : Bool) : Dyn.RO :=
  .side [PdW s, ctrSelf s.l, some (!(smallE s 0)) = some false ∧ True → allP [PdW u, ctrSelf u.l]]
    (.ite (bif !(smallE s 0) then true else !(smallE u 0)) (.leaf (rB true)) (frO1 s u (tameE s true 2) (tameE u true 2) (formS add (tameE s true 2) (tameE u true 2)) (tameT t 1000000) add))
theorem fr_O (s u : Sh) (t : Tn) (add : Bool) : (Dyn.dfun Try.prog tabZ Dyn.noLp 3 Try.f5 [dvS s, dvS u, dvT t, dvB add]).ro Try.prog Try.f5.results = frO s u t add := by kernel_rfl
end Go.Proofs.Ytfooaikpcbnchaa

/-! ## Fir -/
namespace Go.Proofs.Ytfooaikpcbnchaa
open Go Go.RowKit Sym
set_option maxRecDepth 100000

/-- a box mirrored, turned by k quarters, moved -/
def rtB (m : Bool) (k : Int) (u : P2) (b : B4) : B4 :=
  let xl := bif m then -b.x1 else b.x0
  let xh := bif m then -b.x0 else b.x1
  ⟨(bif k == 1 then -b.y1 else bif k == 2 then -xh else bif k == 3 then b.y0 else xl) + u.x, (bif k == 1 then xl else bif k == 2 then -b.y1 else bif k == 3 then -xh else b.y0) + u.y,
   (bif k == 1 then -b.y0 else bif k == 2 then -xl else bif k == 3 then b.y1 else xh) + u.x, (bif k == 1 then xh else bif k == 2 then -b.y0 else bif k == 3 then -xl else b.y1) + u.y⟩
theorem B4x {a b : B4} (h0 : a.x0 = b.x0) (h1 : a.y0 = b.y0) (h2 : a.x1 = b.x1) (h3 : a.y1 = b.y1) : a = b := by
  obtain ⟨a0, a1, a2, a3⟩ := a
  obtain ⟨b0, b1, b2, b3⟩ := b
  cases h0; cases h1; cases h2; cases h3; rfl
def aroI (p q : P2) (r : Int) : B4 := ⟨imin p.x q.x - r, imin p.y q.y - r, imax p.x q.x + r, imax p.y q.y + r⟩
theorem aro_eq {p q : P2} {r : Int} (hp : PB 100000000 p) (hq : PB 100000000 q) (h0 : 0 ≤ r) (h1 : r ≤ 1000) : aroundF p q r = aroI p q r := by
  obtain ⟨⟨p1, p2⟩, p3, p4⟩ := hp
  obtain ⟨⟨q1, q2⟩, q3, q4⟩ := hq
  unfold aroundF aroI
  have e1 : -100000000 ≤ imin p.x q.x ∧ imin p.x q.x ≤ 100000000 := by unfold imin; split <;> omega
  have e2 : -100000000 ≤ imin p.y q.y ∧ imin p.y q.y ≤ 100000000 := by unfold imin; split <;> omega
  have e3 : -100000000 ≤ imax p.x q.x ∧ imax p.x q.x ≤ 100000000 := by unfold imax; split <;> omega
  have e4 : -100000000 ≤ imax p.y q.y ∧ imax p.y q.y ≤ 100000000 := by unfold imax; split <;> omega
  generalize imin p.x q.x = a at *
  generalize imin p.y q.y = b at *
  generalize imax p.x q.x = c at *
  generalize imax p.y q.y = d at *
  rw [W_id (x := a - r) (by omega) (by omega), W_id (x := b - r) (by omega) (by omega), W_id (x := c + r) (by omega) (by omega), W_id (x := d + r) (by omega) (by omega)]
  refine B4x ?_ ?_ ?_ ?_ <;> dsimp only
  · unfold imax; split <;> omega
  · unfold imax; split <;> omega
  · unfold imin; split <;> omega
  · unfold imin; split <;> omega
theorem aro_rt (m : Bool) {k : Int} (hk : Q4 k) (u p q : P2) (r : Int) : aroI ⟨(rt m k p).x + u.x, (rt m k p).y + u.y⟩ ⟨(rt m k q).x + u.x, (rt m k q).y + u.y⟩ r = rtB m k u (aroI p q r) := by
  unfold aroI rtB rt imin imax
  rcases hk with rfl | rfl | rfl | rfl <;> cases m <;> refine B4x ?_ ?_ ?_ ?_ <;> simp <;> (repeat' split) <;> omega
theorem tk_rt (m : Bool) {k : Int} (hk : Q4 k) (u : P2) (a b : B4) : tkF true (rtB m k u a) (rtB m k u b) = rtB m k u (tkF true a b) := by
  unfold tkF rtB imin imax
  rcases hk with rfl | rfl | rfl | rfl <;> cases m <;> refine B4x ?_ ?_ ?_ ?_ <;> simp <;> (repeat' split) <;> omega
/-- two running boxes, the second turned -/
def RB (m : Bool) (k : Int) (u : P2) (q q' : Bool × B4) : Prop := q'.1 = q.1 ∧ (q.1 = true → q'.2 = rtB m k u q.2)
theorem RB_tk {m : Bool} {k : Int} (hk : Q4 k) {u : P2} {q q' : Bool × B4} (h : RB m k u q q') (b : B4) : RB m k u (true, tkF q.1 q.2 b) (true, tkF q'.1 q'.2 (rtB m k u b)) := by
  obtain ⟨f, a⟩ := q
  obtain ⟨f', a'⟩ := q'
  obtain ⟨h1, h2⟩ := h
  dsimp only at h1 h2
  subst h1
  refine ⟨rfl, fun _ => ?_⟩
  dsimp only
  cases f'
  · rfl
  · rw [h2 rfl, tk_rt m hk]
theorem foldN_RB {m : Bool} {k : Int} {u : P2} {g g' : Nat → Bool × B4 → Bool × B4} {a a' : Bool × B4} (h0 : RB m k u a a') : ∀ n, (∀ i q q', i < n → RB m k u q q' → RB m k u (g i q) (g' i q')) → RB m k u (foldN g a n) (foldN g' a' n)
  | 0, _ => h0
  | n + 1, h => h n _ _ (by omega) (foldN_RB h0 n fun i q q' hi => h i q q' (by omega))
/-- no radius above 15 -/
def Thin : Shp → Prop
  | .nil => True
  | .mk _ _ _ _ r _ n _ sub => r ≤ 15 ∧ ∀ i, i < n → Thin (sub i)
theorem tame_thin : ∀ (s : Shp) (d : Int), Thin (tameS s true d) := by
  intro s
  induction s with
  | nil => intro d; trivial
  | mk k a b c r l n add sub ih =>
    intro d
    have kr : tmR ⟨k, a, b, c, r, l, n, noF⟩ true ≤ 15 := by
      have h := lR_bd r
      have h1 := Int.tmod_nonneg (a := lR r) 15 (by omega)
      have h2 := (tmod_bd (lR r) (n := 15) (by decide)).2
      show W ((lR r).tmod 15 + 1) ≤ 15
      rw [W_id (by omega) (by omega)]; omega
    have z : ∀ i, i < 0 → Thin ((fun _ => Shp.nil) i) := fun i hi => absurd hi (Nat.not_lt_zero i)
    simp only [tameS]
    generalize tmKk ⟨k, a, b, c, r, l, n, noF⟩ d = K
    cases K == 1
    · cases (bif K == 3 then K == 3 else K == 4)
      · cases K == 5
        · cases K == 2
          · exact ⟨by decide, fun i hi => ih i _⟩
          · exact ⟨by decide, z⟩
        · exact ⟨kr, z⟩
      · exact ⟨kr, z⟩
    · exact ⟨kr, z⟩
theorem wid_pos {r : Int} (h : widF r = true) : 1 ≤ r := by
  unfold widF at h
  rw [andB_eq, Bool.and_eq_true, decide_eq_true_eq, decide_eq_true_eq] at h
  omega
/-- the radius of a ring's bounds -/
theorem bdR_eq {s : Sh} {B : Int} (hB : B ≤ 100000000) (ha : PB B s.a) (hc : PB B s.c) : bdR s = W (s.r + rupF (distI s.a s.c)) := by
  have dx : W (s.a.x - s.c.x) = s.a.x - s.c.x := W_id (by have := ha.1; have := hc.1; omega) (by have := ha.1; have := hc.1; omega)
  have dy : W (s.a.y - s.c.y) = s.a.y - s.c.y := W_id (by have := ha.2; have := hc.2; omega) (by have := ha.2; have := hc.2; omega)
  have sx := sq_bd (A := 200000000) (x := s.a.x - s.c.x) (by have := ha.1; have := hc.1; omega) (by have := ha.1; have := hc.1; omega)
  have sy := sq_bd (A := 200000000) (x := s.a.y - s.c.y) (by have := ha.2; have := hc.2; omega) (by have := ha.2; have := hc.2; omega)
  unfold bdR distI
  rw [dx, dy, W_id (x := (s.a.x - s.c.x) * (s.a.x - s.c.x)) (by omega) (by omega), W_id (x := (s.a.y - s.c.y) * (s.a.y - s.c.y)) (by omega) (by omega), W_id (x := (s.a.x - s.c.x) * (s.a.x - s.c.x) + (s.a.y - s.c.y) * (s.a.y - s.c.y)) (by omega) (by omega)]
theorem aro_turn {t : Tn} {p q : P2} {r : Int} (hu : PB 1000000 t.u) (hp : PB 40 p) (hq : PB 40 q) (h0 : 0 ≤ r) (h1 : r ≤ 1000) : aroundF (turnPtF p t) (turnPtF q t) r = rtB (plX t) (plQ t) t.u (aroundF p q r) := by
  have a := turn_PB hp hu (by decide) (by decide)
  have b := turn_PB hq hu (by decide) (by decide)
  rw [aro_eq (PB_mono a (by decide)) (PB_mono b (by decide)) h0 h1, aro_eq (PB_mono hp (by decide)) (PB_mono hq (by decide)) h0 h1, turnPt_rt (PB_mono hp (by decide)) (PB_mono hu (by decide)), turnPt_rt (PB_mono hq (by decide)) (PB_mono hu (by decide)), aro_rt _ (plQ_Q4 t)]
theorem dist_80 {p q : P2} (hp : PB 40 p) (hq : PB 40 q) : distI p q ≤ 114 * 114 := by
  have sx := sq_bd (A := 80) (x := p.x - q.x) (by have := hp.1; have := hq.1; omega) (by have := hp.1; have := hq.1; omega)
  have sy := sq_bd (A := 80) (x := p.y - q.y) (by have := hp.2; have := hq.2; omega) (by have := hp.2; have := hq.2; omega)
  unfold distI; omega
def BT (t : Tn) (v v' : B4 × Bool) : Prop := v'.2 = v.2 ∧ (v.2 = true → v'.1 = rtB (plX t) (plQ t) t.u v.1)
theorem bnd_turn {t : Tn} (hu : PB 1000000 t.u) : ∀ (s : Shp) (d : Int), Fine (PB 40) s d → Thin s → BT t (bndF s) (bndF (turnS s t)) := by
  intro s
  induction s with
  | nil => intro d h; exact h.elim
  | mk k a b' c r l n add sub ih =>
    intro d h th
    have hr15 := th.1
    rcases h with ⟨rfl, rfl, rfl, rfl, rfl, ha, hr⟩ | ⟨rfl, rfl, rfl, rfl, ha, hb, hr⟩ | ⟨rfl, rfl, rfl, rfl, ha, hb, hr, hn⟩ | ⟨rfl, rfl, rfl, ha, hb, hc, hr, ho⟩ | ⟨rfl, rfl, rfl, rfl, rfl, rfl, hc⟩ | ⟨rfl, rfl, rfl, rfl, rfl, rfl, h5, hm, hs⟩
    · have := wid_pos hr
      exact ⟨rfl, fun _ => aro_turn hu ha ha (by omega) (by omega)⟩
    · have := wid_pos hr
      exact ⟨rfl, fun _ => aro_turn hu ha hb (by omega) (by omega)⟩
    · have := wid_pos hr
      exact ⟨rfl, fun _ => aro_turn hu ha hb (by omega) (by omega)⟩
    · have r1 := wid_pos hr
      refine ⟨rfl, fun _ => ?_⟩
      have rt0 := rupF_le (v := distI a c) (M := 114) (by decide) (by decide) (dist_80 ha hc)
      have ta := turn_PB ha hu (by decide) (by decide)
      have tb := turn_PB hb hu (by decide) (by decide)
      have tc := turn_PB hc hu (by decide) (by decide)
      have eW : W (r + rupF (distI a c)) = r + rupF (distI a c) := W_id (by omega) (by omega)
      have e1 : bdR ⟨5, a, b', c, r, zeC, 0, noF⟩ = r + rupF (distI a c) := by rw [bdR_eq (B := 40) (by decide) ha hc]; exact eW
      have e2 : bdR ⟨5, bif t.mx != t.my then turnPtF b' t else turnPtF a t, bif t.mx != t.my then turnPtF a t else turnPtF b' t, turnPtF c t, r, zeC, 0, noF⟩ = r + rupF (distI a c) := by
        cases t.mx != t.my
        · rw [bdR_eq (B := 40 + 1000000) (by decide) ta tc]
          show W (r + rupF (distI (turnPtF a t) (turnPtF c t))) = _
          rw [turn_dist ha hc hu (by decide) (by decide)]; exact eW
        · rw [bdR_eq (B := 40 + 1000000) (by decide) tb tc]
          show W (r + rupF (distI (turnPtF b' t) (turnPtF c t))) = _
          rw [turn_dist hb hc hu (by decide) (by decide), ← ho.2]; exact eW
      show aroundF (turnPtF c t) (turnPtF c t) (bdR ⟨5, bif t.mx != t.my then turnPtF b' t else turnPtF a t, bif t.mx != t.my then turnPtF a t else turnPtF b' t, turnPtF c t, r, zeC, 0, noF⟩) = rtB (plX t) (plQ t) t.u (aroundF c c (bdR ⟨5, a, b', c, r, zeC, 0, noF⟩))
      rw [e1, e2]
      exact aro_turn hu hc hc (by omega) (by omega)
    · have key : RB (plX t) (plQ t) t.u (foldN (bdO l) bdQ l.n) (foldN (bdO (turnC l t)) bdQ l.n) :=
        foldN_RB ⟨rfl, fun h => by cases h⟩ l.n fun i q q' hi hq => foldN_RB hq (l.m i) fun k q q' hk hq => by
          have hp := (hc.2 i hi).2 k hk
          show RB _ _ _ (true, tkF q.1 q.2 (aroundF (l.p i k) (l.p i k) 0)) (true, tkF q'.1 q'.2 (aroundF (turnPtF (l.p i k) t) (turnPtF (l.p i k) t) 0))
          rw [aro_turn hu hp hp (by decide) (by decide)]
          exact RB_tk (plQ_Q4 t) hq _
      exact key
    · have key : RB (plX t) (plQ t) t.u (foldN (fun i q => bif !(add i) then q else bif (bndF (sub i)).2 then (true, tkF q.1 q.2 (bndF (sub i)).1) else q) bdQ n) (foldN (fun i q => bif !(add i) then q else bif (bndF (turnS (sub i) t)).2 then (true, tkF q.1 q.2 (bndF (turnS (sub i) t)).1) else q) bdQ n) :=
        foldN_RB ⟨rfl, fun h => by cases h⟩ n fun i q q' hi hq => by
          have z := ih i (d + 1) (hs i hi) (th.2 i hi)
          cases add i
          · exact hq
          · show RB _ _ _ (bif (bndF (sub i)).2 then (true, tkF q.1 q.2 (bndF (sub i)).1) else q) (bif (bndF (turnS (sub i) t)).2 then (true, tkF q'.1 q'.2 (bndF (turnS (sub i) t)).1) else q')
            rw [z.1]
            cases e : (bndF (sub i)).2
            · exact hq
            · rw [z.2 e]
              exact RB_tk (plQ_Q4 t) hq _
      exact key
end Go.Proofs.Ytfooaikpcbnchaa

/-! ## Tug -/
namespace Go.Proofs.Ytfooaikpcbnchaa
open Go Go.RowKit Sym
set_option maxRecDepth 100000

theorem zeL_eq : zeL = zeC := rfl
def formP (add : Bool) (σ υ : Shp) : Shp := .mk 6 ze ze ze 0 zeL 2 (fun i => bif Nat.beq i 0 then true else add) (fun i => bif Nat.beq i 0 then σ else υ)
theorem form_le (add : Bool) (σ υ : Shp) : SLe (formS add (toSh σ) (toSh υ)) (toSh (formP add σ υ)) := ⟨rfl, rfl, rfl, rfl, rfl, rfl, rfl, fun i hi => by
  have hi : i < 2 := hi
  match i, hi with
  | 0, _ => rfl
  | 1, _ => rfl⟩
theorem form_B {add : Bool} {σ υ : Shp} (h : ShB σ) (k : ShB υ) : ShB (formP add σ υ) := ⟨CtrB_zeL, by decide, fun i hi => by
  match i, hi with
  | 0, _ => exact h
  | 1, _ => exact k⟩
theorem form_PdS {add : Bool} {σ υ : Shp} (h : ShB σ) (k : ShB υ) : PdS (formS add (toSh σ) (toSh υ)) := PdS_le (form_B h k) (form_le add σ υ)
theorem partC_inj {a b : Bool} {s t : Shp} (h : partC a (toSh s) = partC b (toSh t)) : a = b ∧ s = t := by
  have h1 := (List.cons.inj h).1
  have h2 := (List.cons.inj h).2
  refine ⟨?_, toSh_inj _ _ (cS_inj h2)⟩
  have h1 : cB a = cB b := h1
  simp only [cB, Dyn.DC.p.injEq, Value.bool.injEq] at h1
  exact h1
theorem form_of {add : Bool} {σ υ : Shp} (h : ShB σ) (k : ShB υ) : ∃ add' sub', ofSh (formS add (toSh σ) (toSh υ)) = .mk 6 ze ze ze 0 zeC 2 add' sub' ∧ (add' 0 = true ∧ sub' 0 = σ) ∧ (add' 1 = add ∧ sub' 1 = υ) := by
  obtain ⟨add', sub', e, hf⟩ := PdS_of (form_PdS (add := add) h k)
  refine ⟨add', sub', e, ?_, ?_⟩
  · have q : partC true (toSh σ) = partC (add' 0) (toSh (sub' 0)) := hf 0 (by show 0 < 2; decide)
    have z := partC_inj q
    exact ⟨z.1.symm, z.2.symm⟩
  · have q : partC add (toSh υ) = partC (add' 1) (toSh (sub' 1)) := hf 1 (by show 1 < 2; decide)
    have z := partC_inj q
    exact ⟨z.1.symm, z.2.symm⟩
theorem okE_d {P : P2 → Prop} (hP : ∀ p, P p → nearF p = true) {x : Sh} {d : Int} (h : Fine P (ofSh x) d) (h0 : 0 ≤ d) : okE x = true := by
  have n := Nd_one d
  exact (fine_valid hP (ofSh x) d 0 1000 h h0 (by decide) h0 (by omega) (by decide)).1
theorem move_d {B C : Int} {x : Sh} {t : Tn} {d : Int} (h : Fine (PB B) (ofSh x) d) (h0 : 0 ≤ d) (g : PB C t.u) (b : B ≤ 536870912) (c : B + C ≤ 536870912) (c' : C ≤ 1000000000000) : movesE x t = true ∧ moveE x t = toSh (turnS (ofSh x) t) ∧ Fine (PB (B + C)) (turnS (ofSh x) t) d ∧ okE (toSh (turnS (ofSh x) t)) = true ∧ okE x = true := by
  have f := turn_fine g (by omega) c' (ofSh x) d h
  have e1 : okE x = true := okE_d (fun p hp => PB_near b hp) h h0
  have e2 : okE (toSh (turnS (ofSh x) t)) = true := okE_d (fun p hp => PB_near c hp) (by rw [ofSh_toSh]; exact f) h0
  have e3 : turnE x t = toSh (turnS (ofSh x) t) := rfl
  refine ⟨?_, ?_, f, e2, e1⟩
  · unfold movesE; rw [e1, e3, e2]; rfl
  · unfold moveE; rw [e1, e3, e2]; rfl
theorem same_refl : ∀ s : Shp, ShB s → sameF s s = true := by
  intro s
  induction s with
  | nil => intro h; exact h.elim
  | mk k a b c r l n add sub ih => intro h; exact same_mk (spt_refl l) fun i hi => ⟨rfl, ih i (h.2.2 i hi)⟩
theorem odd_eq (t : Tn) : (band t.q 1 == 1) = (plQ t == 1 || plQ t == 3) := by
  have e1 : ∀ x : Int, band x 1 = ((BitVec.ofInt 64 x).toNat % 2 : Nat) := fun x => by
    unfold band
    have : (BitVec.ofInt 64 x &&& BitVec.ofInt 64 1).toNat = (BitVec.ofInt 64 x).toNat % 2 := by
      rw [BitVec.toNat_and, show (BitVec.ofInt 64 1).toNat = 2 ^ 1 - 1 from rfl, Nat.and_two_pow_sub_one_eq_mod]
    rw [this, W_id (by omega) (by omega)]
  have e3 : ∀ x : Int, band x 3 = ((BitVec.ofInt 64 x).toNat % 4 : Nat) := fun x => by
    unfold band
    have : (BitVec.ofInt 64 x &&& BitVec.ofInt 64 3).toNat = (BitVec.ofInt 64 x).toNat % 4 := by
      rw [BitVec.toNat_and, show (BitVec.ofInt 64 3).toNat = 2 ^ 2 - 1 from rfl, Nat.and_two_pow_sub_one_eq_mod]
    rw [this, W_id (by omega) (by omega)]
  have p : band t.q 1 = quF t.q % 2 := by unfold quF; rw [e1, e3]; omega
  rw [p]
  unfold plQ
  have hq := quF_Q4 t.q
  generalize quF t.q = κ at *
  rcases hq with rfl | rfl | rfl | rfl <;> cases t.my <;> decide +kernel
theorem frV_true {F Z : Sh} {t : Tn} (h : BT t (figBnd F) (figBnd Z)) : frV F Z t = true := by
  unfold frV
  dsimp only
  rw [h.1]
  cases e : (figBnd F).2
  · rfl
  · rw [h.2 e, odd_eq]
    generalize (figBnd F).1 = b
    unfold rtB
    dsimp only
    rcases plQ_Q4 t with q | q | q | q <;> rw [q] <;> cases plX t <;> simp <;> (refine ⟨?_, ?_⟩ <;> (apply congrArg W; omega))
theorem forms_ok' (s u : Sh) (hs : PdW s) (hu : PdW u) (t : Tn) (add : Bool) : Dyn.CallD Try.prog 5 [dvS s, dvS u, dvT t, dvB add] (rB true) := by
  refine Dyn.dcontract (lp := Dyn.noLp) (fuel := 3) tabZ_ok mo Try.func5 (by kernel_rfl) (c := bodyD Try.f5.body) (by kernel_rfl) (fun w0 => Dyn.noLp_ok _ w0) (by kernel_rfl) (fr_O s u t add) ?_
  refine ⟨⟨hs, ctrSelf_ok _, fun _ => ⟨hu, ctrSelf_ok _, trivial⟩, trivial⟩, fun h => ro_leaf rfl, fun h => ?_⟩
  have h1 : smallE s 0 = true := by cases e : smallE s 0 <;> simp [e] at h ⊢
  have h2 : smallE u 0 = true := by cases e : smallE u 0 <;> simp [e, h1] at h ⊢
  have bS : ShB (ofSh s) := small_B _ 0 h1
  have bU : ShB (ofSh u) := small_B _ 0 h2
  have pT := tameT_PB t (n := 1000000) (by decide) (by decide)
  have fS : Fine (PB 40) (tameS (ofSh s) true 2) 2 := tame_fine true (ofSh s) 2 bS (by decide) (by decide)
  have fU : Fine (PB 40) (tameS (ofSh u) true 2) 2 := tame_fine true (ofSh u) 2 bU (by decide) (by decide)
  have nS := tame_thin (ofSh s) 2
  have nU := tame_thin (ofSh u) 2
  show (frO1 s u (toSh (tameS (ofSh s) true 2)) (toSh (tameS (ofSh u) true 2)) (formS add (toSh (tameS (ofSh s) true 2)) (toSh (tameS (ofSh u) true 2))) (tameT t 1000000) add).sat _
  revert pT fS fU nS nU
  generalize tameS (ofSh s) true 2 = σ
  generalize tameS (ofSh u) true 2 = υ
  generalize tameT t 1000000 = t'
  intro pT fS fU nS nU
  have BS := fine_B σ 2 fS (by decide)
  have BU := fine_B υ 2 fU (by decide)
  obtain ⟨add', sub', eo, ⟨x0, x1⟩, ⟨x2, x3⟩⟩ := form_of (add := add) BS BU
  have fF : Fine (PB 40) (ofSh (formS add (toSh σ) (toSh υ))) 1 := by
    rw [eo]
    refine .inr (.inr (.inr (.inr (.inr ⟨rfl, rfl, rfl, rfl, rfl, rfl, by decide, .inl (by decide), fun i hi => ?_⟩))))
    match i, hi with
    | 0, _ => rw [x1]; exact fS
    | 1, _ => rw [x3]; exact fU
  have nF : Thin (ofSh (formS add (toSh σ) (toSh υ))) := by
    rw [eo]
    refine ⟨by decide, fun i hi => ?_⟩
    match i, hi with
    | 0, _ => rw [x1]; exact nS
    | 1, _ => rw [x3]; exact nU
  have mS := move_d (x := toSh σ) (t := t') (C := 1000000) (by rw [ofSh_toSh]; exact fS) (by decide) pT (by decide) (by decide) (by decide)
  have mU := move_d (x := toSh υ) (t := t') (C := 1000000) (by rw [ofSh_toSh]; exact fU) (by decide) pT (by decide) (by decide) (by decide)
  have mF := move_d (x := formS add (toSh σ) (toSh υ)) (t := t') (C := 1000000) fF (by decide) pT (by decide) (by decide) (by decide)
  rw [ofSh_toSh] at mS mU
  have pF : PdS (formS add (toSh σ) (toSh υ)) := form_PdS BS BU
  have pZ : PdS (moveE (formS add (toSh σ) (toSh υ)) t') := moveE_PdS pF _
  have tS := turnS_B σ BS t'
  have tU := turnS_B υ BU t'
  have val : frV (formS add (toSh σ) (toSh υ)) (moveE (formS add (toSh σ) (toSh υ)) t') t' = true := by
    refine frV_true ?_
    have k := bnd_turn pT _ 1 fF nF
    unfold figBnd
    rw [mF.2.2.2.2, mF.2.1, mF.2.2.2.1, bndE_eq]
    exact k
  have same : sameE (moveE (formS add (toSh σ) (toSh υ)) t') (formS add (moveE (toSh σ) t') (moveE (toSh υ) t')) = true := by
    rw [mS.2.1, mU.2.1, mF.2.1]
    obtain ⟨add2, sub2, eo2, ⟨y0, y1⟩, ⟨y2, y3⟩⟩ := form_of (add := add) tS tU
    unfold sameE
    rw [ofSh_toSh, eo2, eo]
    show sameF (.mk 6 ze ze ze 0 zeC 2 add' (fun i => turnS (sub' i) t')) _ = true
    refine same_mk (spt_refl zeC) fun i hi => ?_
    match i, hi with
    | 0, _ => exact ⟨x0.trans y0.symm, by rw [x1, y1]; exact same_refl _ tS⟩
    | 1, _ => exact ⟨x2.trans y2.symm, by rw [x3, y3]; exact same_refl _ tU⟩
  have rest : (frR (formS add (toSh σ) (toSh υ)) (moveE (formS add (toSh σ) (toSh υ)) t') t').sat fun r => Dyn.RVLe r (rB true) := ⟨⟨pF, lit_Is, trivial⟩, ⟨pZ, ctrSelf_ok _, trivial⟩, by rw [val]; exact ro_leaf rfl⟩
  unfold frO1
  dsimp only
  rw [mS.1, mU.1, mF.1]
  refine ⟨⟨⟨bS, hs.2⟩, ctrSelf_ok _, ⟨bU, hu.2⟩, ctrSelf_ok _, by decide, trivial⟩, ⟨PdS_mk BS, ctrSelf_ok _, trivial⟩, ⟨PdS_mk BU, ctrSelf_ok _, trivial⟩, ⟨pF, lit_Is, trivial⟩, fun h => (by cases h), fun _ => ⟨⟨rfl, pZ, ctrSelf_ok _, ?_, lit_Is, trivial⟩, fun h => ?_, fun _ => rest⟩⟩
  · rw [mS.2.1, mU.2.1]; exact PdS_W (form_PdS tS tU)
  · rw [same] at h; cases h
theorem turnForms_ok (s : Shp) (hs : ShW s) (u : Shp) (hu : ShW u) (t : Tn) (add : Bool) : Dyn.CallD Try.prog 5 [dvS (toSh s), dvS (toSh u), dvT t, dvB add] (rB true) := forms_ok' _ _ (PdW_mk hs) (PdW_mk hu) t add
end Go.Proofs.Ytfooaikpcbnchaa

/-! ## Fpa -/
namespace Go.Proofs.Ytfooaikpcbnchaa
open Go Go.RowKit Sym
set_option maxRecDepth 100000

def form1 (add : Bool) (S : Sh) : Sh := ⟨6, ze, ze, ze, 0, zeL, 1, Dyn.pickL 0 [partC add S]⟩
def form2 (a1 a2 : Bool) (S U : Sh) : Sh := ⟨6, ze, ze, ze, 0, zeL, 2, Dyn.pickL 0 [partC a1 S, partC a2 U]⟩
noncomputable def fpC (S T : Sh) (b : B4) (p : P2) (n : Nat) : Bool :=
  let x := figHasE S p
  let y := figHasE T p
  let k := figClassE S b
  let j := figClassE T b
  let v1 := figHasE (form1 true S) p == x
  let v2 := an3 v1 (figClassE (form1 true S) b == k)
  let v3 := an3 v2 (figHasE (form2 true true S T) p == (bif x then true else y))
  let v4 := an3 v3 (figClassE (form2 true true S T) b == imax k j)
  let v5 := an3 v4 (figHasE (form2 true false S T) p == (bif x then !y else false))
  let v6 := an3 v5 (figClassE (form2 true false S T) b == imin k (W (2 - j)))
  let v7 := an3 v6 (!(figHasE (form1 false S) p))
  match n with
  | 1 => v1
  | 2 => v2
  | 3 => v3
  | 4 => v4
  | 5 => v5
  | 6 => v6
  | 7 => v7
  | _ => an3 (an3 v7 (figClassE (form1 false S) b == 0)) true
noncomputable def fpO0 (s t S T : Sh) (b : B4) (p : P2) : Dyn.RO :=
  .side [PdS s, ctrSelf s.l, PdS t, ctrSelf t.l, W (30 + 1) ≠ 0] (.side [PdS S, ctrSelf S.l, PdS T, ctrSelf T.l] (.side [PdS S, ctrSelf S.l, PdS T, ctrSelf T.l]
    (.side [PdS (form1 true S), ctrIs 0 noF, some (fpC S T b p 1) = some true ∧ True → allP [PdS (form1 true S), ctrIs 0 noF], some (fpC S T b p 2) = some true ∧ True → allP [PdS (form2 true true S T), ctrIs 0 noF],
      some (fpC S T b p 3) = some true ∧ True → allP [PdS (form2 true true S T), ctrIs 0 noF], some (fpC S T b p 4) = some true ∧ True → allP [PdS (form2 true false S T), ctrIs 0 noF], some (fpC S T b p 5) = some true ∧ True → allP [PdS (form2 true false S T), ctrIs 0 noF],
      some (fpC S T b p 6) = some true ∧ True → allP [PdS (form1 false S), ctrIs 0 noF], some (fpC S T b p 7) = some true ∧ True → allP [PdS (form1 false S), ctrIs 0 noF]] (.leaf (rB (fpC S T b p 8))))))
noncomputable def fpO (s t : Sh) (b : B4) (p : P2) : Dyn.RO :=
  .side [PdW s, ctrSelf s.l, some (!(smallE s 0)) = some false ∧ True → allP [PdW t, ctrSelf t.l]]
    (.ite (bif !(smallE s 0) then true else !(smallE t 0)) (.leaf (rB true)) (fpO0 s t (tameE s true 2) (tameE t true 2) (lSmall b) (lClose p 30)))
theorem fp_O (s t : Sh) (b : B4) (p : P2) : (Dyn.dfun Try.prog tabFs Dyn.noLp 3 Try.f8 [dvS s, dvS t, dvX b, dvP p]).ro Try.prog Try.f8.results = fpO s t b p := by kernel_rfl
theorem pick1_B {add : Bool} {σ : Shp} (h : ShB σ) : PdS (form1 add (toSh σ)) := PdS_le (s := .mk 6 ze ze ze 0 zeL 1 (fun _ => add) (fun _ => σ)) ⟨CtrB_zeL, by decide, fun i hi => h⟩ ⟨rfl, rfl, rfl, rfl, rfl, rfl, rfl, fun i hi => by
  have hi : i < 1 := hi
  obtain rfl : i = 0 := by omega
  rfl⟩
theorem one_of {add : Bool} {σ : Shp} (h : ShB σ) : ∃ add' sub', ofSh (form1 add (toSh σ)) = .mk 6 ze ze ze 0 zeC 1 add' sub' ∧ add' 0 = add ∧ sub' 0 = σ := by
  obtain ⟨add', sub', e, hf⟩ := PdS_of (pick1_B (add := add) h)
  have q : partC add (toSh σ) = partC (add' 0) (toSh (sub' 0)) := hf 0 (by show 0 < 1; decide)
  have z := partC_inj q
  exact ⟨add', sub', e, z.1.symm, z.2.symm⟩
theorem one_has {add : Bool} {σ : Shp} (h : ShB σ) (p : P2) (b : B4) : hasE (form1 add (toSh σ)) p = (bif hasF σ p then add else false) ∧ classE (form1 add (toSh σ)) b = foldF 0 (classF σ b) add := by
  obtain ⟨add', sub', e, e1, e2⟩ := one_of (add := add) h
  unfold hasE classE
  rw [e]
  subst e1; subst e2
  refine ⟨?_, rfl⟩
  show (runN (fun t (_ : Bool) => bif hasF (sub' (1 - 1 - t)) p then (false, add' (1 - 1 - t)) else (true, false)) false 1).2 = _
  rw [has_fold (fun i => hasF (sub' i) p) add' 1]
  rfl
theorem two_has {a : Bool} {σ υ : Shp} (h : ShB σ) (k : ShB υ) (p : P2) (b : B4) : hasE (form2 true a (toSh σ) (toSh υ)) p = (bif hasF υ p then a else bif hasF σ p then true else false) ∧ classE (form2 true a (toSh σ) (toSh υ)) b = foldF (foldF 0 (classF σ b) true) (classF υ b) a := by
  obtain ⟨add', sub', e, ⟨e0, e1⟩, ⟨e2, e3⟩⟩ := form_of (add := a) h k
  have e : ofSh (form2 true a (toSh σ) (toSh υ)) = .mk 6 ze ze ze 0 zeC 2 add' sub' := e
  unfold hasE classE
  rw [e]
  refine ⟨?_, ?_⟩
  · show (runN (fun t (_ : Bool) => bif hasF (sub' (2 - 1 - t)) p then (false, add' (2 - 1 - t)) else (true, false)) false 2).2 = _
    rw [has_fold (fun i => hasF (sub' i) p) add' 2]
    show (bif hasF (sub' 1) p then add' 1 else bif hasF (sub' 0) p then add' 0 else false) = _
    rw [e0, e1, e2, e3]
  · show foldF (foldF 0 (classF (sub' 0) b) (add' 0)) (classF (sub' 1) b) (add' 1) = _
    rw [e0, e1, e2, e3]
theorem fold_law {k j : Int} (hk : 0 ≤ k ∧ k ≤ 2) (hj : 0 ≤ j ∧ j ≤ 2) : foldF 0 k true = k ∧ foldF 0 k false = 0 ∧ foldF (foldF 0 k true) j true = imax k j ∧ foldF (foldF 0 k true) j false = imin k (W (2 - j)) := by
  have a : k = 0 ∨ k = 1 ∨ k = 2 := by omega
  have b : j = 0 ∨ j = 1 ∨ j = 2 := by omega
  rcases a with rfl | rfl | rfl <;> rcases b with rfl | rfl | rfl <;> decide +kernel
theorem one_ok {P : P2 → Prop} (hP : ∀ p, P p → nearF p = true) {add : Bool} {σ : Shp} (f : Fine P σ 2) : okE (form1 add (toSh σ)) = true := by
  obtain ⟨add', sub', e, e1, e2⟩ := one_of (add := add) (fine_B σ 2 f (by decide))
  refine okE_d (d := 1) hP ?_ (by decide)
  rw [e]
  refine .inr (.inr (.inr (.inr (.inr ⟨rfl, rfl, rfl, rfl, rfl, rfl, by decide, .inr (by decide), fun i hi => ?_⟩))))
  obtain rfl : i = 0 := by omega
  rw [e2]; exact f
theorem two_ok {P : P2 → Prop} (hP : ∀ p, P p → nearF p = true) {a : Bool} {σ υ : Shp} (f : Fine P σ 2) (g : Fine P υ 2) : okE (form2 true a (toSh σ) (toSh υ)) = true := by
  obtain ⟨add', sub', e, ⟨e0, e1⟩, ⟨e2, e3⟩⟩ := form_of (add := a) (fine_B σ 2 f (by decide)) (fine_B υ 2 g (by decide))
  have e : ofSh (form2 true a (toSh σ) (toSh υ)) = .mk 6 ze ze ze 0 zeC 2 add' sub' := e
  refine okE_d (d := 1) hP ?_ (by decide)
  rw [e]
  refine .inr (.inr (.inr (.inr (.inr ⟨rfl, rfl, rfl, rfl, rfl, rfl, by decide, .inl (by decide), fun i hi => ?_⟩))))
  match i, hi with
  | 0, _ => rw [e1]; exact f
  | 1, _ => rw [e3]; exact g
theorem fpC_true {P : P2 → Prop} (hP : ∀ p, P p → nearF p = true) {σ υ : Shp} (f : Fine P σ 2) (g : Fine P υ 2) (b : B4) (p : P2) (hk : 0 ≤ classF σ b ∧ classF σ b ≤ 2) (hj : 0 ≤ classF υ b ∧ classF υ b ≤ 2) : fpC (toSh σ) (toSh υ) b p 8 = true := by
  have B1 := fine_B σ 2 f (by decide)
  have B2 := fine_B υ 2 g (by decide)
  have o1 : okE (toSh σ) = true := okE_d (d := 2) hP (by rw [ofSh_toSh]; exact f) (by decide)
  have o2 : okE (toSh υ) = true := okE_d (d := 2) hP (by rw [ofSh_toSh]; exact g) (by decide)
  have L := fold_law hk hj
  unfold fpC figHasE figClassE
  dsimp only
  rw [o1, o2, one_ok hP f, one_ok hP f, two_ok hP f g, two_ok hP f g, (one_has B1 p b).1, (one_has B1 p b).2, (one_has B1 p b).1, (one_has B1 p b).2, (two_has B1 B2 p b).1, (two_has B1 B2 p b).2, (two_has B1 B2 p b).1, (two_has B1 B2 p b).2, hasE_eq, hasE_eq, classE_eq, classE_eq, L.2.2.1, L.2.2.2, L.1, L.2.1]
  unfold an3
  cases hasF σ p <;> cases hasF υ p <;> simp
theorem figParts_ok' (ha : Awake10) (s t : Sh) (hs : PdW s) (ht : PdW t) (b : B4) (p : P2) : Dyn.CallD Try.prog 8 [dvS s, dvS t, dvX b, dvP p] (rB true) := by
  refine Dyn.dcontract (lp := Dyn.noLp) (fuel := 3) (tabFs_ok ha) mo Try.func8 (by kernel_rfl) (c := bodyD Try.f8.body) (by kernel_rfl) (fun w0 => Dyn.noLp_ok _ w0) (by kernel_rfl) (fp_O s t b p) ?_
  refine ⟨⟨hs, ctrSelf_ok _, fun _ => ⟨ht, ctrSelf_ok _, trivial⟩, trivial⟩, fun h => ro_leaf rfl, fun h => ?_⟩
  have h1 : smallE s 0 = true := by cases e : smallE s 0 <;> simp [e] at h ⊢
  have h2 : smallE t 0 = true := by cases e : smallE t 0 <;> simp [e, h1] at h ⊢
  have bS : ShB (ofSh s) := small_B _ 0 h1
  have bT : ShB (ofSh t) := small_B _ 0 h2
  have f : Fine (PB (tmX true)) (tameS (ofSh s) true 2) 2 := tame_fine true (ofSh s) 2 bS (by decide) (by decide)
  have g : Fine (PB (tmX true)) (tameS (ofSh t) true 2) 2 := tame_fine true (ofSh t) 2 bT (by decide) (by decide)
  have hb := lSmall_r b
  have cs := shape_sure true (lSmall_R b) (b := lSmall b) ⟨by omega, by omega, by omega, by omega, by omega, by omega⟩ (by omega) (by omega) 0 0
  have B1 := fine_B _ 2 f (by decide)
  have B2 := fine_B _ 2 g (by decide)
  have c1 := cs (ofSh s) 2
  have c2 := cs (ofSh t) 2
  have val := fpC_true (fun p hp => PB_near (tmX_le true) hp) f g (lSmall b) (lClose p 30) ⟨c1.lo, c1.hi⟩ ⟨c2.lo, c2.hi⟩
  have pS : PdS (tameE s true 2) := PdS_mk B1
  have pT : PdS (tameE t true 2) := PdS_mk B2
  have p1 : ∀ a, PdS (form1 a (tameE s true 2)) := fun a => pick1_B B1
  have p2 : ∀ a, PdS (form2 true a (tameE s true 2) (tameE t true 2)) := fun a => form_PdS (add := a) B1 B2
  refine ⟨⟨⟨bS, hs.2⟩, ctrSelf_ok _, ⟨bT, ht.2⟩, ctrSelf_ok _, by decide, trivial⟩, ⟨pS, ctrSelf_ok _, pT, ctrSelf_ok _, trivial⟩, ⟨pS, ctrSelf_ok _, pT, ctrSelf_ok _, trivial⟩,
    ⟨p1 _, lit_Is, fun _ => ⟨p1 _, lit_Is, trivial⟩, fun _ => ⟨p2 _, lit_Is, trivial⟩, fun _ => ⟨p2 _, lit_Is, trivial⟩, fun _ => ⟨p2 _, lit_Is, trivial⟩, fun _ => ⟨p2 _, lit_Is, trivial⟩, fun _ => ⟨p1 _, lit_Is, trivial⟩, fun _ => ⟨p1 _, lit_Is, trivial⟩, trivial⟩, ?_⟩
  rw [show tameE s true 2 = toSh (tameS (ofSh s) true 2) from rfl, show tameE t true 2 = toSh (tameS (ofSh t) true 2) from rfl, val]
  exact ro_leaf rfl
end Go.Proofs.Ytfooaikpcbnchaa
