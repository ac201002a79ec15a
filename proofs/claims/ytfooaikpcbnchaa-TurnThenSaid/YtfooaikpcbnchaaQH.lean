/-
  OWN WORK. Joined by merge.py: Fiq Tue.
-/
import Derived.Test.YtfooaikpcbnchaaQG
/-! ## Fiq -/
namespace Go.Proofs.Ytfooaikpcbnchaa
open Go Go.RowKit Sym
set_option maxRecDepth 100000

theorem PB_mono {X Y : Int} {q : P2} (h : PB X q) (k : X ≤ Y) : PB Y q := ⟨⟨by have := h.1; omega, by have := h.1; omega⟩, ⟨by have := h.2; omega, by have := h.2; omega⟩⟩
theorem PB_add {B C : Int} {m : Bool} {k : Int} {p u : P2} (h : PB B p) (g : PB C u) : PB (B + C) ⟨(rt m k p).x + u.x, (rt m k p).y + u.y⟩ := by
  obtain ⟨⟨a1, a2⟩, a3, a4⟩ := rt_PB m k h
  obtain ⟨⟨c1, c2⟩, c3, c4⟩ := g
  exact ⟨⟨by dsimp only; omega, by dsimp only; omega⟩, ⟨by dsimp only; omega, by dsimp only; omega⟩⟩
theorem turn_PB {B C : Int} {p : P2} {t : Tn} (h : PB B p) (g : PB C t.u) (b : B ≤ 1000000000000) (c : C ≤ 1000000000000) : PB (B + C) (turnPtF p t) := by
  rw [turnPt_rt (PB_mono h b) (PB_mono g c)]
  exact PB_add h g
theorem rt_inj {m : Bool} {k : Int} (hk : Q4 k) {p q : P2} (h : rt m k p = rt m k q) : p = q := by
  have hx := congrArg P2.x h
  have hy := congrArg P2.y h
  unfold rt at hx hy
  dsimp only at hx hy
  rcases hk with rfl | rfl | rfl | rfl <;> cases m <;> simp at hx hy <;> exact P2.ext' (by omega) (by omega)
theorem turn_inj {B C : Int} {p q : P2} {t : Tn} (h : PB B p) (h2 : PB B q) (g : PB C t.u) (b : B ≤ 1000000000000) (c : C ≤ 1000000000000) (e : turnPtF p t = turnPtF q t) : p = q := by
  rw [turnPt_rt (PB_mono h b) (PB_mono g c), turnPt_rt (PB_mono h2 b) (PB_mono g c)] at e
  have hx := congrArg P2.x e
  have hy := congrArg P2.y e
  dsimp only at hx hy
  exact rt_inj (m := plX t) (k := plQ t) (plQ_Q4 t) (P2.ext' (by omega) (by omega))
theorem turn_dist {B C : Int} {p q : P2} {t : Tn} (h : PB B p) (h2 : PB B q) (g : PB C t.u) (b : B ≤ 1000000000000) (c : C ≤ 1000000000000) : distI (turnPtF p t) (turnPtF q t) = distI p q := by
  rw [turnPt_rt (PB_mono h b) (PB_mono g c), turnPt_rt (PB_mono h2 b) (PB_mono g c)]
  unfold distI rt
  dsimp only
  rcases plQ_Q4 t with e | e | e | e <;> rw [e] <;> cases plX t <;> simp <;> grind
theorem turn_okI {B C : Int} {c p q : P2} {t : Tn} (hc : PB B c) (h : PB B p) (h2 : PB B q) (g : PB C t.u) (b : B ≤ 1000000000000) (c' : C ≤ 1000000000000) (k : okI c p q) : okI (turnPtF c t) (turnPtF p t) (turnPtF q t) := by
  unfold okI at *
  rw [turn_dist h hc g b c', turn_dist h2 hc g b c']; exact k
theorem okI_swap {c p q : P2} (k : okI c p q) : okI c q p := ⟨by rw [← k.2]; exact k.1, k.2.symm⟩
theorem turn_fine {B C : Int} {t : Tn} (g : PB C t.u) (b : B ≤ 1000000000000) (c' : C ≤ 1000000000000) : ∀ (s : Shp) (d : Int), Fine (PB B) s d → Fine (PB (B + C)) (turnS s t) d := by
  intro s
  induction s with
  | nil => intro d h; exact h.elim
  | mk k a b' c r l n add sub ih =>
    intro d h
    rcases h with ⟨rfl, rfl, rfl, rfl, rfl, ha, hr⟩ | ⟨rfl, rfl, rfl, rfl, ha, hb, hr⟩ | ⟨rfl, rfl, rfl, rfl, ha, hb, hr, hn⟩ | ⟨rfl, rfl, rfl, ha, hb, hc, hr, ho⟩ | ⟨rfl, rfl, rfl, rfl, rfl, rfl, hc⟩ | ⟨rfl, rfl, rfl, rfl, rfl, rfl, h5, hm, hs⟩
    · exact .inl ⟨rfl, rfl, rfl, rfl, rfl, turn_PB ha g b c', hr⟩
    · exact .inr (.inl ⟨rfl, rfl, rfl, rfl, turn_PB ha g b c', turn_PB hb g b c', hr⟩)
    · exact .inr (.inr (.inl ⟨rfl, rfl, rfl, rfl, turn_PB ha g b c', turn_PB hb g b c', hr, fun e => hn (turn_inj ha hb g b c' e)⟩))
    · refine .inr (.inr (.inr (.inl ?_)))
      show (5 : Int) = 5 ∧ zeC = zeC ∧ 0 = 0 ∧ PB (B + C) (bif t.mx != t.my then turnPtF b' t else turnPtF a t) ∧ PB (B + C) (bif t.mx != t.my then turnPtF a t else turnPtF b' t) ∧ PB (B + C) (turnPtF c t) ∧ widF r = true ∧ okI (turnPtF c t) (bif t.mx != t.my then turnPtF b' t else turnPtF a t) (bif t.mx != t.my then turnPtF a t else turnPtF b' t)
      have o := turn_okI hc ha hb g b c' ho
      cases t.mx != t.my
      · exact ⟨rfl, rfl, rfl, turn_PB ha g b c', turn_PB hb g b c', turn_PB hc g b c', hr, o⟩
      · exact ⟨rfl, rfl, rfl, turn_PB hb g b c', turn_PB ha g b c', turn_PB hc g b c', hr, okI_swap o⟩
    · exact .inr (.inr (.inr (.inr (.inl ⟨rfl, rfl, rfl, rfl, rfl, rfl, hc.1, fun i hi => ⟨(hc.2 i hi).1, fun k hk => turn_PB ((hc.2 i hi).2 k hk) g b c'⟩⟩))))
    · exact .inr (.inr (.inr (.inr (.inr ⟨rfl, rfl, rfl, rfl, rfl, rfl, h5, hm, fun i hi => ih i (d + 1) (hs i hi)⟩))))
/-! ### the same -/
theorem spt_of {l m : Ctr} (hn : l.n = m.n) (h : ∀ i, i < l.n → l.m i = m.m i ∧ ∀ k, k < l.m i → l.p i k = m.p i k) : sptF l m = true := by
  unfold sptF
  rw [show ((l.n : Int) != (m.n : Int)) = false by simp [hn]]
  refine (runN_inv (fun _ _ => True) trivial l.n (fun i x hi _ => ⟨?_, trivial⟩)).1
  have q := h i hi
  unfold spO
  rw [show ((l.m i : Int) != (m.m i : Int)) = false by simp [q.1]]
  refine (runN_inv (fun _ _ => True) trivial (l.m i) (fun k _ hk _ => ⟨?_, trivial⟩)).1
  show (!(!(eqP (l.p i k) (m.p i k)))) = true
  rw [q.2 k hk, show eqP (m.p i k) (m.p i k) = true from eqP_iff.2 rfl]; rfl
theorem same_mk {k : Int} {a b c : P2} {r : Int} {l l' : Ctr} {n : Nat} {add add' : Nat → Bool} {sub sub' : Nat → Shp} (hl : sptF l l' = true) (h : ∀ i, i < n → add i = add' i ∧ sameF (sub i) (sub' i) = true) : sameF (.mk k a b c r l n add sub) (.mk k a b c r l' n add' sub') = true := by
  have e : sqH ⟨k, a, b, c, r, l, n, noF⟩ ⟨k, a, b, c, r, l', n, noF⟩ = false := by
    unfold sqH sqH0
    dsimp only
    rw [hl, show eqP a a = true from eqP_iff.2 rfl, show eqP b b = true from eqP_iff.2 rfl, show eqP c c = true from eqP_iff.2 rfl, show (k != k) = false by simp, show (r != r) = false by simp, show ((n : Int) != (n : Int)) = false by simp]; rfl
  simp only [sameF]
  rw [e]
  refine (runN_inv (fun _ _ => True) trivial n (fun i x hi _ => ⟨?_, trivial⟩)).1
  have q := h i hi
  show (!(bif add i != add' i then true else !(sameF (sub i) (sub' i)))) = true
  rw [q.1, q.2, show (add' i != add' i) = false by simp]; rfl
theorem spt_refl (l : Ctr) : sptF l l = true := spt_of rfl fun _ _ => ⟨rfl, fun _ _ => rfl⟩
theorem same_leaf (k : Int) (a b c : P2) (r : Int) {l l' : Ctr} (hl : sptF l l' = true) (add add' : Nat → Bool) (sub sub' : Nat → Shp) : sameF (.mk k a b c r l 0 add sub) (.mk k a b c r l' 0 add' sub') = true := same_mk hl fun i hi => absurd hi (Nat.not_lt_zero i)
/-- turned by nothing -/
theorem turn_none {p : P2} (h : PB 1000000000000 p) : turnPtF p noT = p := by
  show (⟨W (p.x + 0), W (p.y + 0)⟩ : P2) = p
  obtain ⟨⟨a1, a2⟩, a3, a4⟩ := h
  rw [W_id (by omega) (by omega), W_id (by omega) (by omega)]
  exact P2.ext' (by dsimp only; omega) (by dsimp only; omega)
theorem same_none {B : Int} (b : B ≤ 1000000000000) : ∀ (s : Shp) (d : Int), Fine (PB B) s d → sameF (turnS s noT) s = true := by
  intro s
  induction s with
  | nil => intro d h; exact h.elim
  | mk k a b' c r l n add sub ih =>
    intro d h
    rcases h with ⟨rfl, rfl, rfl, rfl, rfl, ha, hr⟩ | ⟨rfl, rfl, rfl, rfl, ha, hb, hr⟩ | ⟨rfl, rfl, rfl, rfl, ha, hb, hr, hn⟩ | ⟨rfl, rfl, rfl, ha, hb, hc, hr, ho⟩ | ⟨rfl, rfl, rfl, rfl, rfl, rfl, hc⟩ | ⟨rfl, rfl, rfl, rfl, rfl, rfl, h5, hm, hs⟩
    · show sameF (leafS 1 (turnPtF a noT) ze ze r zeC) _ = true
      rw [turn_none (PB_mono ha b)]
      exact same_leaf _ _ _ _ _ (spt_refl _) _ _ _ _
    · show sameF (leafS 3 (turnPtF a noT) (turnPtF b' noT) ze r zeC) _ = true
      rw [turn_none (PB_mono ha b), turn_none (PB_mono hb b)]
      exact same_leaf _ _ _ _ _ (spt_refl _) _ _ _ _
    · show sameF (leafS 4 (turnPtF a noT) (turnPtF b' noT) ze r zeC) _ = true
      rw [turn_none (PB_mono ha b), turn_none (PB_mono hb b)]
      exact same_leaf _ _ _ _ _ (spt_refl _) _ _ _ _
    · show sameF (leafS 5 (turnPtF a noT) (turnPtF b' noT) (turnPtF c noT) r zeC) _ = true
      rw [turn_none (PB_mono ha b), turn_none (PB_mono hb b), turn_none (PB_mono hc b)]
      exact same_leaf _ _ _ _ _ (spt_refl _) _ _ _ _
    · show sameF (leafS 2 ze ze ze 0 (turnC l noT)) _ = true
      exact same_leaf (l := turnC l noT) (l' := l) _ _ _ _ _ (spt_of rfl fun i hi => ⟨rfl, fun k hk => turn_none (PB_mono ((hc.2 i hi).2 k hk) b)⟩) _ _ _ _
    · show sameF (.mk 6 ze ze ze 0 zeC n add (fun i => turnS (sub i) noT)) _ = true
      exact same_mk (spt_refl _) fun i hi => ⟨rfl, ih i (d + 1) (hs i hi)⟩
/-- one turn after the other -/
theorem same_then {B C D : Int} {t u : Tn} (gC : PB C t.u) (gD : PB D u.u) (h : B + C + D ≤ 1000000000000) (b0 : 0 ≤ B) (c0 : 0 ≤ C) (d0 : 0 ≤ D) : ∀ (s : Shp) (d : Int), Fine (PB B) s d → sameF (turnS (turnS s t) u) (turnS s (thenF t u)) = true := by
  intro s
  induction s with
  | nil => intro d h; exact h.elim
  | mk k a b' c r l n add sub ih =>
    intro d h'
    have T : ∀ {p : P2}, PB B p → turnPtF (turnPtF p t) u = turnPtF p (thenF t u) := fun hp => turn_then hp gC gD h b0 c0 d0
    rcases h' with ⟨rfl, rfl, rfl, rfl, rfl, ha, hr⟩ | ⟨rfl, rfl, rfl, rfl, ha, hb, hr⟩ | ⟨rfl, rfl, rfl, rfl, ha, hb, hr, hn⟩ | ⟨rfl, rfl, rfl, ha, hb, hc, hr, ho⟩ | ⟨rfl, rfl, rfl, rfl, rfl, rfl, hc⟩ | ⟨rfl, rfl, rfl, rfl, rfl, rfl, h5, hm, hs⟩
    · show sameF (leafS 1 (turnPtF (turnPtF a t) u) ze ze r zeC) (leafS 1 (turnPtF a (thenF t u)) ze ze r zeC) = true
      rw [T ha]
      exact same_leaf _ _ _ _ _ (spt_refl _) _ _ _ _
    · show sameF (leafS 3 (turnPtF (turnPtF a t) u) (turnPtF (turnPtF b' t) u) ze r zeC) (leafS 3 (turnPtF a (thenF t u)) (turnPtF b' (thenF t u)) ze r zeC) = true
      rw [T ha, T hb]
      exact same_leaf _ _ _ _ _ (spt_refl _) _ _ _ _
    · show sameF (leafS 4 (turnPtF (turnPtF a t) u) (turnPtF (turnPtF b' t) u) ze r zeC) (leafS 4 (turnPtF a (thenF t u)) (turnPtF b' (thenF t u)) ze r zeC) = true
      rw [T ha, T hb]
      exact same_leaf _ _ _ _ _ (spt_refl _) _ _ _ _
    · show sameF (leafS 5 (bif u.mx != u.my then turnPtF (bif t.mx != t.my then turnPtF a t else turnPtF b' t) u else turnPtF (bif t.mx != t.my then turnPtF b' t else turnPtF a t) u) (bif u.mx != u.my then turnPtF (bif t.mx != t.my then turnPtF b' t else turnPtF a t) u else turnPtF (bif t.mx != t.my then turnPtF a t else turnPtF b' t) u) (turnPtF (turnPtF c t) u) r zeC)
        (leafS 5 (bif (!(plX t == plX u)) != false then turnPtF b' (thenF t u) else turnPtF a (thenF t u)) (bif (!(plX t == plX u)) != false then turnPtF a (thenF t u) else turnPtF b' (thenF t u)) (turnPtF c (thenF t u)) r zeC) = true
      rw [← T ha, ← T hb, ← T hc]
      unfold plX
      have e : ∀ x y : Bool, (x != y) = !(x == y) := fun x y => rfl
      rw [e t.mx, e u.mx]
      cases t.mx == t.my <;> cases u.mx == u.my <;> exact same_leaf _ _ _ _ _ (spt_refl _) _ _ _ _
    · show sameF (leafS 2 ze ze ze 0 (turnC (turnC l t) u)) (leafS 2 ze ze ze 0 (turnC l (thenF t u))) = true
      exact same_leaf (l := turnC (turnC l t) u) (l' := turnC l (thenF t u)) _ _ _ _ _ (spt_of rfl fun i hi => ⟨rfl, fun k hk => T ((hc.2 i hi).2 k hk)⟩) _ _ _ _
    · show sameF (.mk 6 ze ze ze 0 zeC n add (fun i => turnS (turnS (sub i) t) u)) (.mk 6 ze ze ze 0 zeC n add (fun i => turnS (sub i) (thenF t u))) = true
      exact same_mk (spt_refl _) fun i hi => ⟨rfl, ih i (d + 1) (hs i hi)⟩
/-! ### moved -/
theorem fine_B {P : P2 → Prop} : ∀ (s : Shp) (d : Int), Fine P s d → 0 ≤ d → ShB s := by
  intro s
  induction s with
  | nil => intro d h; exact h.elim
  | mk k a b' c r l n add sub ih =>
    intro d h h0
    have z : ∀ i, i < 0 → ShB (sub i) := fun i hi => absurd hi (Nat.not_lt_zero i)
    rcases h with ⟨rfl, rfl, rfl, rfl, rfl, ha, hr⟩ | ⟨rfl, rfl, rfl, rfl, ha, hb, hr⟩ | ⟨rfl, rfl, rfl, rfl, ha, hb, hr, hn⟩ | ⟨rfl, rfl, rfl, ha, hb, hc, hr, ho⟩ | ⟨rfl, rfl, rfl, rfl, rfl, rfl, hc⟩ | ⟨rfl, rfl, rfl, rfl, rfl, rfl, h5, hm, hs⟩
    · exact ⟨CtrB_ze, by decide, z⟩
    · exact ⟨CtrB_ze, by decide, z⟩
    · exact ⟨CtrB_ze, by decide, z⟩
    · exact ⟨CtrB_ze, by decide, z⟩
    · exact ⟨⟨by have := hc.1; omega, fun i hi => by have := (hc.2 i hi).1; omega⟩, by decide, z⟩
    · exact ⟨CtrB_ze, by omega, fun i hi => ih i (d + 1) (hs i hi) (by omega)⟩
theorem move_fine {B C : Int} {s : Shp} {t : Tn} (h : Fine (PB B) s 0) (g : PB C t.u) (b : B ≤ 536870912) (c : B + C ≤ 536870912) (c' : C ≤ 1000000000000) : movesE (toSh s) t = true ∧ moveE (toSh s) t = toSh (turnS s t) ∧ Fine (PB (B + C)) (turnS s t) 0 := by
  have f := turn_fine g (by omega) c' s 0 h
  have e1 : okE (toSh s) = true := fine_ok (fun p hp => PB_near b hp) h
  have e2 : okE (turnE (toSh s) t) = true := by rw [turnE_eq]; exact fine_ok (fun p hp => PB_near c hp) f
  refine ⟨?_, ?_, f⟩
  · unfold movesE; rw [e1, e2]; rfl
  · unfold moveE; rw [e1, e2, turnE_eq]; rfl
theorem same_toSh (s t : Shp) : sameE (toSh s) (toSh t) = sameF s t := by unfold sameE; rw [ofSh_toSh, ofSh_toSh]
theorem tameT_PB (t : Tn) {n : Int} (h0 : 0 ≤ n) (h1 : n ≤ 9223372036854775806) : PB n (tameT t n).u := lClose_r t.u h0 h1
theorem eqT_refl (t : Tn) : eqT t t = true := by
  unfold eqT
  rw [show eqP t.u t.u = true from eqP_iff.2 rfl]
  simp
theorem qn (y : Bool) {j k : Int} (hj : Q4 j) (hk : Q4 k) : quF (W ((bif y then W (0 - j) else j) + k)) = ((bif y then -j else j) + k) % 4 := by
  have e : W ((bif y then W (0 - j) else j) + k) = (bif y then -j else j) + k := by
    unfold Q4 at hj hk
    cases y
    · simp only [cond_false]; rw [W_id (by omega) (by omega)]
    · simp only [cond_true]; rw [W_id (x := 0 - j) (by omega) (by omega), W_id (by omega) (by omega)]; omega
  rw [e, quF_small (by unfold Q4 at hj hk; cases y <;> simp only [cond_true, cond_false] <;> omega) (by unfold Q4 at hj hk; cases y <;> simp only [cond_true, cond_false] <;> omega)]
theorem then_assoc {t u v : Tn} {C : Int} (c0 : 0 ≤ C) (c1 : C ≤ 100000000000) (ht : PB C t.u) (hu : PB C u.u) (hv : PB C v.u) : thenF (thenF t u) v = thenF t (thenF u v) := by
  have a := then_pl t u
  have b := then_pl u v
  have e1 : (thenF (thenF t u) v).mx = (thenF t (thenF u v)).mx := by
    show (!(plX (thenF t u) == plX v)) = (!(plX t == plX (thenF u v)))
    rw [a.1, b.1]
    cases plX t <;> cases plX u <;> cases plX v <;> rfl
  have e2 : (thenF (thenF t u) v).q = (thenF t (thenF u v)).q := by
    show quF (W ((bif plX v then W (0 - plQ (thenF t u)) else plQ (thenF t u)) + plQ v)) = quF (W ((bif plX (thenF u v) then W (0 - plQ t) else plQ t) + plQ (thenF u v)))
    rw [qn _ (plQ_Q4 _) (plQ_Q4 _), qn _ (plQ_Q4 _) (plQ_Q4 _), a.2, b.1, b.2, qn _ (plQ_Q4 _) (plQ_Q4 _), qn _ (plQ_Q4 _) (plQ_Q4 _)]
    cases plX u <;> cases plX v <;> simp only [cond_true, cond_false, show (true == true) = true from rfl, show (true == false) = false from rfl, show (false == true) = false from rfl, show (false == false) = true from rfl, Bool.not_true, Bool.not_false] <;> omega
  have e3 : (thenF (thenF t u) v).u = (thenF t (thenF u v)).u := turn_then ht hu hv (by omega) c0 c0 c0
  revert e1 e2 e3
  show _ → _ → _ → (⟨(thenF (thenF t u) v).mx, false, (thenF (thenF t u) v).q, (thenF (thenF t u) v).u⟩ : Tn) = ⟨(thenF t (thenF u v)).mx, false, (thenF t (thenF u v)).q, (thenF t (thenF u v)).u⟩
  intro e1 e2 e3
  rw [e1, e2, e3]
theorem P2x {t u : Tn} (h1 : t.mx = u.mx) (h2 : t.my = u.my) (h3 : t.q = u.q) (h4 : t.u.x = u.u.x) (h5 : t.u.y = u.u.y) : t = u := by
  obtain ⟨a, b, c, d, e⟩ := t
  obtain ⟨a', b', c', d', e'⟩ := u
  cases h1; cases h2; cases h3; cases h4; cases h5; rfl
theorem four_none (a : Int) : thenF (thenF ⟨false, false, a, ⟨0, 0⟩⟩ ⟨false, false, a, ⟨0, 0⟩⟩) (thenF ⟨false, false, a, ⟨0, 0⟩⟩ ⟨false, false, a, ⟨0, 0⟩⟩) = noT := by
  unfold thenF plX plQ turnPtF
  dsimp only
  have h := quF_Q4 a
  generalize quF a = κ at *
  rcases h with h | h | h | h <;> subst h <;> refine P2x ?_ ?_ ?_ ?_ ?_ <;> decide +kernel
theorem twice_none (x y : Bool) : thenF ⟨x, y, 0, ⟨0, 0⟩⟩ ⟨x, y, 0, ⟨0, 0⟩⟩ = noT := by
  cases x <;> cases y <;> refine P2x ?_ ?_ ?_ ?_ ?_ <;> decide +kernel
end Go.Proofs.Ytfooaikpcbnchaa

/-! ## Tue -/
namespace Go.Proofs.Ytfooaikpcbnchaa
open Go Go.RowKit Sym
set_option maxRecDepth 100000

def tbU : List Entry := (16, en2p dT dI (fun _ n => W (n + 1) ≠ 0) (fun t n => tn (tameT t n))) :: tbF
theorem tbU_ok : ∀ e ∈ tbU, EntryOk Try.prog e := List.forall_mem_cons.2 ⟨en2p_ok dT_eq dI_eq tameT_ok, tbF_ok⟩
noncomputable def tdY : List Dyn.EntryD := [(15, en0R (rB true)), (14, en2D (qAnd qS PdW) qI fun x d => rB (smallE x d)), (18, en3D (qAnd qS PdS) qB qI fun x q d => .val (dvS (tameE x q d))), (22, en2D (qAnd qS PdS) (qAnd qS PdW) fun x y => rB (sameE x y)), (20, en2D (qAnd qS PdS) qT fun x t => .tup [dvS (moveE x t), dvB (movesE x t)])]
def drY (K : Nat) : Bool := Nat.beq K 20 || Nat.beq K 18
noncomputable def tabY : Dyn.Tabs := Dyn.tabs tbU tdY drY dtyS
theorem tabY_ok : Dyn.TabsOk Try.prog tabY := Dyn.tabs_ok tbU_ok (List.forall_mem_cons.2 ⟨en0R_ok awake11_ok, List.forall_mem_cons.2 ⟨en2D_ok (qAnd_ok qS_ok) qI_ok fun x d h _ => small_all x h.1 d, List.forall_mem_cons.2 ⟨en3D_ok (qAnd_ok qS_ok) qB_ok qI_ok fun x q d h _ _ => tame_all x h.1 q d, List.forall_mem_cons.2 ⟨en2D_ok (qAnd_ok qS_ok) (qAnd_ok qS_ok) fun x y h h2 => same_all x h.1 y h2.1, List.forall_mem_cons.2 ⟨en2D_ok (qAnd_ok qS_ok) qT_ok fun x t h _ => move_ok x h.1 t, fun _ h => by cases h⟩⟩⟩⟩⟩)
def an (a b : Bool) : Bool := bif a then b else false
def m6 : Int := 1000000
noncomputable def thC (t u v : Tn) (p : P2) (S : Sh) (k : Nat) : Bool :=
  let w := thenF t u
  let q : Tn := ⟨false, false, t.q, ⟨0, 0⟩⟩
  let m : Tn := ⟨t.mx, t.my, 0, ⟨0, 0⟩⟩
  let c4 := an (an (an (an (eqP (turnPtF (turnPtF p t) u) (turnPtF p w)) (eqT (thenF w v) (thenF t (thenF u v)))) (movesE S t)) (movesE (moveE S t) u)) (movesE S w)
  match k with
  | 4 => c4
  | _ =>
    let c6 := an (an c4 (sameE (moveE (moveE S t) u) (moveE S w))) (movesE S noT)
    match k with
    | 6 => c6
    | _ => an (an (an (an (an (an (an c6 (sameE (moveE S noT) S)) (eqT (thenF (thenF q q) (thenF q q)) noT)) (eqT (thenF m m) noT)) (!w.my)) (decide (w.q ≥ 0))) (decide (w.q ≤ 3))) true
noncomputable def thO0 (t u v : Tn) (p : P2) (s S : Sh) : Dyn.RO :=
  .side [W (1000000 + 1) ≠ 0, W (1000000 + 1) ≠ 0, W (1000000 + 1) ≠ 0, W (1000000 + 1) ≠ 0, PdS s, ctrSelf s.l]
    (.side [PdS S, ctrSelf S.l] (.side [PdS (moveE S t), ctrSelf (moveE S t).l] (.side [PdS S, ctrSelf S.l] (.side [PdS S, ctrSelf S.l]
      (.side [some (thC t u v p S 4) = some true ∧ True → allP [PdS (moveE (moveE S t) u), ctrSelf (moveE (moveE S t) u).l, PdW (moveE S (thenF t u)), ctrSelf (moveE S (thenF t u)).l],
              some (thC t u v p S 6) = some true ∧ True → allP [PdS (moveE S noT), ctrSelf (moveE S noT).l, PdW S, ctrSelf S.l]]
        (.leaf (rB (thC t u v p S 7))))))))
noncomputable def thO (t u v : Tn) (p : P2) (s : Sh) : Dyn.RO :=
  .side [PdW s, ctrSelf s.l] (.ite (!(smallE s 0)) (.leaf (rB true)) (thO0 (tameT t 1000000) (tameT u 1000000) (tameT v 1000000) (lClose p 1000000) s (tameE s true 0)))
theorem th_O (t u v : Tn) (p : P2) (s : Sh) : (Dyn.dfun Try.prog tabY Dyn.noLp 3 Try.f3 [dvT t, dvT u, dvT v, dvP p, dvS s]).ro Try.prog Try.f3.results = thO t u v p s := by kernel_rfl
theorem thC_true {t u v : Tn} {p : P2} {σ : Shp} (hp : PB 1000000 p) (ht : PB 1000000 t.u) (hu : PB 1000000 u.u) (hv : PB 1000000 v.u) (f : Fine (PB 40) σ 0) : thC t u v p (toSh σ) 7 = true := by
  have a := move_fine f ht (by decide) (by decide) (by decide)
  have b := move_fine a.2.2 hu (by decide) (by decide) (by decide)
  have w : PB 2000000 (thenF t u).u := turn_PB (B := 1000000) (C := 1000000) ht hu (by decide) (by decide)
  have c := move_fine f w (by decide) (by decide) (by decide)
  have e := move_fine (t := noT) (C := 0) f ⟨⟨by decide, by decide⟩, ⟨by decide, by decide⟩⟩ (by decide) (by decide) (by decide)
  have hq := quF_Q4 (W ((bif plX u then W (0 - plQ t) else plQ t) + plQ u))
  have q1 : decide ((thenF t u).q ≥ 0) = true := decide_eq_true (by show quF (W ((bif plX u then W (0 - plQ t) else plQ t) + plQ u)) ≥ 0; unfold Q4 at hq; omega)
  have q2 : decide ((thenF t u).q ≤ 3) = true := decide_eq_true (by show quF (W ((bif plX u then W (0 - plQ t) else plQ t) + plQ u)) ≤ 3; unfold Q4 at hq; omega)
  unfold thC
  dsimp only
  rw [turn_then hp ht hu (by decide) (by decide) (by decide) (by decide), show eqP (turnPtF p (thenF t u)) (turnPtF p (thenF t u)) = true from eqP_iff.2 rfl,
    then_assoc (C := 1000000) (by decide) (by decide) ht hu hv, eqT_refl, a.1, a.2.1, b.1, b.2.1, c.1, c.2.1, e.1, e.2.1, same_toSh, same_toSh, same_then ht hu (by decide) (by decide) (by decide) (by decide) σ 0 f,
    same_none (by decide) σ 0 f, four_none, twice_none, eqT_refl, q1, q2]
  rfl
theorem then_ok' (t u v : Tn) (p : P2) (s : Sh) (hs : PdW s) : Dyn.CallD Try.prog 3 [dvT t, dvT u, dvT v, dvP p, dvS s] (rB true) := by
  refine Dyn.dcontract (lp := Dyn.noLp) (fuel := 3) tabY_ok mo Try.func3 (by kernel_rfl) (c := bodyD Try.f3.body) (by kernel_rfl) (fun w0 => Dyn.noLp_ok _ w0) (by kernel_rfl) (th_O t u v p s) ?_
  refine ⟨⟨hs, ctrSelf_ok _, trivial⟩, fun h => ro_leaf rfl, fun h => ?_⟩
  have hB : ShB (ofSh s) := small_B _ 0 (by simpa [smallE] using h)
  have hS : PdS s := ⟨hB, hs.2⟩
  have ht := tameT_PB t (n := 1000000) (by decide) (by decide)
  have hu := tameT_PB u (n := 1000000) (by decide) (by decide)
  have hv := tameT_PB v (n := 1000000) (by decide) (by decide)
  have hp : PB 1000000 (lClose p 1000000) := lClose_r p (by decide) (by decide)
  have f : Fine (PB 40) (tameS (ofSh s) true 0) 0 := tame_fine true (ofSh s) 0 hB (by decide) (by decide)
  have pT : PdS (tameE s true 0) := PdS_mk (fine_B _ 0 f (by decide))
  unfold thO0
  refine ⟨⟨by decide, by decide, by decide, by decide, hS, ctrSelf_ok _, trivial⟩, ⟨pT, ctrSelf_ok _, trivial⟩, ⟨moveE_PdS pT _, ctrSelf_ok _, trivial⟩, ⟨pT, ctrSelf_ok _, trivial⟩, ⟨pT, ctrSelf_ok _, trivial⟩,
    ⟨fun _ => ⟨moveE_PdS (moveE_PdS pT _) _, ctrSelf_ok _, PdS_W (moveE_PdS pT _), ctrSelf_ok _, trivial⟩, fun _ => ⟨moveE_PdS pT _, ctrSelf_ok _, PdS_W pT, ctrSelf_ok _, trivial⟩, trivial⟩, ?_⟩
  rw [show tameE s true 0 = toSh (tameS (ofSh s) true 0) from rfl, thC_true hp ht hu hv f]
  exact ro_leaf rfl
theorem turnThen_ok (t u v : Tn) (p : P2) (s : Shp) (hs : ShW s) : Dyn.CallD Try.prog 3 [dvT t, dvT u, dvT v, dvP p, dvS (toSh s)] (rB true) := then_ok' t u v p (toSh s) (PdW_mk hs)
end Go.Proofs.Ytfooaikpcbnchaa
