/-
  OWN WORK. Joined by merge.py: Fiq Tue Bou Tuf Fir Tug.
-/
import Derived.Test.YtfooaikpcbnchaaQG
/-! ## Fiq -/
namespace Go.Proofs.Ytfooaikpcbnchaa
open Go Go.RowKit Sym
set_option maxRecDepth 100000

theorem PB_mono {X Y : Int} {q : P2} (h : PB X q) (k : X ≤ Y) : PB Y q := ⟨⟨by have := h.1; omega, by have := h.1; omega⟩, ⟨by have := h.2; omega, by have := h.2; omega⟩⟩
theorem PB_add {B C : Int} {m : Bool} {k : Int} {p u : P2} (h : PB B p) (g : PB C u) : PB (B + C) ⟨(rt m k p).x + u.x, (rt m k p).y + u.y⟩ := by
  obtain ⟨⟨a1, a2⟩, a3, a4⟩ := rt_PB m k h
  obtain ⟨⟨c1, c2⟩, c3, c4⟩ := g
  exact ⟨⟨by dsimp only; omega, by dsimp only; omega⟩, ⟨by dsimp only; omega, by dsimp only; omega⟩⟩
theorem turn_PB {B C : Int} {p : P2} {t : Tn} (h : PB B p) (g : PB C t.u) (b : B ≤ 1000000000000) (c : C ≤ 1000000000000) : PB (B + C) (turnPtF p t) := by
  rw [turnPt_rt (PB_mono h b) (PB_mono g c)]
  exact PB_add h g
theorem rt_inj {m : Bool} {k : Int} (hk : Q4 k) {p q : P2} (h : rt m k p = rt m k q) : p = q := by
  have hx := congrArg P2.x h
  have hy := congrArg P2.y h
  unfold rt at hx hy
  dsimp only at hx hy
  rcases hk with rfl | rfl | rfl | rfl <;> cases m <;> simp at hx hy <;> exact P2.ext' (by omega) (by omega)
theorem turn_inj {B C : Int} {p q : P2} {t : Tn} (h : PB B p) (h2 : PB B q) (g : PB C t.u) (b : B ≤ 1000000000000) (c : C ≤ 1000000000000) (e : turnPtF p t = turnPtF q t) : p = q := by
  rw [turnPt_rt (PB_mono h b) (PB_mono g c), turnPt_rt (PB_mono h2 b) (PB_mono g c)] at e
  have hx := congrArg P2.x e
  have hy := congrArg P2.y e
  dsimp only at hx hy
  exact rt_inj (m := plX t) (k := plQ t) (plQ_Q4 t) (P2.ext' (by omega) (by omega))
theorem turn_dist {B C : Int} {p q : P2} {t : Tn} (h : PB B p) (h2 : PB B q) (g : PB C t.u) (b : B ≤ 1000000000000) (c : C ≤ 1000000000000) : distI (turnPtF p t) (turnPtF q t) = distI p q := by
  rw [turnPt_rt (PB_mono h b) (PB_mono g c), turnPt_rt (PB_mono h2 b) (PB_mono g c)]
  unfold distI rt
  dsimp only
  rcases plQ_Q4 t with e | e | e | e <;> rw [e] <;> cases plX t <;> simp <;> grind
theorem turn_okI {B C : Int} {c p q : P2} {t : Tn} (hc : PB B c) (h : PB B p) (h2 : PB B q) (g : PB C t.u) (b : B ≤ 1000000000000) (c' : C ≤ 1000000000000) (k : okI c p q) : okI (turnPtF c t) (turnPtF p t) (turnPtF q t) := by
  unfold okI at *
  rw [turn_dist h hc g b c', turn_dist h2 hc g b c']; exact k
theorem okI_swap {c p q : P2} (k : okI c p q) : okI c q p := ⟨by rw [← k.2]; exact k.1, k.2.symm⟩
theorem turn_fine {B C : Int} {t : Tn} (g : PB C t.u) (b : B ≤ 1000000000000) (c' : C ≤ 1000000000000) : ∀ (s : Shp) (d : Int), Fine (PB B) s d → Fine (PB (B + C)) (turnS s t) d := by
  intro s
  induction s with
  | nil => intro d h; exact h.elim
  | mk k a b' c r l n add sub ih =>
    intro d h
    rcases h with ⟨rfl, rfl, rfl, rfl, rfl, ha, hr⟩ | ⟨rfl, rfl, rfl, rfl, ha, hb, hr⟩ | ⟨rfl, rfl, rfl, rfl, ha, hb, hr, hn⟩ | ⟨rfl, rfl, rfl, ha, hb, hc, hr, ho⟩ | ⟨rfl, rfl, rfl, rfl, rfl, rfl, hc⟩ | ⟨rfl, rfl, rfl, rfl, rfl, rfl, h5, hm, hs⟩
    · exact .inl ⟨rfl, rfl, rfl, rfl, rfl, turn_PB ha g b c', hr⟩
    · exact .inr (.inl ⟨rfl, rfl, rfl, rfl, turn_PB ha g b c', turn_PB hb g b c', hr⟩)
    · exact .inr (.inr (.inl ⟨rfl, rfl, rfl, rfl, turn_PB ha g b c', turn_PB hb g b c', hr, fun e => hn (turn_inj ha hb g b c' e)⟩))
    · refine .inr (.inr (.inr (.inl ?_)))
      show (5 : Int) = 5 ∧ zeC = zeC ∧ 0 = 0 ∧ PB (B + C) (bif t.mx != t.my then turnPtF b' t else turnPtF a t) ∧ PB (B + C) (bif t.mx != t.my then turnPtF a t else turnPtF b' t) ∧ PB (B + C) (turnPtF c t) ∧ widF r = true ∧ okI (turnPtF c t) (bif t.mx != t.my then turnPtF b' t else turnPtF a t) (bif t.mx != t.my then turnPtF a t else turnPtF b' t)
      have o := turn_okI hc ha hb g b c' ho
      cases t.mx != t.my
      · exact ⟨rfl, rfl, rfl, turn_PB ha g b c', turn_PB hb g b c', turn_PB hc g b c', hr, o⟩
      · exact ⟨rfl, rfl, rfl, turn_PB hb g b c', turn_PB ha g b c', turn_PB hc g b c', hr, okI_swap o⟩
    · exact .inr (.inr (.inr (.inr (.inl ⟨rfl, rfl, rfl, rfl, rfl, rfl, hc.1, fun i hi => ⟨(hc.2 i hi).1, fun k hk => turn_PB ((hc.2 i hi).2 k hk) g b c'⟩⟩))))
    · exact .inr (.inr (.inr (.inr (.inr ⟨rfl, rfl, rfl, rfl, rfl, rfl, h5, hm, fun i hi => ih i (d + 1) (hs i hi)⟩))))
/-! ### the same -/
theorem spt_of {l m : Ctr} (hn : l.n = m.n) (h : ∀ i, i < l.n → l.m i = m.m i ∧ ∀ k, k < l.m i → l.p i k = m.p i k) : sptF l m = true := by
  unfold sptF
  rw [show ((l.n : Int) != (m.n : Int)) = false by simp [hn]]
  refine (runN_inv (fun _ _ => True) trivial l.n (fun i x hi _ => ⟨?_, trivial⟩)).1
  have q := h i hi
  unfold spO
  rw [show ((l.m i : Int) != (m.m i : Int)) = false by simp [q.1]]
  refine (runN_inv (fun _ _ => True) trivial (l.m i) (fun k _ hk _ => ⟨?_, trivial⟩)).1
  show (!(!(eqP (l.p i k) (m.p i k)))) = true
  rw [q.2 k hk, show eqP (m.p i k) (m.p i k) = true from eqP_iff.2 rfl]; rfl
theorem same_mk {k : Int} {a b c : P2} {r : Int} {l l' : Ctr} {n : Nat} {add add' : Nat → Bool} {sub sub' : Nat → Shp} (hl : sptF l l' = true) (h : ∀ i, i < n → add i = add' i ∧ sameF (sub i) (sub' i) = true) : sameF (.mk k a b c r l n add sub) (.mk k a b c r l' n add' sub') = true := by
  have e : sqH ⟨k, a, b, c, r, l, n, noF⟩ ⟨k, a, b, c, r, l', n, noF⟩ = false := by
    unfold sqH sqH0
    dsimp only
    rw [hl, show eqP a a = true from eqP_iff.2 rfl, show eqP b b = true from eqP_iff.2 rfl, show eqP c c = true from eqP_iff.2 rfl, show (k != k) = false by simp, show (r != r) = false by simp, show ((n : Int) != (n : Int)) = false by simp]; rfl
  simp only [sameF]
  rw [e]
  refine (runN_inv (fun _ _ => True) trivial n (fun i x hi _ => ⟨?_, trivial⟩)).1
  have q := h i hi
  show (!(bif add i != add' i then true else !(sameF (sub i) (sub' i)))) = true
  rw [q.1, q.2, show (add' i != add' i) = false by simp]; rfl
theorem spt_refl (l : Ctr) : sptF l l = true := spt_of rfl fun _ _ => ⟨rfl, fun _ _ => rfl⟩
theorem same_leaf (k : Int) (a b c : P2) (r : Int) {l l' : Ctr} (hl : sptF l l' = true) (add add' : Nat → Bool) (sub sub' : Nat → Shp) : sameF (.mk k a b c r l 0 add sub) (.mk k a b c r l' 0 add' sub') = true := same_mk hl fun i hi => absurd hi (Nat.not_lt_zero i)
/-- turned by nothing -/
theorem turn_none {p : P2} (h : PB 1000000000000 p) : turnPtF p noT = p := by
  show (⟨W (p.x + 0), W (p.y + 0)⟩ : P2) = p
  obtain ⟨⟨a1, a2⟩, a3, a4⟩ := h
  rw [W_id (by omega) (by omega), W_id (by omega) (by omega)]
  exact P2.ext' (by dsimp only; omega) (by dsimp only; omega)
theorem same_none {B : Int} (b : B ≤ 1000000000000) : ∀ (s : Shp) (d : Int), Fine (PB B) s d → sameF (turnS s noT) s = true := by
  intro s
  induction s with
  | nil => intro d h; exact h.elim
  | mk k a b' c r l n add sub ih =>
    intro d h
    rcases h with ⟨rfl, rfl, rfl, rfl, rfl, ha, hr⟩ | ⟨rfl, rfl, rfl, rfl, ha, hb, hr⟩ | ⟨rfl, rfl, rfl, rfl, ha, hb, hr, hn⟩ | ⟨rfl, rfl, rfl, ha, hb, hc, hr, ho⟩ | ⟨rfl, rfl, rfl, rfl, rfl, rfl, hc⟩ | ⟨rfl, rfl, rfl, rfl, rfl, rfl, h5, hm, hs⟩
    · show sameF (leafS 1 (turnPtF a noT) ze ze r zeC) _ = true
      rw [turn_none (PB_mono ha b)]
      exact same_leaf _ _ _ _ _ (spt_refl _) _ _ _ _
    · show sameF (leafS 3 (turnPtF a noT) (turnPtF b' noT) ze r zeC) _ = true
      rw [turn_none (PB_mono ha b), turn_none (PB_mono hb b)]
      exact same_leaf _ _ _ _ _ (spt_refl _) _ _ _ _
    · show sameF (leafS 4 (turnPtF a noT) (turnPtF b' noT) ze r zeC) _ = true
      rw [turn_none (PB_mono ha b), turn_none (PB_mono hb b)]
      exact same_leaf _ _ _ _ _ (spt_refl _) _ _ _ _
    · show sameF (leafS 5 (turnPtF a noT) (turnPtF b' noT) (turnPtF c noT) r zeC) _ = true
      rw [turn_none (PB_mono ha b), turn_none (PB_mono hb b), turn_none (PB_mono hc b)]
      exact same_leaf _ _ _ _ _ (spt_refl _) _ _ _ _
    · show sameF (leafS 2 ze ze ze 0 (turnC l noT)) _ = true
      exact same_leaf (l := turnC l noT) (l' := l) _ _ _ _ _ (spt_of rfl fun i hi => ⟨rfl, fun k hk => turn_none (PB_mono ((hc.2 i hi).2 k hk) b)⟩) _ _ _ _
    · show sameF (.mk 6 ze ze ze 0 zeC n add (fun i => turnS (sub i) noT)) _ = true
      exact same_mk (spt_refl _) fun i hi => ⟨rfl, ih i (d + 1) (hs i hi)⟩
/-- one turn after the other -/
theorem same_then {B C D : Int} {t u : Tn} (gC : PB C t.u) (gD : PB D u.u) (h : B + C + D ≤ 1000000000000) (b0 : 0 ≤ B) (c0 : 0 ≤ C) (d0 : 0 ≤ D) : ∀ (s : Shp) (d : Int), Fine (PB B) s d → sameF (turnS (turnS s t) u) (turnS s (thenF t u)) = true := by
  intro s
  induction s with
  | nil => intro d h; exact h.elim
  | mk k a b' c r l n add sub ih =>
    intro d h'
    have T : ∀ {p : P2}, PB B p → turnPtF (turnPtF p t) u = turnPtF p (thenF t u) := fun hp => turn_then hp gC gD h b0 c0 d0
    rcases h' with ⟨rfl, rfl, rfl, rfl, rfl, ha, hr⟩ | ⟨rfl, rfl, rfl, rfl, ha, hb, hr⟩ | ⟨rfl, rfl, rfl, rfl, ha, hb, hr, hn⟩ | ⟨rfl, rfl, rfl, ha, hb, hc, hr, ho⟩ | ⟨rfl, rfl, rfl, rfl, rfl, rfl, hc⟩ | ⟨rfl, rfl, rfl, rfl, rfl, rfl, h5, hm, hs⟩
    · show sameF (leafS 1 (turnPtF (turnPtF a t) u) ze ze r zeC) (leafS 1 (turnPtF a (thenF t u)) ze ze r zeC) = true
      rw [T ha]
      exact same_leaf _ _ _ _ _ (spt_refl _) _ _ _ _
    · show sameF (leafS 3 (turnPtF (turnPtF a t) u) (turnPtF (turnPtF b' t) u) ze r zeC) (leafS 3 (turnPtF a (thenF t u)) (turnPtF b' (thenF t u)) ze r zeC) = true
      rw [T ha, T hb]
      exact same_leaf _ _ _ _ _ (spt_refl _) _ _ _ _
    · show sameF (leafS 4 (turnPtF (turnPtF a t) u) (turnPtF (turnPtF b' t) u) ze r zeC) (leafS 4 (turnPtF a (thenF t u)) (turnPtF b' (thenF t u)) ze r zeC) = true
      rw [T ha, T hb]
      exact same_leaf _ _ _ _ _ (spt_refl _) _ _ _ _
    · show sameF (leafS 5 (bif u.mx != u.my then turnPtF (bif t.mx != t.my then turnPtF a t else turnPtF b' t) u else turnPtF (bif t.mx != t.my then turnPtF b' t else turnPtF a t) u) (bif u.mx != u.my then turnPtF (bif t.mx != t.my then turnPtF b' t else turnPtF a t) u else turnPtF (bif t.mx != t.my then turnPtF a t else turnPtF b' t) u) (turnPtF (turnPtF c t) u) r zeC)
        (leafS 5 (bif (!(plX t == plX u)) != false then turnPtF b' (thenF t u) else turnPtF a (thenF t u)) (bif (!(plX t == plX u)) != false then turnPtF a (thenF t u) else turnPtF b' (thenF t u)) (turnPtF c (thenF t u)) r zeC) = true
      rw [← T ha, ← T hb, ← T hc]
      unfold plX
      have e : ∀ x y : Bool, (x != y) = !(x == y) := fun x y => rfl
      rw [e t.mx, e u.mx]
      cases t.mx == t.my <;> cases u.mx == u.my <;> exact same_leaf _ _ _ _ _ (spt_refl _) _ _ _ _
    · show sameF (leafS 2 ze ze ze 0 (turnC (turnC l t) u)) (leafS 2 ze ze ze 0 (turnC l (thenF t u))) = true
      exact same_leaf (l := turnC (turnC l t) u) (l' := turnC l (thenF t u)) _ _ _ _ _ (spt_of rfl fun i hi => ⟨rfl, fun k hk => T ((hc.2 i hi).2 k hk)⟩) _ _ _ _
    · show sameF (.mk 6 ze ze ze 0 zeC n add (fun i => turnS (turnS (sub i) t) u)) (.mk 6 ze ze ze 0 zeC n add (fun i => turnS (sub i) (thenF t u))) = true
      exact same_mk (spt_refl _) fun i hi => ⟨rfl, ih i (d + 1) (hs i hi)⟩
/-! ### moved -/
theorem fine_B {P : P2 → Prop} : ∀ (s : Shp) (d : Int), Fine P s d → 0 ≤ d → ShB s := by
  intro s
  induction s with
  | nil => intro d h; exact h.elim
  | mk k a b' c r l n add sub ih =>
    intro d h h0
    have z : ∀ i, i < 0 → ShB (sub i) := fun i hi => absurd hi (Nat.not_lt_zero i)
    rcases h with ⟨rfl, rfl, rfl, rfl, rfl, ha, hr⟩ | ⟨rfl, rfl, rfl, rfl, ha, hb, hr⟩ | ⟨rfl, rfl, rfl, rfl, ha, hb, hr, hn⟩ | ⟨rfl, rfl, rfl, ha, hb, hc, hr, ho⟩ | ⟨rfl, rfl, rfl, rfl, rfl, rfl, hc⟩ | ⟨rfl, rfl, rfl, rfl, rfl, rfl, h5, hm, hs⟩
    · exact ⟨CtrB_ze, by decide, z⟩
    · exact ⟨CtrB_ze, by decide, z⟩
    · exact ⟨CtrB_ze, by decide, z⟩
    · exact ⟨CtrB_ze, by decide, z⟩
    · exact ⟨⟨by have := hc.1; omega, fun i hi => by have := (hc.2 i hi).1; omega⟩, by decide, z⟩
    · exact ⟨CtrB_ze, by omega, fun i hi => ih i (d + 1) (hs i hi) (by omega)⟩
theorem move_fine {B C : Int} {s : Shp} {t : Tn} (h : Fine (PB B) s 0) (g : PB C t.u) (b : B ≤ 536870912) (c : B + C ≤ 536870912) (c' : C ≤ 1000000000000) : movesE (toSh s) t = true ∧ moveE (toSh s) t = toSh (turnS s t) ∧ Fine (PB (B + C)) (turnS s t) 0 := by
  have f := turn_fine g (by omega) c' s 0 h
  have e1 : okE (toSh s) = true := fine_ok (fun p hp => PB_near b hp) h
  have e2 : okE (turnE (toSh s) t) = true := by rw [turnE_eq]; exact fine_ok (fun p hp => PB_near c hp) f
  refine ⟨?_, ?_, f⟩
  · unfold movesE; rw [e1, e2]; rfl
  · unfold moveE; rw [e1, e2, turnE_eq]; rfl
theorem same_toSh (s t : Shp) : sameE (toSh s) (toSh t) = sameF s t := by unfold sameE; rw [ofSh_toSh, ofSh_toSh]
theorem tameT_PB (t : Tn) {n : Int} (h0 : 0 ≤ n) (h1 : n ≤ 9223372036854775806) : PB n (tameT t n).u := lClose_r t.u h0 h1
theorem eqT_refl (t : Tn) : eqT t t = true := by
  unfold eqT
  rw [show eqP t.u t.u = true from eqP_iff.2 rfl]
  simp
theorem qn (y : Bool) {j k : Int} (hj : Q4 j) (hk : Q4 k) : quF (W ((bif y then W (0 - j) else j) + k)) = ((bif y then -j else j) + k) % 4 := by
  have e : W ((bif y then W (0 - j) else j) + k) = (bif y then -j else j) + k := by
    unfold Q4 at hj hk
    cases y
    · simp only [cond_false]; rw [W_id (by omega) (by omega)]
    · simp only [cond_true]; rw [W_id (x := 0 - j) (by omega) (by omega), W_id (by omega) (by omega)]; omega
  rw [e, quF_small (by unfold Q4 at hj hk; cases y <;> simp only [cond_true, cond_false] <;> omega) (by unfold Q4 at hj hk; cases y <;> simp only [cond_true, cond_false] <;> omega)]
theorem then_assoc {t u v : Tn} {C : Int} (c0 : 0 ≤ C) (c1 : C ≤ 100000000000) (ht : PB C t.u) (hu : PB C u.u) (hv : PB C v.u) : thenF (thenF t u) v = thenF t (thenF u v) := by
  have a := then_pl t u
  have b := then_pl u v
  have e1 : (thenF (thenF t u) v).mx = (thenF t (thenF u v)).mx := by
    show (!(plX (thenF t u) == plX v)) = (!(plX t == plX (thenF u v)))
    rw [a.1, b.1]
    cases plX t <;> cases plX u <;> cases plX v <;> rfl
  have e2 : (thenF (thenF t u) v).q = (thenF t (thenF u v)).q := by
    show quF (W ((bif plX v then W (0 - plQ (thenF t u)) else plQ (thenF t u)) + plQ v)) = quF (W ((bif plX (thenF u v) then W (0 - plQ t) else plQ t) + plQ (thenF u v)))
    rw [qn _ (plQ_Q4 _) (plQ_Q4 _), qn _ (plQ_Q4 _) (plQ_Q4 _), a.2, b.1, b.2, qn _ (plQ_Q4 _) (plQ_Q4 _), qn _ (plQ_Q4 _) (plQ_Q4 _)]
    cases plX u <;> cases plX v <;> simp only [cond_true, cond_false, show (true == true) = true from rfl, show (true == false) = false from rfl, show (false == true) = false from rfl, show (false == false) = true from rfl, Bool.not_true, Bool.not_false] <;> omega
  have e3 : (thenF (thenF t u) v).u = (thenF t (thenF u v)).u := turn_then ht hu hv (by omega) c0 c0 c0
  revert e1 e2 e3
  show _ → _ → _ → (⟨(thenF (thenF t u) v).mx, false, (thenF (thenF t u) v).q, (thenF (thenF t u) v).u⟩ : Tn) = ⟨(thenF t (thenF u v)).mx, false, (thenF t (thenF u v)).q, (thenF t (thenF u v)).u⟩
  intro e1 e2 e3
  rw [e1, e2, e3]
theorem P2x {t u : Tn} (h1 : t.mx = u.mx) (h2 : t.my = u.my) (h3 : t.q = u.q) (h4 : t.u.x = u.u.x) (h5 : t.u.y = u.u.y) : t = u := by
  obtain ⟨a, b, c, d, e⟩ := t
  obtain ⟨a', b', c', d', e'⟩ := u
  cases h1; cases h2; cases h3; cases h4; cases h5; rfl
theorem four_none (a : Int) : thenF (thenF ⟨false, false, a, ⟨0, 0⟩⟩ ⟨false, false, a, ⟨0, 0⟩⟩) (thenF ⟨false, false, a, ⟨0, 0⟩⟩ ⟨false, false, a, ⟨0, 0⟩⟩) = noT := by
  unfold thenF plX plQ turnPtF
  dsimp only
  have h := quF_Q4 a
  generalize quF a = κ at *
  rcases h with h | h | h | h <;> subst h <;> refine P2x ?_ ?_ ?_ ?_ ?_ <;> decide +kernel
theorem twice_none (x y : Bool) : thenF ⟨x, y, 0, ⟨0, 0⟩⟩ ⟨x, y, 0, ⟨0, 0⟩⟩ = noT := by
  cases x <;> cases y <;> refine P2x ?_ ?_ ?_ ?_ ?_ <;> decide +kernel
end Go.Proofs.Ytfooaikpcbnchaa

/-! ## Tue -/
namespace Go.Proofs.Ytfooaikpcbnchaa
open Go Go.RowKit Sym
set_option maxRecDepth 100000

def tbU : List Entry := (16, en2p dT dI (fun _ n => W (n + 1) ≠ 0) (fun t n => tn (tameT t n))) :: tbF
theorem tbU_ok : ∀ e ∈ tbU, EntryOk Try.prog e := List.forall_mem_cons.2 ⟨en2p_ok dT_eq dI_eq tameT_ok, tbF_ok⟩
noncomputable def tdY : List Dyn.EntryD := [(15, en0R (rB true)), (14, en2D (qAnd qS PdW) qI fun x d => rB (smallE x d)), (18, en3D (qAnd qS PdS) qB qI fun x q d => .val (dvS (tameE x q d))), (22, en2D (qAnd qS PdS) (qAnd qS PdW) fun x y => rB (sameE x y)), (20, en2D (qAnd qS PdS) qT fun x t => .tup [dvS (moveE x t), dvB (movesE x t)])]
def drY (K : Nat) : Bool := Nat.beq K 20 || Nat.beq K 18
noncomputable def tabY : Dyn.Tabs := Dyn.tabs tbU tdY drY dtyS
theorem tabY_ok : Dyn.TabsOk Try.prog tabY := Dyn.tabs_ok tbU_ok (List.forall_mem_cons.2 ⟨en0R_ok awake11_ok, List.forall_mem_cons.2 ⟨en2D_ok (qAnd_ok qS_ok) qI_ok fun x d h _ => small_all x h.1 d, List.forall_mem_cons.2 ⟨en3D_ok (qAnd_ok qS_ok) qB_ok qI_ok fun x q d h _ _ => tame_all x h.1 q d, List.forall_mem_cons.2 ⟨en2D_ok (qAnd_ok qS_ok) (qAnd_ok qS_ok) fun x y h h2 => same_all x h.1 y h2.1, List.forall_mem_cons.2 ⟨en2D_ok (qAnd_ok qS_ok) qT_ok fun x t h _ => move_ok x h.1 t, fun _ h => by cases h⟩⟩⟩⟩⟩)
def an (a b : Bool) : Bool := bif a then b else false
def m6 : Int := 1000000
noncomputable def thC (t u v : Tn) (p : P2) (S : Sh) (k : Nat) : Bool :=
  let w := thenF t u
  let q : Tn := ⟨false, false, t.q, ⟨0, 0⟩⟩
  let m : Tn := ⟨t.mx, t.my, 0, ⟨0, 0⟩⟩
  let c4 := an (an (an (an (eqP (turnPtF (turnPtF p t) u) (turnPtF p w)) (eqT (thenF w v) (thenF t (thenF u v)))) (movesE S t)) (movesE (moveE S t) u)) (movesE S w)
  match k with
  | 4 => c4
  | _ =>
    let c6 := an (an c4 (sameE (moveE (moveE S t) u) (moveE S w))) (movesE S noT)
    match k with
    | 6 => c6
    | _ => an (an (an (an (an (an (an c6 (sameE (moveE S noT) S)) (eqT (thenF (thenF q q) (thenF q q)) noT)) (eqT (thenF m m) noT)) (!w.my)) (decide (w.q ≥ 0))) (decide (w.q ≤ 3))) true
noncomputable def thO0 (t u v : Tn) (p : P2) (s S : Sh) : Dyn.RO :=
  .side [W (1000000 + 1) ≠ 0, W (1000000 + 1) ≠ 0, W (1000000 + 1) ≠ 0, W (1000000 + 1) ≠ 0, PdS s, ctrSelf s.l]
    (.side [PdS S, ctrSelf S.l] (.side [PdS (moveE S t), ctrSelf (moveE S t).l] (.side [PdS S, ctrSelf S.l] (.side [PdS S, ctrSelf S.l]
      (.side [some (thC t u v p S 4) = some true ∧ True → allP [PdS (moveE (moveE S t) u), ctrSelf (moveE (moveE S t) u).l, PdW (moveE S (thenF t u)), ctrSelf (moveE S (thenF t u)).l],
              some (thC t u v p S 6) = some true ∧ True → allP [PdS (moveE S noT), ctrSelf (moveE S noT).l, PdW S, ctrSelf S.l]]
        (.leaf (rB (thC t u v p S 7))))))))
noncomputable def thO (t u v : Tn) (p : P2) (s : Sh) : Dyn.RO :=
  .side [PdW s, ctrSelf s.l] (.ite (!(smallE s 0)) (.leaf (rB true)) (thO0 (tameT t 1000000) (tameT u 1000000) (tameT v 1000000) (lClose p 1000000) s (tameE s true 0)))
theorem th_O (t u v : Tn) (p : P2) (s : Sh) : (Dyn.dfun Try.prog tabY Dyn.noLp 3 Try.f3 [dvT t, dvT u, dvT v, dvP p, dvS s]).ro Try.prog Try.f3.results = thO t u v p s := by kernel_rfl
theorem thC_true {t u v : Tn} {p : P2} {σ : Shp} (hp : PB 1000000 p) (ht : PB 1000000 t.u) (hu : PB 1000000 u.u) (hv : PB 1000000 v.u) (f : Fine (PB 40) σ 0) : thC t u v p (toSh σ) 7 = true := by
  have a := move_fine f ht (by decide) (by decide) (by decide)
  have b := move_fine a.2.2 hu (by decide) (by decide) (by decide)
  have w : PB 2000000 (thenF t u).u := turn_PB (B := 1000000) (C := 1000000) ht hu (by decide) (by decide)
  have c := move_fine f w (by decide) (by decide) (by decide)
  have e := move_fine (t := noT) (C := 0) f ⟨⟨by decide, by decide⟩, ⟨by decide, by decide⟩⟩ (by decide) (by decide) (by decide)
  have hq := quF_Q4 (W ((bif plX u then W (0 - plQ t) else plQ t) + plQ u))
  have q1 : decide ((thenF t u).q ≥ 0) = true := decide_eq_true (by show quF (W ((bif plX u then W (0 - plQ t) else plQ t) + plQ u)) ≥ 0; unfold Q4 at hq; omega)
  have q2 : decide ((thenF t u).q ≤ 3) = true := decide_eq_true (by show quF (W ((bif plX u then W (0 - plQ t) else plQ t) + plQ u)) ≤ 3; unfold Q4 at hq; omega)
  unfold thC
  dsimp only
  rw [turn_then hp ht hu (by decide) (by decide) (by decide) (by decide), show eqP (turnPtF p (thenF t u)) (turnPtF p (thenF t u)) = true from eqP_iff.2 rfl,
    then_assoc (C := 1000000) (by decide) (by decide) ht hu hv, eqT_refl, a.1, a.2.1, b.1, b.2.1, c.1, c.2.1, e.1, e.2.1, same_toSh, same_toSh, same_then ht hu (by decide) (by decide) (by decide) (by decide) σ 0 f,
    same_none (by decide) σ 0 f, four_none, twice_none, eqT_refl, q1, q2]
  rfl
theorem then_ok' (t u v : Tn) (p : P2) (s : Sh) (hs : PdW s) : Dyn.CallD Try.prog 3 [dvT t, dvT u, dvT v, dvP p, dvS s] (rB true) := by
  refine Dyn.dcontract (lp := Dyn.noLp) (fuel := 3) tabY_ok mo Try.func3 (by kernel_rfl) (c := bodyD Try.f3.body) (by kernel_rfl) (fun w0 => Dyn.noLp_ok _ w0) (by kernel_rfl) (th_O t u v p s) ?_
  refine ⟨⟨hs, ctrSelf_ok _, trivial⟩, fun h => ro_leaf rfl, fun h => ?_⟩
  have hB : ShB (ofSh s) := small_B _ 0 (by simpa [smallE] using h)
  have hS : PdS s := ⟨hB, hs.2⟩
  have ht := tameT_PB t (n := 1000000) (by decide) (by decide)
  have hu := tameT_PB u (n := 1000000) (by decide) (by decide)
  have hv := tameT_PB v (n := 1000000) (by decide) (by decide)
  have hp : PB 1000000 (lClose p 1000000) := lClose_r p (by decide) (by decide)
  have f : Fine (PB 40) (tameS (ofSh s) true 0) 0 := tame_fine true (ofSh s) 0 hB (by decide) (by decide)
  have pT : PdS (tameE s true 0) := PdS_mk (fine_B _ 0 f (by decide))
  unfold thO0
  refine ⟨⟨by decide, by decide, by decide, by decide, hS, ctrSelf_ok _, trivial⟩, ⟨pT, ctrSelf_ok _, trivial⟩, ⟨moveE_PdS pT _, ctrSelf_ok _, trivial⟩, ⟨pT, ctrSelf_ok _, trivial⟩, ⟨pT, ctrSelf_ok _, trivial⟩,
    ⟨fun _ => ⟨moveE_PdS (moveE_PdS pT _) _, ctrSelf_ok _, PdS_W (moveE_PdS pT _), ctrSelf_ok _, trivial⟩, fun _ => ⟨moveE_PdS pT _, ctrSelf_ok _, PdS_W pT, ctrSelf_ok _, trivial⟩, trivial⟩, ?_⟩
  rw [show tameE s true 0 = toSh (tameS (ofSh s) true 0) from rfl, thC_true hp ht hu hv f]
  exact ro_leaf rfl
theorem turnThen_ok (t u v : Tn) (p : P2) (s : Shp) (hs : ShW s) : Dyn.CallD Try.prog 3 [dvT t, dvT u, dvT v, dvP p, dvS (toSh s)] (rB true) := then_ok' t u v p (toSh s) (PdW_mk hs)
end Go.Proofs.Ytfooaikpcbnchaa

/-! ## Bou -/
namespace Go.Proofs.Ytfooaikpcbnchaa
open Go Go.RowKit Sym
set_option maxRecDepth 100000

def ruM (a : Int × Int) : Int := W ((W (a.1 + a.2)).tdiv 2)
def ruStep (v : Int) (a : Int × Int) : Int × Int := (bif decide (W (ruM a * ruM a) ≥ v) then a.1 else W (ruM a + 1), bif decide (W (ruM a * ruM a) ≥ v) then ruM a else a.2)
def ruG (v : Int) (_ : Nat) (a : Int × Int) : Int × Int := ruStep v a
def ruCnt (v : Int) : Nat → Int × Int → Nat
  | 0, _ => 0
  | f + 1, a => if a.1 < a.2 then ruCnt v f (ruStep v a) + 1 else 0
def ruA : Int × Int := (0, 2147483648)
def ruN (v : Int) : Nat := ruCnt v 32 ruA
/-- the least whole number whose square is not less than v -/
def rootF (v : Int) : Int := (foldN (ruG v) ruA (ruN v)).1
def ruI (a : Int × Int) : Prop := 0 ≤ a.1 ∧ a.1 ≤ a.2 ∧ a.2 ≤ 2147483648
theorem ruM_eq {a : Int × Int} (h : ruI a) : ruM a = (a.1 + a.2) / 2 := by
  obtain ⟨h1, h2, h3⟩ := h
  unfold ruM
  rw [W_id (x := a.1 + a.2) (by omega) (by omega), Int.tdiv_eq_ediv_of_nonneg (by omega), W_id (by omega) (by omega)]
theorem ru_step {v : Int} {a : Int × Int} (h : ruI a) (hlt : a.1 < a.2) : ruI (ruStep v a) ∧ 2 * ((ruStep v a).2 - (ruStep v a).1) ≤ a.2 - a.1 := by
  have m := ruM_eq h
  obtain ⟨h1, h2, h3⟩ := h
  have w : W (ruM a + 1) = ruM a + 1 := by rw [m]; exact W_id (by omega) (by omega)
  unfold ruStep ruI
  rw [w]
  cases decide (W (ruM a * ruM a) ≥ v)
  · exact ⟨⟨by dsimp only [cond_false]; omega, by dsimp only [cond_false]; omega, by dsimp only [cond_false]; omega⟩, by dsimp only [cond_false]; omega⟩
  · exact ⟨⟨by dsimp only [cond_true]; omega, by dsimp only [cond_true]; omega, by dsimp only [cond_true]; omega⟩, by dsimp only [cond_true]; omega⟩
theorem foldN_ru (v : Int) (a : Int × Int) : ∀ k, foldN (ruG v) a (k + 1) = foldN (ruG v) (ruStep v a) k
  | 0 => rfl
  | k + 1 => by
    show ruG v (k + 1) (foldN (ruG v) a (k + 1)) = ruG v k (foldN (ruG v) (ruStep v a) k)
    rw [foldN_ru v a k]; rfl
theorem ru_run (v : Int) : ∀ (f : Nat) (a : Int × Int), ruI a → a.2 - a.1 < 2 ^ f → (∀ k, k < ruCnt v f a → (foldN (ruG v) a k).1 < (foldN (ruG v) a k).2) ∧ ¬ (foldN (ruG v) a (ruCnt v f a)).1 < (foldN (ruG v) a (ruCnt v f a)).2
  | 0, a, h, hf => by
    refine ⟨fun k hk => absurd hk (Nat.not_lt_zero k), ?_⟩
    show ¬ a.1 < a.2
    have : (2 : Int) ^ 0 = 1 := by decide
    omega
  | f + 1, a, h, hf => by
    by_cases hlt : a.1 < a.2
    · have st := ru_step (v := v) h hlt
      have e : (2 : Int) ^ (f + 1) = 2 * 2 ^ f := by rw [Int.pow_succ, Int.mul_comm]
      have ih := ru_run v f (ruStep v a) st.1 (by omega)
      have c : ruCnt v (f + 1) a = ruCnt v f (ruStep v a) + 1 := by simp only [ruCnt]; rw [if_pos hlt]
      rw [c]
      refine ⟨fun k hk => ?_, ?_⟩
      · cases k with
        | zero => exact hlt
        | succ k => rw [foldN_ru]; exact ih.1 k (by omega)
      · rw [foldN_ru]; exact ih.2
    · have c : ruCnt v (f + 1) a = 0 := by simp only [ruCnt]; rw [if_neg hlt]
      rw [c]
      exact ⟨fun k hk => absurd hk (Nat.not_lt_zero k), hlt⟩
theorem ru_all (v : Int) : (∀ k, k < ruN v → (foldN (ruG v) ruA k).1 < (foldN (ruG v) ruA k).2) ∧ ¬ (foldN (ruG v) ruA (ruN v)).1 < (foldN (ruG v) ruA (ruN v)).2 := ru_run v 32 ruA ⟨by decide, by decide, by decide⟩ (by decide)
theorem rootF_le {v M : Int} (h0 : 0 ≤ M) (h1 : M ≤ 1000000) (h : v ≤ M * M) : 0 ≤ rootF v ∧ rootF v ≤ M := by
  have key : ∀ k, k ≤ ruN v → ruI (foldN (ruG v) ruA k) ∧ (foldN (ruG v) ruA k).1 ≤ M := fun k => by
    induction k with
    | zero => intro _; exact ⟨(⟨by decide, by decide, by decide⟩ : ruI ruA), h0⟩
    | succ k ih =>
      intro hk
      have q := ih (by omega)
      have lt := (ru_all v).1 k (by omega)
      have st := ru_step (v := v) q.1 lt
      refine ⟨st.1, ?_⟩
      have m := ruM_eq q.1
      show (ruStep v (foldN (ruG v) ruA k)).1 ≤ M
      generalize foldN (ruG v) ruA k = a at *
      obtain ⟨q1, q2, q3⟩ := q.1
      have w : W (ruM a + 1) = ruM a + 1 := by rw [m]; exact W_id (by omega) (by omega)
      unfold ruStep
      by_cases g : M ≤ ruM a
      · have sq : M * M ≤ ruM a * ruM a := Int.mul_le_mul g g h0 (by omega)
        have bd : ruM a * ruM a ≤ 2147483648 * 2147483648 := Int.mul_le_mul (by omega) (by omega) (by omega) (by decide)
        have nn : 0 ≤ ruM a * ruM a := Int.mul_nonneg (by omega) (by omega)
        rw [W_id (x := ruM a * ruM a) (by omega) (by omega), decide_eq_true (show ruM a * ruM a ≥ v by omega)]
        exact q.2
      · dsimp only
        cases decide (W (ruM a * ruM a) ≥ v)
        · show W (ruM a + 1) ≤ M
          rw [w]; omega
        · exact q.2
  have q := key (ruN v) (Nat.le_refl _)
  exact ⟨q.1.1, q.2⟩
def ruS (v : Int) (a : Int × Int) : Dyn.St := mkS 22 [(0, sI v), (2, .k (vi 0)), (3, sI a.1), (4, sI a.2)] []
def ruK : List Nat := [0, 2, 3, 4]
def ruB (v : Int) (a : Int × Int) : Dyn.Out := .ite (decide (a.1 < a.2)) (.leaf .normal (ruS v (ruStep v a))) (.leaf (.exit 0) (ruS v a))
theorem ru_B (v : Int) (a : Int × Int) : (Dyn.lexec Try.prog tabF0 Dyn.noLp 3 (unloopD (blkD Try.f62.body 0)) .leaf (ruS v a)).rl (keepR 22 [] [] ruK [2]) = ruB v a := by kernel_rfl
def ruLp (v : Int) : Dyn.Lp := fun id st => match id with
  | 0 => some (.side [keepA 22 [] [] ruK (2 ^ 3 + 2 ^ 4) st = ruS v ruA] (.leaf .normal (ruS v (foldN (ruG v) ruA (ruN v)))))
  | _ => none
theorem ru_blocks : blocksL (bodyD Try.f62.body) = [(0, .loop (unloopD (blkD Try.f62.body 0))), (1, blkD Try.f62.body 1)] := by kernel_rfl
theorem ru_b0 : blocksL (unloopD (blkD Try.f62.body 0)) = [(1, blkD Try.f62.body 1)] := by kernel_rfl
theorem ru_loop (v : Int) (w0 : Dyn.Base Try.prog) (st : Dyn.St) (o : Dyn.Out) (h : ruLp v 0 st = some o) : Dyn.BlockSound Try.prog w0 0 (.loop (unloopD (blkD Try.f62.body 0))) st o := by
  simp only [ruLp, Option.some.injEq] at h
  subst h
  refine side_one fun hS => ?_
  refine fold_block (fuel := 3) tabF0_ok mo (lp := Dyn.noLp) (by rw [ru_b0]; exact lpOk_cons (fun s o h => by cases h) lpOk_nil) (fun _ a => ruS v a) (ruN v) (ruG v) ruA (keepR 22 [] [] ruK [2]) (keepR_ent 22 _ _ _ _) (fun _ a => ruB v a) (fun _ a => ru_B v a) (fun i hi => ?_) ?_ (hS ▸ keepA_ent 22 _ _ _ _ st)
  · exact ⟨fun _ => ⟨rfl, Dyn.Fits.refl _⟩, fun hf => absurd ((ru_all v).1 i hi) (by simpa using hf)⟩
  · exact ⟨fun ht => absurd (by simpa using ht) (ru_all v).2, fun _ => ⟨rfl, Dyn.Fits.refl _⟩⟩
theorem rootUp_ok (v : Int) : Dyn.CallD Try.prog 62 [dvI v] (rI (rootF v)) :=
  Dyn.dcontract (lp := ruLp v) (fuel := 3) (X := tabF0) tabF0_ok mo Try.func62 (by kernel_rfl) (c := bodyD Try.f62.body) (by kernel_rfl)
    (fun w0 => by rw [ru_blocks]; exact lpOk_cons (ru_loop v w0) (lpOk_cons (fun s o h => by cases h) lpOk_nil))
    (by kernel_rfl) (O := .side [ruS v ruA = ruS v ruA] (.leaf (rI (rootF v)))) (by kernel_rfl) ⟨⟨rfl, trivial⟩, rfl⟩
/-! ### take -/
def tkF (f : Bool) (a b : B4) : B4 := ⟨bif f then imin a.x0 b.x0 else b.x0, bif f then imin a.y0 b.y0 else b.y0, bif f then imax a.x1 b.x1 else b.x1, bif f then imax a.y1 b.y1 else b.y1⟩
def bxV (b : B4) : List Value := [vi b.x0, vi b.y0, vi b.x1, vi b.y1]
def tkL (f : Bool) (a : B4) : Dyn.Lent := [(4, [vb f]), (47, bxV a)]
theorem tk_O (f : Bool) (a b : B4) : (Dyn.dfunX Try.prog tabF0 Dyn.noLp 3 Try.f63 (tkL f a) [.d (dvX b), .lp 0 0, .lp 1 0]).rx Try.prog (tkL f a) Try.f63.results
    = .ite f (.leaf (.tuple ⟨[]⟩) [[vb true], bxV (tkF true a b)]) (.leaf (.tuple ⟨[]⟩) [[vb true], bxV (tkF false a b)]) := by kernel_rfl
theorem take_ok (f : Bool) (a b : B4) : Dyn.CallX Try.prog 63 [.d (dvX b), .lp 0 0, .lp 1 0] (tkL f a) (.tuple ⟨[]⟩) [[vb true], bxV (tkF f a b)] :=
  Dyn.xcontract (lp := Dyn.noLp) (fuel := 3) (X := tabF0) tabF0_ok mo Try.func63 (by kernel_rfl) (c := bodyD Try.f63.body) (by kernel_rfl) (fun w0 => Dyn.noLp_ok _ w0)
    (by kernel_rfl) (by kernel_rfl) (by kernel_rfl) (tk_O f a b) ⟨fun h => by subst h; exact ⟨rfl, rfl⟩, fun h => by subst h; exact ⟨rfl, rfl⟩⟩
def enTk : List Dyn.LA → Dyn.Lent → Option (Value × List (List Value) × List Prop)
  | [.d u, .lp 0 0, .lp 1 0], [(t, [.bool f]), (t2, [.int .i64 x0, .int .i64 y0, .int .i64 x1, .int .i64 y1])] => match aX u, Nat.beq t 4, Nat.beq t2 47 with
    | some b, true, true => some (.tuple ⟨[]⟩, [[vb true], bxV (tkF f ⟨x0, y0, x1, y1⟩ b)], [])
    | _, _, _ => none
  | _, _ => none
theorem CallX_le1 {P : Program} {K : Nat} {u u' : Dyn.DV} {l : List Dyn.LA} {lent : Dyn.Lent} {r : Value} {o : List (List Value)} (h1 : Dyn.DVLe u u') (k : Dyn.CallX P K (.d u' :: l) lent r o) : Dyn.CallX P K (.d u :: l) lent r o := fun w F bs us hF hn hd hl hden => k w F bs us hF hn hd hl (by
  cases us with
  | nil => exact hden
  | cons x us => exact ⟨Dyn.DenV_le h1 hden.1, hden.2⟩)
theorem enTk_ok : Dyn.EntryXOk Try.prog (63, enTk) := fun as' lent u out ps h hp => by
  dsimp only at h
  unfold enTk at h
  split at h
  · rename_i t f t2 x0 y0 x1 y1
    split at h
    · rename_i b hb ht ht2
      have e1 := Nat.eq_of_beq_eq_true ht
      have e2 := Nat.eq_of_beq_eq_true ht2
      subst e1; subst e2
      simp only [Option.some.injEq, Prod.mk.injEq] at h
      obtain ⟨rfl, rfl, rfl⟩ := h
      exact CallX_le1 (aX_eq hb) (take_ok f ⟨x0, y0, x1, y1⟩ b)
    · cases h
  · cases h
def BdOk (x : Sh) (g : Sh → B4 × Bool) : Prop := Dyn.CallD Try.prog 51 [dvS x] (.tup [dvX (g x).1, dvB (g x).2])
def tdBd (Pd : Sh → Prop) (g : Sh → B4 × Bool) : List Dyn.EntryD := [(62, en1D qI fun v => rI (rootF v)), (51, en1D (qAnd qS Pd) fun x => .tup [dvX (g x).1, dvB (g x).2])]
def drBd (K : Nat) : Bool := Nat.beq K 63
def tabBd (Pd : Sh → Prop) (g : Sh → B4 × Bool) : Dyn.Tabs := Dyn.tabsX tbF (tdBd Pd g) [(63, enTk)] drBd dtyS true
theorem tabBd_ok {Pd : Sh → Prop} {g : Sh → B4 × Bool} (ih : ∀ x, Pd x → BdOk x g) : Dyn.TabsOk Try.prog (tabBd Pd g) :=
  Dyn.tabsX_ok tbF_ok (List.forall_mem_cons.2 ⟨en1D_ok qI_ok fun v _ => rootUp_ok v, List.forall_mem_cons.2 ⟨en1D_ok (qAnd_ok qS_ok) fun x h => ih x h.1, fun _ h => by cases h⟩⟩) (List.forall_mem_cons.2 ⟨enTk_ok, fun _ h => by cases h⟩)
def bdQ : Bool × B4 := (false, ⟨0, 0, 0, 0⟩)
def bdI (l : Ctr) (i k : Nat) (q : Bool × B4) : Bool × B4 := (true, tkF q.1 q.2 (aroundF (l.p i k) (l.p i k) 0))
def bdO (l : Ctr) (i : Nat) (q : Bool × B4) : Bool × B4 := foldN (bdI l i) q (l.m i)
def bdP (g : Sh → B4 × Bool) (sh : Nat → Sh) (add : Nat → Bool) (i : Nat) (q : Bool × B4) : Bool × B4 := bif !(add i) then q else bif (g (sh i)).2 then (true, tkF q.1 q.2 (g (sh i)).1) else q
def sFn : Dyn.SV := .v (.func (.func 63) ⟨[]⟩ ⟨[.pointer (some ⟨4, 0, none⟩), .pointer (some ⟨3, 0, none⟩)]⟩)
def bdH (s : Sh) (q : Bool × B4) : List (Option Dyn.HE) := [some (.deep (cS s)), some (.cells 29 (shV 0 8 s)), some (.cells 47 [vi 0, vi 0, vi 0, vi 0]), some (.cells 47 (bxV q.2)), some (.cells 4 [vb q.1])]
def bdL : List (Nat × Dyn.SV) := [(1, sL 1), (2, sL 2), (3, .k (vb false)), (6, sL 3), (7, sL 4), (8, sFn)]
def bdS (s : Sh) (q : Bool × B4) (i : Int) : Dyn.St := mkS 114 (bdL ++ [(72, sH 0 8 s.l.n), (73, sI s.l.n), (74, sI i)]) (bdH s q)
def bdT (s : Sh) (q : Bool × B4) (i j : Int) : Dyn.St := mkS 114 (bdL ++ [(10, sH 5 0 (s.l.m i.toNat)), (72, sH 0 8 s.l.n), (73, sI s.l.n), (74, sI i), (78, sH 5 0 (s.l.m i.toNat)), (79, sI (s.l.m i.toNat)), (80, sI j)]) (bdH s q ++ [some (.deep [cRow (s.l.m i.toNat) (s.l.p i.toNat)])])
def bdU (s : Sh) (q : Bool × B4) (i : Int) : Dyn.St := mkS 114 (bdL ++ [(92, sH 0 9 s.n), (93, sI s.n), (94, sI i)]) (bdH s q)
def bdK0 : List Nat := [1, 2, 3, 6, 7, 8, 72, 73, 74]
def bdK1 : List Nat := [1, 2, 3, 6, 7, 8, 10, 72, 73, 74, 78, 79, 80]
def bdK2 : List Nat := [1, 2, 3, 6, 7, 8, 92, 93, 94]
def accB (st : Dyn.St) : Bool × B4 := match st.heap.getD 3 none, st.heap.getD 4 none with
  | some (.cells _ [.int _ x0, .int _ y0, .int _ x1, .int _ y1]), some (.cells _ [.bool f]) => (f, ⟨x0, y0, x1, y1⟩)
  | _, _ => bdQ
def bdLp (g : Sh → B4 × Bool) (sh : Nat → Sh) (add : Nat → Bool) (s : Sh) : Dyn.Lp := fun id st => match id with
  | 1 => some (.side [keepA 114 [0, 1, 2, 4, 5] [] bdK0 (2 ^ 74) st = bdS s bdQ 0] (.leaf .normal (bdS s (foldN (bdO s.l) bdQ s.l.n) s.l.n)))
  | 3 =>
    let q := accB st
    let i := intD (st.slots.getD 74 .junk)
    some (.side [keepA 114 [0, 1, 2, 3, 4] [10] bdK1 (2 ^ 80) st = bdT s q i 0, 0 ≤ i ∧ i < s.l.n] (.leaf .normal (bdT s (bdO s.l i.toNat q) i (s.l.m i.toNat))))
  | 5 =>
    let q := accB st
    some (.side [keepA 114 [0, 1, 2, 3, 4] [] bdK2 (2 ^ 94) st = bdU s q 0] (.leaf .normal (bdU s (foldN (bdP g sh add) q s.n) s.n)))
  | _ => none
def bdBi (s : Sh) (q : Bool × B4) (i j : Nat) : Dyn.Out :=
  .ite (decide ((j : Int) < s.l.m i)) (.side [0 ≤ (j : Int) ∧ (j : Int) < s.l.m i] (.leaf .normal (bdT s (bdI s.l i j q) i (W (j + 1))))) (.leaf (.exit 3) (bdT s q i j))
def bdBo (s : Sh) (q : Bool × B4) (i : Nat) : Dyn.Out :=
  .ite (decide ((i : Int) < s.l.n)) (.side [0 ≤ (i : Int) ∧ (i : Int) < s.l.n] (.side [bdT s q i 0 = bdT s q i 0, 0 ≤ (i : Int) ∧ (i : Int) < s.l.n] (.leaf .normal (bdS s (bdO s.l i q) (W (i + 1)))))) (.leaf (.exit 1) (bdS s q i))
def bdBp (Pd : Sh → Prop) (g : Sh → B4 × Bool) (sh : Nat → Sh) (add : Nat → Bool) (s : Sh) (q : Bool × B4) (i : Nat) : Dyn.Out :=
  .ite (decide ((i : Int) < s.n)) (.side [0 ≤ (i : Int) ∧ (i : Int) < s.n] (.ite (!(add i)) (.leaf .normal (bdU s q (W (i + 1)))) (.side [Pd (sh i), ctrSelf (sh i).l] (.ite (g (sh i)).2 (.leaf .normal (bdU s (true, tkF q.1 q.2 (g (sh i)).1) (W (i + 1)))) (.leaf .normal (bdU s q (W (i + 1)))))))) (.leaf (.exit 5) (bdU s q i))
theorem bd_Bi (Pd : Sh → Prop) (g : Sh → B4 × Bool) (sh : Nat → Sh) (add : Nat → Bool) (s : Sh) (q : Bool × B4) (i j : Nat) : (Dyn.lexec Try.prog (tabBd Pd g) (bdLp g sh add s) 3 (unloopD (blkD Try.f51.body 3)) .leaf (bdT s q i j)).rl (keepR 114 [0, 1, 2, 3, 4] [10] bdK1 []) = bdBi s q i j := by kernel_rfl
theorem bd_Bo (Pd : Sh → Prop) (g : Sh → B4 × Bool) (sh : Nat → Sh) (add : Nat → Bool) (s : Sh) (q : Bool × B4) (i : Nat) : (Dyn.lexec Try.prog (tabBd Pd g) (bdLp g sh add s) 3 (unloopD (blkD Try.f51.body 1)) .leaf (bdS s q i)).rl (keepR 114 [0, 1, 2, 3, 4] [] bdK0 []) = bdBo s q i := by kernel_rfl
theorem bd_Bp (Pd : Sh → Prop) (g : Sh → B4 × Bool) (k : Int) (a b c : P2) (r : Int) (l : Ctr) (n : Nat) (add : Nat → Bool) (sh : Nat → Sh) (q : Bool × B4) (i : Nat) : (Dyn.lexec Try.prog (tabBd Pd g) (bdLp g sh add (mkSh k a b c r l n add sh)) 3 (unloopD (blkD Try.f51.body 5)) .leaf (bdU (mkSh k a b c r l n add sh) q i)).rl (keepR 114 [0, 1, 2, 3, 4] [] bdK2 []) = bdBp Pd g sh add (mkSh k a b c r l n add sh) q i := by kernel_rfl
theorem bd_blocks : blocksL (bodyD Try.f51.body) = [(0, blkD Try.f51.body 0), (1, .loop (unloopD (blkD Try.f51.body 1))), (2, blkD Try.f51.body 2), (3, .loop (unloopD (blkD Try.f51.body 3))), (4, blkD Try.f51.body 4), (5, .loop (unloopD (blkD Try.f51.body 5))), (6, blkD Try.f51.body 6)] := by kernel_rfl
theorem bd_b1 : blocksL (unloopD (blkD Try.f51.body 1)) = [(2, blkD Try.f51.body 2), (3, .loop (unloopD (blkD Try.f51.body 3))), (4, blkD Try.f51.body 4)] := by kernel_rfl
theorem bd_b3 : blocksL (unloopD (blkD Try.f51.body 3)) = [(4, blkD Try.f51.body 4)] := by kernel_rfl
theorem bd_b5 : blocksL (unloopD (blkD Try.f51.body 5)) = [(6, blkD Try.f51.body 6)] := by kernel_rfl
theorem bd_inner {Pd : Sh → Prop} {g : Sh → B4 × Bool} (ih : ∀ x, Pd x → BdOk x g) (sh : Nat → Sh) (add : Nat → Bool) (s : Sh) (hl : CtrB s.l) (w0 : Dyn.Base Try.prog) (st : Dyn.St) (o : Dyn.Out)
    (h : bdLp g sh add s 3 st = some o) : Dyn.BlockSound Try.prog w0 3 (.loop (unloopD (blkD Try.f51.body 3))) st o := by
  simp only [bdLp, Option.some.injEq] at h
  subst h
  refine side_two fun hS hi => ?_
  revert hS hi
  generalize intD (st.slots.getD 74 .junk) = i'
  generalize accB st = q
  intro hS hi
  obtain ⟨i, rfl⟩ : ∃ i : Nat, i' = (i : Int) := ⟨i'.toNat, by omega⟩
  have hm : s.l.m i ≤ 1000000000 := hl.2 i (by omega)
  refine fold_block (fuel := 3) (tabBd_ok ih) mo (lp := bdLp g sh add s) (by rw [bd_b3]; exact lpOk_cons (fun s o h => by cases h) lpOk_nil) (fun j q => bdT s q i j) (s.l.m i) (bdI s.l i) q (keepR 114 [0, 1, 2, 3, 4] [10] bdK1 []) (keepR_ent 114 _ _ _ _) (fun j q => bdBi s q i j) (fun j q => bd_Bi Pd g sh add s q i j) (fun j hj => ?_) ?_ (hS ▸ keepA_ent 114 _ _ _ _ st)
  · refine ⟨fun _ => ⟨⟨⟨by omega, by omega⟩, trivial⟩, rfl, ?_⟩, fun hf => ?_⟩
    · rw [Wn1 hj hm]; exact Dyn.Fits.refl _
    · rw [decide_eq_false_iff_not] at hf; omega
  · refine ⟨fun ht => ?_, fun _ => ⟨rfl, Dyn.Fits.refl _⟩⟩
    rw [decide_eq_true_eq] at ht; omega
theorem bd_outer {Pd : Sh → Prop} {g : Sh → B4 × Bool} (ih : ∀ x, Pd x → BdOk x g) (sh : Nat → Sh) (add : Nat → Bool) (s : Sh) (hl : CtrB s.l) (w0 : Dyn.Base Try.prog) (st : Dyn.St) (o : Dyn.Out)
    (h : bdLp g sh add s 1 st = some o) : Dyn.BlockSound Try.prog w0 1 (.loop (unloopD (blkD Try.f51.body 1))) st o := by
  simp only [bdLp, Option.some.injEq] at h
  subst h
  refine side_one fun hS => ?_
  refine fold_block (fuel := 3) (tabBd_ok ih) mo (lp := bdLp g sh add s) (by rw [bd_b1]; exact lpOk_cons (fun s o h => by cases h) (lpOk_cons (bd_inner ih sh add s hl w0) (lpOk_cons (fun s o h => by cases h) lpOk_nil))) (fun i q => bdS s q i) s.l.n (bdO s.l) bdQ (keepR 114 [0, 1, 2, 3, 4] [] bdK0 []) (keepR_ent 114 _ _ _ _) (fun i q => bdBo s q i) (fun i q => bd_Bo Pd g sh add s q i) (fun i hi => ?_) ?_ (hS ▸ keepA_ent 114 _ _ _ _ st)
  · have hb : 0 ≤ (i : Int) ∧ (i : Int) < s.l.n := ⟨by omega, by omega⟩
    refine ⟨fun _ => ⟨⟨hb, trivial⟩, ⟨rfl, hb, trivial⟩, rfl, ?_⟩, fun hf => ?_⟩
    · rw [Wn1 hi hl.1]; exact Dyn.Fits.refl _
    · rw [decide_eq_false_iff_not] at hf; omega
  · refine ⟨fun ht => ?_, fun _ => ⟨rfl, Dyn.Fits.refl _⟩⟩
    rw [decide_eq_true_eq] at ht; omega
theorem bd_parts {Pd : Sh → Prop} {g : Sh → B4 × Bool} (ih : ∀ x, Pd x → BdOk x g) (k : Int) (a b c : P2) (r : Int) (l : Ctr) (n : Nat) (add : Nat → Bool) (sh : Nat → Sh) (hn : n ≤ 1000000000) (hP : ∀ i, i < n → Pd (sh i)) (w0 : Dyn.Base Try.prog) (st : Dyn.St) (o : Dyn.Out)
    (h : bdLp g sh add (mkSh k a b c r l n add sh) 5 st = some o) : Dyn.BlockSound Try.prog w0 5 (.loop (unloopD (blkD Try.f51.body 5))) st o := by
  simp only [bdLp, Option.some.injEq] at h
  subst h
  refine side_one fun hS => ?_
  revert hS
  generalize accB st = q0
  intro hS
  refine fold_block (fuel := 3) (tabBd_ok ih) mo (lp := bdLp g sh add (mkSh k a b c r l n add sh)) (by rw [bd_b5]; exact lpOk_cons (fun s o h => by cases h) lpOk_nil) (fun i q => bdU (mkSh k a b c r l n add sh) q i) n (bdP g sh add) q0 (keepR 114 [0, 1, 2, 3, 4] [] bdK2 []) (keepR_ent 114 _ _ _ _) (fun i q => bdBp Pd g sh add (mkSh k a b c r l n add sh) q i) (fun i q => bd_Bp Pd g k a b c r l n add sh q i) (fun i hi => ?_) ?_ (hS ▸ keepA_ent 114 _ _ _ _ st)
  · have hb : 0 ≤ (i : Int) ∧ (i : Int) < (n : Int) := ⟨by omega, by omega⟩
    generalize foldN (bdP g sh add) q0 i = q
    unfold bdP
    refine ⟨fun _ => ⟨⟨hb, trivial⟩, fun hx => ⟨rfl, ?_⟩, fun hx => ⟨⟨hP i hi, ctrSelf_ok _, trivial⟩, fun hy => ⟨rfl, ?_⟩, fun hy => ⟨rfl, ?_⟩⟩⟩, fun hf => ?_⟩
    · rw [Wn1 hi hn, hx]; exact Dyn.Fits.refl _
    · rw [Wn1 hi hn, hx, hy]; exact Dyn.Fits.refl _
    · rw [Wn1 hi hn, hx, hy]; exact Dyn.Fits.refl _
    · rw [decide_eq_false_iff_not] at hf
      exact absurd hb.2 hf
  · refine ⟨fun ht => ?_, fun _ => ⟨rfl, Dyn.Fits.refl _⟩⟩
    rw [decide_eq_true_eq] at ht
    exact absurd (show (n : Int) < (n : Int) from ht) (by omega)
def bdR (s : Sh) : Int := W (s.r + rootF (W (W (W (s.a.x - s.c.x) * W (s.a.x - s.c.x)) + W (W (s.a.y - s.c.y) * W (s.a.y - s.c.y)))))
def bdAll (g : Sh → B4 × Bool) (sh : Nat → Sh) (add : Nat → Bool) (s : Sh) : Bool × B4 := foldN (bdP g sh add) (foldN (bdO s.l) bdQ s.l.n) s.n
def bdOO (g : Sh → B4 × Bool) (sh : Nat → Sh) (add : Nat → Bool) (s : Sh) : Dyn.RO :=
  .ite (s.k == 1) (.leaf (.tup [dvX (aroundF s.a s.a s.r), dvB true]))
  (.ite (bif s.k == 3 then s.k == 3 else s.k == 4) (.leaf (.tup [dvX (aroundF s.a s.b s.r), dvB true]))
  (.ite (s.k == 5) (.leaf (.tup [dvX (aroundF s.c s.c (bdR s)), dvB true]))
  (.side [bdS s bdQ 0 = bdS s bdQ 0] (.side [bdU s (foldN (bdO s.l) bdQ s.l.n) 0 = bdU s (foldN (bdO s.l) bdQ s.l.n) 0] (.leaf (.tup [dvX (bdAll g sh add s).2, dvB (bdAll g sh add s).1]))))))
theorem bd_OO (Pd : Sh → Prop) (g : Sh → B4 × Bool) (sh : Nat → Sh) (add : Nat → Bool) (s : Sh) : (Dyn.dfun Try.prog (tabBd Pd g) (bdLp g sh add s) 3 Try.f51 [dvS s]).ro Try.prog Try.f51.results = bdOO g sh add s := by kernel_rfl
def boundsG (g : Sh → B4 × Bool) (sh : Nat → Sh) (add : Nat → Bool) (s : Sh) : B4 × Bool :=
  bif s.k == 1 then (aroundF s.a s.a s.r, true) else bif bif s.k == 3 then s.k == 3 else s.k == 4 then (aroundF s.a s.b s.r, true) else bif s.k == 5 then (aroundF s.c s.c (bdR s), true) else ((bdAll g sh add s).2, (bdAll g sh add s).1)
theorem bd_sat (g : Sh → B4 × Bool) (sh : Nat → Sh) (add : Nat → Bool) (s : Sh) : (bdOO g sh add s).sat fun r => Dyn.RVLe r (.tup [dvX (boundsG g sh add s).1, dvB (boundsG g sh add s).2]) := by
  unfold boundsG
  refine ⟨fun h => ?_, fun h => ⟨fun h2 => ?_, fun h2 => ⟨fun h3 => ?_, fun h3 => ⟨⟨rfl, trivial⟩, ⟨rfl, trivial⟩, ?_⟩⟩⟩⟩
  · rw [h]; exact ⟨Dyn.DVLe.refl _, rfl, trivial⟩
  · rw [h, h2]; exact ⟨Dyn.DVLe.refl _, rfl, trivial⟩
  · rw [h, h2, h3]; exact ⟨Dyn.DVLe.refl _, rfl, trivial⟩
  · rw [h, h2, h3]; exact ⟨Dyn.DVLe.refl _, Dyn.DVLe.refl _, trivial⟩
theorem bounds_lvl {Pd : Sh → Prop} {g : Sh → B4 × Bool} (ih : ∀ x, Pd x → BdOk x g) (k : Int) (a b c : P2) (r : Int) (l : Ctr) (n : Nat) (add : Nat → Bool) (sh : Nat → Sh) (hl : CtrB l) (hn : n ≤ 1000000000) (hP : ∀ i, i < n → Pd (sh i)) :
    Dyn.CallD Try.prog 51 [dvS (mkSh k a b c r l n add sh)] (.tup [dvX (boundsG g sh add (mkSh k a b c r l n add sh)).1, dvB (boundsG g sh add (mkSh k a b c r l n add sh)).2]) :=
  Dyn.dcontract (lp := bdLp g sh add (mkSh k a b c r l n add sh)) (fuel := 3) (tabBd_ok ih) mo Try.func51 (by kernel_rfl) (c := bodyD Try.f51.body) (by kernel_rfl)
    (fun w0 => by
      rw [bd_blocks]
      exact lpOk_cons (fun s o h => by cases h) (lpOk_cons (bd_outer ih sh add _ hl w0) (lpOk_cons (fun s o h => by cases h) (lpOk_cons (bd_inner ih sh add _ hl w0) (lpOk_cons (fun s o h => by cases h) (lpOk_cons (bd_parts ih k a b c r l n add sh hn hP w0) (lpOk_cons (fun s o h => by cases h) lpOk_nil)))))))
    (by kernel_rfl) (bd_OO Pd g sh add _) (bd_sat g sh add (mkSh k a b c r l n add sh))
/-- bounds, all the way down -/
def bndF : Shp → B4 × Bool
  | .nil => (⟨0, 0, 0, 0⟩, false)
  | .mk k a b c r l n add sub =>
    bif k == 1 then (aroundF a a r, true) else bif bif k == 3 then k == 3 else k == 4 then (aroundF a b r, true) else bif k == 5 then (aroundF c c (bdR ⟨k, a, b, c, r, l, n, noF⟩), true) else
    ((foldN (fun i q => bif !(add i) then q else bif (bndF (sub i)).2 then (true, tkF q.1 q.2 (bndF (sub i)).1) else q) (foldN (bdO l) bdQ l.n) n).2, (foldN (fun i q => bif !(add i) then q else bif (bndF (sub i)).2 then (true, tkF q.1 q.2 (bndF (sub i)).1) else q) (foldN (bdO l) bdQ l.n) n).1)
noncomputable def bndE (x : Sh) : B4 × Bool := bndF (ofSh x)
theorem bndE_eq (s : Shp) : bndE (toSh s) = bndF s := by unfold bndE; rw [ofSh_toSh]
theorem bndF_lvl (k : Int) (a b c : P2) (r : Int) (l : Ctr) (n : Nat) (add : Nat → Bool) (sub : Nat → Shp) : bndF (.mk k a b c r l n add sub) = boundsG bndE (fun i => toSh (sub i)) add (mkSh k a b c r l n add (fun i => toSh (sub i))) := by
  unfold boundsG bdAll bdP
  simp only [bndE_eq]
  rfl
theorem bnd_ok : ∀ s : Shp, ShB s → BdOk (toSh s) bndE := by
  intro s
  induction s with
  | nil => intro h; exact h.elim
  | mk k a b c r l n add sub ih =>
    intro h
    unfold BdOk
    rw [bndE_eq, bndF_lvl]
    exact bounds_lvl (Pd := fun x => ∃ i, i < n ∧ x = toSh (sub i)) (fun x hx => by
      obtain ⟨i, hi, rfl⟩ := hx
      exact ih i (h.2.2 i hi)) k a b c r l n add (fun i => toSh (sub i)) h.1 h.2.1 (fun i hi => ⟨i, hi, rfl⟩)
theorem bnd_all : ∀ x, PdS x → BdOk x bndE := fun x hx => by
  have k := bnd_ok _ hx.1
  unfold BdOk at k
  rw [show bndE (toSh (ofSh x)) = bndE x by unfold bndE; rw [ofSh_toSh]] at k
  exact CallD_le (args := [dvS (toSh (ofSh x))]) ⟨SLe.dv hx.2, trivial⟩ k
noncomputable def figBnd (x : Sh) : B4 × Bool := bif okE x then bndE x else (⟨0, 0, 0, 0⟩, false)
noncomputable def tdBb : List Dyn.EntryD := [(48, en1D (qAnd qS PdS) fun x => rB (okE x)), (51, en1D (qAnd qS PdS) fun x => .tup [dvX (bndE x).1, dvB (bndE x).2])]
noncomputable def tabBb : Dyn.Tabs := Dyn.tabs tbF tdBb noD dtyS
theorem tabBb_ok : Dyn.TabsOk Try.prog tabBb := Dyn.tabs_ok tbF_ok (List.forall_mem_cons.2 ⟨en1D_ok (qAnd_ok qS_ok) fun x h => figOk_ok x h.1, List.forall_mem_cons.2 ⟨en1D_ok (qAnd_ok qS_ok) fun x h => bnd_all x h.1, fun _ h => by cases h⟩⟩)
noncomputable def bbO (x : Sh) : Dyn.RO := .side [PdS x, ctrSelf x.l] (.ite (!(okE x)) (.leaf (.tup [dvX ⟨0, 0, 0, 0⟩, dvB false])) (.side [PdS x, ctrSelf x.l] (.leaf (.tup [dvX (bndE x).1, dvB (bndE x).2]))))
theorem bb_O (x : Sh) : (Dyn.dfun Try.prog tabBb Dyn.noLp 3 Try.f25 [dvS x]).ro Try.prog Try.f25.results = bbO x := by kernel_rfl
theorem figBnd_ok (x : Sh) (h : PdS x) : Dyn.CallD Try.prog 25 [dvS x] (.tup [dvX (figBnd x).1, dvB (figBnd x).2]) :=
  Dyn.dcontract (lp := Dyn.noLp) (fuel := 3) tabBb_ok mo Try.func25 (by kernel_rfl) (c := bodyD Try.f25.body) (by kernel_rfl) (fun w0 => Dyn.noLp_ok _ w0) (by kernel_rfl) (bb_O x) (by
    unfold figBnd
    refine ⟨⟨h, ctrSelf_ok _, trivial⟩, fun h1 => ?_, fun h1 => ⟨⟨h, ctrSelf_ok _, trivial⟩, ?_⟩⟩
    · rw [show okE x = false by simpa using h1]; exact ⟨Dyn.DVLe.refl _, rfl, trivial⟩
    · rw [show okE x = true by simpa using h1]; exact ⟨Dyn.DVLe.refl _, Dyn.DVLe.refl _, trivial⟩)
end Go.Proofs.Ytfooaikpcbnchaa

/-! ## Tuf -/
namespace Go.Proofs.Ytfooaikpcbnchaa
open Go Go.RowKit Sym
set_option maxRecDepth 100000

/-- a form of two, as the program writes it -/
def formS (add : Bool) (S U : Sh) : Sh := ⟨6, ze, ze, ze, 0, zeL, 2, Dyn.pickL 0 [partC true S, partC add U]⟩
noncomputable def tdZ : List Dyn.EntryD := (25, en1D (qAnd qS PdS) fun x => .tup [dvX (figBnd x).1, dvB (figBnd x).2]) :: tdY
noncomputable def tabZ : Dyn.Tabs := Dyn.tabs tbU tdZ drY dtyS
theorem tabZ_ok : Dyn.TabsOk Try.prog tabZ := Dyn.tabs_ok tbU_ok (List.forall_mem_cons.2 ⟨en1D_ok (qAnd_ok qS_ok) fun x h => figBnd_ok x h.1, List.forall_mem_cons.2 ⟨en0R_ok awake11_ok, List.forall_mem_cons.2 ⟨en2D_ok (qAnd_ok qS_ok) qI_ok fun x d h _ => small_all x h.1 d, List.forall_mem_cons.2 ⟨en3D_ok (qAnd_ok qS_ok) qB_ok qI_ok fun x q d h _ _ => tame_all x h.1 q d, List.forall_mem_cons.2 ⟨en2D_ok (qAnd_ok qS_ok) (qAnd_ok qS_ok) fun x y h h2 => same_all x h.1 y h2.1, List.forall_mem_cons.2 ⟨en2D_ok (qAnd_ok qS_ok) qT_ok fun x t h _ => move_ok x h.1 t, fun _ h => by cases h⟩⟩⟩⟩⟩⟩)
noncomputable def frV (F Z : Sh) (t : Tn) : Bool :=
  let p := (figBnd F).1
  let q := (figBnd Z).1
  let w := W (p.x1 - p.x0)
  let h := W (p.y1 - p.y0)
  bif bif (figBnd F).2 == (figBnd Z).2 then bif !(figBnd F).2 then true else bif W (q.x1 - q.x0) == (bif band t.q 1 == 1 then h else w) then W (q.y1 - q.y0) == (bif band t.q 1 == 1 then w else h) else false else false then true else false
noncomputable def frR (F Z : Sh) (t : Tn) : Dyn.RO := .side [PdS F, ctrIs 0 noF] (.side [PdS Z, ctrSelf Z.l] (.leaf (rB (frV F Z t))))
noncomputable def frO1 (s u S U F : Sh) (t : Tn) (add : Bool) : Dyn.RO :=
  let G := bif bif !(movesE S t) then true else !(movesE U t) then true else !(movesE F t)
  let Z := moveE F t
  let F' := formS add (moveE S t) (moveE U t)
  .side [PdS s, ctrSelf s.l, PdS u, ctrSelf u.l, W (1000000 + 1) ≠ 0] (.side [PdS S, ctrSelf S.l] (.side [PdS U, ctrSelf U.l] (.side [PdS F, ctrIs 0 noF]
    (.ite G (.side [G = true] (.ite true (.leaf (rB false)) (frR F Z t)))
      (.side [G = false, PdS Z, ctrSelf Z.l, PdW F', ctrIs 0 noF] (.ite (!(sameE Z F')) (.leaf (rB false)) (frR F Z t)))))))
noncomputable def frO (s u : Sh) (t : Tn) (add : Bool) : Dyn.RO :=
  .side [PdW s, ctrSelf s.l, some (!(smallE s 0)) = some false ∧ True → allP [PdW u, ctrSelf u.l]]
    (.ite (bif !(smallE s 0) then true else !(smallE u 0)) (.leaf (rB true)) (frO1 s u (tameE s true 2) (tameE u true 2) (formS add (tameE s true 2) (tameE u true 2)) (tameT t 1000000) add))
theorem fr_O (s u : Sh) (t : Tn) (add : Bool) : (Dyn.dfun Try.prog tabZ Dyn.noLp 3 Try.f5 [dvS s, dvS u, dvT t, dvB add]).ro Try.prog Try.f5.results = frO s u t add := by kernel_rfl
end Go.Proofs.Ytfooaikpcbnchaa

/-! ## Fir -/
namespace Go.Proofs.Ytfooaikpcbnchaa
open Go Go.RowKit Sym
set_option maxRecDepth 100000

/-- a box mirrored, turned by k quarters, moved -/
def rtB (m : Bool) (k : Int) (u : P2) (b : B4) : B4 :=
  let xl := bif m then -b.x1 else b.x0
  let xh := bif m then -b.x0 else b.x1
  ⟨(bif k == 1 then -b.y1 else bif k == 2 then -xh else bif k == 3 then b.y0 else xl) + u.x, (bif k == 1 then xl else bif k == 2 then -b.y1 else bif k == 3 then -xh else b.y0) + u.y,
   (bif k == 1 then -b.y0 else bif k == 2 then -xl else bif k == 3 then b.y1 else xh) + u.x, (bif k == 1 then xh else bif k == 2 then -b.y0 else bif k == 3 then -xl else b.y1) + u.y⟩
theorem B4x {a b : B4} (h0 : a.x0 = b.x0) (h1 : a.y0 = b.y0) (h2 : a.x1 = b.x1) (h3 : a.y1 = b.y1) : a = b := by
  obtain ⟨a0, a1, a2, a3⟩ := a
  obtain ⟨b0, b1, b2, b3⟩ := b
  cases h0; cases h1; cases h2; cases h3; rfl
def aroI (p q : P2) (r : Int) : B4 := ⟨imin p.x q.x - r, imin p.y q.y - r, imax p.x q.x + r, imax p.y q.y + r⟩
theorem aro_eq {p q : P2} {r : Int} (hp : PB 100000000 p) (hq : PB 100000000 q) (h0 : 0 ≤ r) (h1 : r ≤ 1000) : aroundF p q r = aroI p q r := by
  obtain ⟨⟨p1, p2⟩, p3, p4⟩ := hp
  obtain ⟨⟨q1, q2⟩, q3, q4⟩ := hq
  unfold aroundF aroI
  have e1 : -100000000 ≤ imin p.x q.x ∧ imin p.x q.x ≤ 100000000 := by unfold imin; split <;> omega
  have e2 : -100000000 ≤ imin p.y q.y ∧ imin p.y q.y ≤ 100000000 := by unfold imin; split <;> omega
  have e3 : -100000000 ≤ imax p.x q.x ∧ imax p.x q.x ≤ 100000000 := by unfold imax; split <;> omega
  have e4 : -100000000 ≤ imax p.y q.y ∧ imax p.y q.y ≤ 100000000 := by unfold imax; split <;> omega
  generalize imin p.x q.x = a at *
  generalize imin p.y q.y = b at *
  generalize imax p.x q.x = c at *
  generalize imax p.y q.y = d at *
  rw [W_id (x := a - r) (by omega) (by omega), W_id (x := b - r) (by omega) (by omega), W_id (x := c + r) (by omega) (by omega), W_id (x := d + r) (by omega) (by omega)]
  refine B4x ?_ ?_ ?_ ?_ <;> dsimp only
  · unfold imax; split <;> omega
  · unfold imax; split <;> omega
  · unfold imin; split <;> omega
  · unfold imin; split <;> omega
theorem aro_rt (m : Bool) {k : Int} (hk : Q4 k) (u p q : P2) (r : Int) : aroI ⟨(rt m k p).x + u.x, (rt m k p).y + u.y⟩ ⟨(rt m k q).x + u.x, (rt m k q).y + u.y⟩ r = rtB m k u (aroI p q r) := by
  unfold aroI rtB rt imin imax
  rcases hk with rfl | rfl | rfl | rfl <;> cases m <;> refine B4x ?_ ?_ ?_ ?_ <;> simp <;> (repeat' split) <;> omega
theorem tk_rt (m : Bool) {k : Int} (hk : Q4 k) (u : P2) (a b : B4) : tkF true (rtB m k u a) (rtB m k u b) = rtB m k u (tkF true a b) := by
  unfold tkF rtB imin imax
  rcases hk with rfl | rfl | rfl | rfl <;> cases m <;> refine B4x ?_ ?_ ?_ ?_ <;> simp <;> (repeat' split) <;> omega
/-- two running boxes, the second turned -/
def RB (m : Bool) (k : Int) (u : P2) (q q' : Bool × B4) : Prop := q'.1 = q.1 ∧ (q.1 = true → q'.2 = rtB m k u q.2)
theorem RB_tk {m : Bool} {k : Int} (hk : Q4 k) {u : P2} {q q' : Bool × B4} (h : RB m k u q q') (b : B4) : RB m k u (true, tkF q.1 q.2 b) (true, tkF q'.1 q'.2 (rtB m k u b)) := by
  obtain ⟨f, a⟩ := q
  obtain ⟨f', a'⟩ := q'
  obtain ⟨h1, h2⟩ := h
  dsimp only at h1 h2
  subst h1
  refine ⟨rfl, fun _ => ?_⟩
  dsimp only
  cases f'
  · rfl
  · rw [h2 rfl, tk_rt m hk]
theorem foldN_RB {m : Bool} {k : Int} {u : P2} {g g' : Nat → Bool × B4 → Bool × B4} {a a' : Bool × B4} (h0 : RB m k u a a') : ∀ n, (∀ i q q', i < n → RB m k u q q' → RB m k u (g i q) (g' i q')) → RB m k u (foldN g a n) (foldN g' a' n)
  | 0, _ => h0
  | n + 1, h => h n _ _ (by omega) (foldN_RB h0 n fun i q q' hi => h i q q' (by omega))
/-- no radius above 15 -/
def Thin : Shp → Prop
  | .nil => True
  | .mk _ _ _ _ r _ n _ sub => r ≤ 15 ∧ ∀ i, i < n → Thin (sub i)
theorem tame_thin : ∀ (s : Shp) (d : Int), Thin (tameS s true d) := by
  intro s
  induction s with
  | nil => intro d; trivial
  | mk k a b c r l n add sub ih =>
    intro d
    have kr : tmR ⟨k, a, b, c, r, l, n, noF⟩ true ≤ 15 := by
      have h := lR_bd r
      have h1 := Int.tmod_nonneg (a := lR r) 15 (by omega)
      have h2 := (tmod_bd (lR r) (n := 15) (by decide)).2
      show W ((lR r).tmod 15 + 1) ≤ 15
      rw [W_id (by omega) (by omega)]; omega
    have z : ∀ i, i < 0 → Thin ((fun _ => Shp.nil) i) := fun i hi => absurd hi (Nat.not_lt_zero i)
    simp only [tameS]
    generalize tmKk ⟨k, a, b, c, r, l, n, noF⟩ d = K
    cases K == 1
    · cases (bif K == 3 then K == 3 else K == 4)
      · cases K == 5
        · cases K == 2
          · exact ⟨by decide, fun i hi => ih i _⟩
          · exact ⟨by decide, z⟩
        · exact ⟨kr, z⟩
      · exact ⟨kr, z⟩
    · exact ⟨kr, z⟩
theorem wid_pos {r : Int} (h : widF r = true) : 1 ≤ r := by
  unfold widF at h
  rw [andB_eq, Bool.and_eq_true, decide_eq_true_eq, decide_eq_true_eq] at h
  omega
/-- the radius of a ring's bounds -/
theorem bdR_eq {s : Sh} {B : Int} (hB : B ≤ 100000000) (ha : PB B s.a) (hc : PB B s.c) : bdR s = W (s.r + rootF (distI s.a s.c)) := by
  have dx : W (s.a.x - s.c.x) = s.a.x - s.c.x := W_id (by have := ha.1; have := hc.1; omega) (by have := ha.1; have := hc.1; omega)
  have dy : W (s.a.y - s.c.y) = s.a.y - s.c.y := W_id (by have := ha.2; have := hc.2; omega) (by have := ha.2; have := hc.2; omega)
  have sx := sq_bd (A := 200000000) (x := s.a.x - s.c.x) (by have := ha.1; have := hc.1; omega) (by have := ha.1; have := hc.1; omega)
  have sy := sq_bd (A := 200000000) (x := s.a.y - s.c.y) (by have := ha.2; have := hc.2; omega) (by have := ha.2; have := hc.2; omega)
  unfold bdR distI
  rw [dx, dy, W_id (x := (s.a.x - s.c.x) * (s.a.x - s.c.x)) (by omega) (by omega), W_id (x := (s.a.y - s.c.y) * (s.a.y - s.c.y)) (by omega) (by omega), W_id (x := (s.a.x - s.c.x) * (s.a.x - s.c.x) + (s.a.y - s.c.y) * (s.a.y - s.c.y)) (by omega) (by omega)]
theorem aro_turn {t : Tn} {p q : P2} {r : Int} (hu : PB 1000000 t.u) (hp : PB 40 p) (hq : PB 40 q) (h0 : 0 ≤ r) (h1 : r ≤ 1000) : aroundF (turnPtF p t) (turnPtF q t) r = rtB (plX t) (plQ t) t.u (aroundF p q r) := by
  have a := turn_PB hp hu (by decide) (by decide)
  have b := turn_PB hq hu (by decide) (by decide)
  rw [aro_eq (PB_mono a (by decide)) (PB_mono b (by decide)) h0 h1, aro_eq (PB_mono hp (by decide)) (PB_mono hq (by decide)) h0 h1, turnPt_rt (PB_mono hp (by decide)) (PB_mono hu (by decide)), turnPt_rt (PB_mono hq (by decide)) (PB_mono hu (by decide)), aro_rt _ (plQ_Q4 t)]
theorem dist_80 {p q : P2} (hp : PB 40 p) (hq : PB 40 q) : distI p q ≤ 114 * 114 := by
  have sx := sq_bd (A := 80) (x := p.x - q.x) (by have := hp.1; have := hq.1; omega) (by have := hp.1; have := hq.1; omega)
  have sy := sq_bd (A := 80) (x := p.y - q.y) (by have := hp.2; have := hq.2; omega) (by have := hp.2; have := hq.2; omega)
  unfold distI; omega
def BT (t : Tn) (v v' : B4 × Bool) : Prop := v'.2 = v.2 ∧ (v.2 = true → v'.1 = rtB (plX t) (plQ t) t.u v.1)
theorem bnd_turn {t : Tn} (hu : PB 1000000 t.u) : ∀ (s : Shp) (d : Int), Fine (PB 40) s d → Thin s → BT t (bndF s) (bndF (turnS s t)) := by
  intro s
  induction s with
  | nil => intro d h; exact h.elim
  | mk k a b' c r l n add sub ih =>
    intro d h th
    have hr15 := th.1
    rcases h with ⟨rfl, rfl, rfl, rfl, rfl, ha, hr⟩ | ⟨rfl, rfl, rfl, rfl, ha, hb, hr⟩ | ⟨rfl, rfl, rfl, rfl, ha, hb, hr, hn⟩ | ⟨rfl, rfl, rfl, ha, hb, hc, hr, ho⟩ | ⟨rfl, rfl, rfl, rfl, rfl, rfl, hc⟩ | ⟨rfl, rfl, rfl, rfl, rfl, rfl, h5, hm, hs⟩
    · have := wid_pos hr
      exact ⟨rfl, fun _ => aro_turn hu ha ha (by omega) (by omega)⟩
    · have := wid_pos hr
      exact ⟨rfl, fun _ => aro_turn hu ha hb (by omega) (by omega)⟩
    · have := wid_pos hr
      exact ⟨rfl, fun _ => aro_turn hu ha hb (by omega) (by omega)⟩
    · have r1 := wid_pos hr
      refine ⟨rfl, fun _ => ?_⟩
      have rt0 := rootF_le (v := distI a c) (M := 114) (by decide) (by decide) (dist_80 ha hc)
      have ta := turn_PB ha hu (by decide) (by decide)
      have tb := turn_PB hb hu (by decide) (by decide)
      have tc := turn_PB hc hu (by decide) (by decide)
      have eW : W (r + rootF (distI a c)) = r + rootF (distI a c) := W_id (by omega) (by omega)
      have e1 : bdR ⟨5, a, b', c, r, zeC, 0, noF⟩ = r + rootF (distI a c) := by rw [bdR_eq (B := 40) (by decide) ha hc]; exact eW
      have e2 : bdR ⟨5, bif t.mx != t.my then turnPtF b' t else turnPtF a t, bif t.mx != t.my then turnPtF a t else turnPtF b' t, turnPtF c t, r, zeC, 0, noF⟩ = r + rootF (distI a c) := by
        cases t.mx != t.my
        · rw [bdR_eq (B := 40 + 1000000) (by decide) ta tc]
          show W (r + rootF (distI (turnPtF a t) (turnPtF c t))) = _
          rw [turn_dist ha hc hu (by decide) (by decide)]; exact eW
        · rw [bdR_eq (B := 40 + 1000000) (by decide) tb tc]
          show W (r + rootF (distI (turnPtF b' t) (turnPtF c t))) = _
          rw [turn_dist hb hc hu (by decide) (by decide), ← ho.2]; exact eW
      show aroundF (turnPtF c t) (turnPtF c t) (bdR ⟨5, bif t.mx != t.my then turnPtF b' t else turnPtF a t, bif t.mx != t.my then turnPtF a t else turnPtF b' t, turnPtF c t, r, zeC, 0, noF⟩) = rtB (plX t) (plQ t) t.u (aroundF c c (bdR ⟨5, a, b', c, r, zeC, 0, noF⟩))
      rw [e1, e2]
      exact aro_turn hu hc hc (by omega) (by omega)
    · have key : RB (plX t) (plQ t) t.u (foldN (bdO l) bdQ l.n) (foldN (bdO (turnC l t)) bdQ l.n) :=
        foldN_RB ⟨rfl, fun h => by cases h⟩ l.n fun i q q' hi hq => foldN_RB hq (l.m i) fun k q q' hk hq => by
          have hp := (hc.2 i hi).2 k hk
          show RB _ _ _ (true, tkF q.1 q.2 (aroundF (l.p i k) (l.p i k) 0)) (true, tkF q'.1 q'.2 (aroundF (turnPtF (l.p i k) t) (turnPtF (l.p i k) t) 0))
          rw [aro_turn hu hp hp (by decide) (by decide)]
          exact RB_tk (plQ_Q4 t) hq _
      exact key
    · have key : RB (plX t) (plQ t) t.u (foldN (fun i q => bif !(add i) then q else bif (bndF (sub i)).2 then (true, tkF q.1 q.2 (bndF (sub i)).1) else q) bdQ n) (foldN (fun i q => bif !(add i) then q else bif (bndF (turnS (sub i) t)).2 then (true, tkF q.1 q.2 (bndF (turnS (sub i) t)).1) else q) bdQ n) :=
        foldN_RB ⟨rfl, fun h => by cases h⟩ n fun i q q' hi hq => by
          have z := ih i (d + 1) (hs i hi) (th.2 i hi)
          cases add i
          · exact hq
          · show RB _ _ _ (bif (bndF (sub i)).2 then (true, tkF q.1 q.2 (bndF (sub i)).1) else q) (bif (bndF (turnS (sub i) t)).2 then (true, tkF q'.1 q'.2 (bndF (turnS (sub i) t)).1) else q')
            rw [z.1]
            cases e : (bndF (sub i)).2
            · exact hq
            · rw [z.2 e]
              exact RB_tk (plQ_Q4 t) hq _
      exact key
end Go.Proofs.Ytfooaikpcbnchaa

/-! ## Tug -/
namespace Go.Proofs.Ytfooaikpcbnchaa
open Go Go.RowKit Sym
set_option maxRecDepth 100000

theorem zeL_eq : zeL = zeC := rfl
def formP (add : Bool) (σ υ : Shp) : Shp := .mk 6 ze ze ze 0 zeL 2 (fun i => bif Nat.beq i 0 then true else add) (fun i => bif Nat.beq i 0 then σ else υ)
theorem form_le (add : Bool) (σ υ : Shp) : SLe (formS add (toSh σ) (toSh υ)) (toSh (formP add σ υ)) := ⟨rfl, rfl, rfl, rfl, rfl, rfl, rfl, fun i hi => by
  have hi : i < 2 := hi
  match i, hi with
  | 0, _ => rfl
  | 1, _ => rfl⟩
theorem form_B {add : Bool} {σ υ : Shp} (h : ShB σ) (k : ShB υ) : ShB (formP add σ υ) := ⟨CtrB_zeL, by decide, fun i hi => by
  match i, hi with
  | 0, _ => exact h
  | 1, _ => exact k⟩
theorem form_PdS {add : Bool} {σ υ : Shp} (h : ShB σ) (k : ShB υ) : PdS (formS add (toSh σ) (toSh υ)) := PdS_le (form_B h k) (form_le add σ υ)
theorem partC_inj {a b : Bool} {s t : Shp} (h : partC a (toSh s) = partC b (toSh t)) : a = b ∧ s = t := by
  have h1 := (List.cons.inj h).1
  have h2 := (List.cons.inj h).2
  refine ⟨?_, toSh_inj _ _ (cS_inj h2)⟩
  have h1 : cB a = cB b := h1
  simp only [cB, Dyn.DC.p.injEq, Value.bool.injEq] at h1
  exact h1
theorem form_of {add : Bool} {σ υ : Shp} (h : ShB σ) (k : ShB υ) : ∃ add' sub', ofSh (formS add (toSh σ) (toSh υ)) = .mk 6 ze ze ze 0 zeC 2 add' sub' ∧ (add' 0 = true ∧ sub' 0 = σ) ∧ (add' 1 = add ∧ sub' 1 = υ) := by
  obtain ⟨add', sub', e, hf⟩ := PdS_of (form_PdS (add := add) h k)
  refine ⟨add', sub', e, ?_, ?_⟩
  · have q : partC true (toSh σ) = partC (add' 0) (toSh (sub' 0)) := hf 0 (by show 0 < 2; decide)
    have z := partC_inj q
    exact ⟨z.1.symm, z.2.symm⟩
  · have q : partC add (toSh υ) = partC (add' 1) (toSh (sub' 1)) := hf 1 (by show 1 < 2; decide)
    have z := partC_inj q
    exact ⟨z.1.symm, z.2.symm⟩
theorem okE_d {P : P2 → Prop} (hP : ∀ p, P p → nearF p = true) {x : Sh} {d : Int} (h : Fine P (ofSh x) d) (h0 : 0 ≤ d) : okE x = true := by
  have n := Nd_one d
  exact (fine_valid hP (ofSh x) d 0 1000 h h0 (by decide) h0 (by omega) (by decide)).1
theorem move_d {B C : Int} {x : Sh} {t : Tn} {d : Int} (h : Fine (PB B) (ofSh x) d) (h0 : 0 ≤ d) (g : PB C t.u) (b : B ≤ 536870912) (c : B + C ≤ 536870912) (c' : C ≤ 1000000000000) : movesE x t = true ∧ moveE x t = toSh (turnS (ofSh x) t) ∧ Fine (PB (B + C)) (turnS (ofSh x) t) d ∧ okE (toSh (turnS (ofSh x) t)) = true ∧ okE x = true := by
  have f := turn_fine g (by omega) c' (ofSh x) d h
  have e1 : okE x = true := okE_d (fun p hp => PB_near b hp) h h0
  have e2 : okE (toSh (turnS (ofSh x) t)) = true := okE_d (fun p hp => PB_near c hp) (by rw [ofSh_toSh]; exact f) h0
  have e3 : turnE x t = toSh (turnS (ofSh x) t) := rfl
  refine ⟨?_, ?_, f, e2, e1⟩
  · unfold movesE; rw [e1, e3, e2]; rfl
  · unfold moveE; rw [e1, e3, e2]; rfl
theorem same_refl : ∀ s : Shp, ShB s → sameF s s = true := by
  intro s
  induction s with
  | nil => intro h; exact h.elim
  | mk k a b c r l n add sub ih => intro h; exact same_mk (spt_refl l) fun i hi => ⟨rfl, ih i (h.2.2 i hi)⟩
theorem odd_eq (t : Tn) : (band t.q 1 == 1) = (plQ t == 1 || plQ t == 3) := by
  have e1 : ∀ x : Int, band x 1 = ((BitVec.ofInt 64 x).toNat % 2 : Nat) := fun x => by
    unfold band
    have : (BitVec.ofInt 64 x &&& BitVec.ofInt 64 1).toNat = (BitVec.ofInt 64 x).toNat % 2 := by
      rw [BitVec.toNat_and, show (BitVec.ofInt 64 1).toNat = 2 ^ 1 - 1 from rfl, Nat.and_two_pow_sub_one_eq_mod]
    rw [this, W_id (by omega) (by omega)]
  have e3 : ∀ x : Int, band x 3 = ((BitVec.ofInt 64 x).toNat % 4 : Nat) := fun x => by
    unfold band
    have : (BitVec.ofInt 64 x &&& BitVec.ofInt 64 3).toNat = (BitVec.ofInt 64 x).toNat % 4 := by
      rw [BitVec.toNat_and, show (BitVec.ofInt 64 3).toNat = 2 ^ 2 - 1 from rfl, Nat.and_two_pow_sub_one_eq_mod]
    rw [this, W_id (by omega) (by omega)]
  have p : band t.q 1 = quF t.q % 2 := by unfold quF; rw [e1, e3]; omega
  rw [p]
  unfold plQ
  have hq := quF_Q4 t.q
  generalize quF t.q = κ at *
  rcases hq with rfl | rfl | rfl | rfl <;> cases t.my <;> decide +kernel
theorem frV_true {F Z : Sh} {t : Tn} (h : BT t (figBnd F) (figBnd Z)) : frV F Z t = true := by
  unfold frV
  dsimp only
  rw [h.1]
  cases e : (figBnd F).2
  · rfl
  · rw [h.2 e, odd_eq]
    generalize (figBnd F).1 = b
    unfold rtB
    dsimp only
    rcases plQ_Q4 t with q | q | q | q <;> rw [q] <;> cases plX t <;> simp <;> (refine ⟨?_, ?_⟩ <;> (apply congrArg W; omega))
theorem forms_ok' (s u : Sh) (hs : PdW s) (hu : PdW u) (t : Tn) (add : Bool) : Dyn.CallD Try.prog 5 [dvS s, dvS u, dvT t, dvB add] (rB true) := by
  refine Dyn.dcontract (lp := Dyn.noLp) (fuel := 3) tabZ_ok mo Try.func5 (by kernel_rfl) (c := bodyD Try.f5.body) (by kernel_rfl) (fun w0 => Dyn.noLp_ok _ w0) (by kernel_rfl) (fr_O s u t add) ?_
  refine ⟨⟨hs, ctrSelf_ok _, fun _ => ⟨hu, ctrSelf_ok _, trivial⟩, trivial⟩, fun h => ro_leaf rfl, fun h => ?_⟩
  have h1 : smallE s 0 = true := by cases e : smallE s 0 <;> simp [e] at h ⊢
  have h2 : smallE u 0 = true := by cases e : smallE u 0 <;> simp [e, h1] at h ⊢
  have bS : ShB (ofSh s) := small_B _ 0 h1
  have bU : ShB (ofSh u) := small_B _ 0 h2
  have pT := tameT_PB t (n := 1000000) (by decide) (by decide)
  have fS : Fine (PB 40) (tameS (ofSh s) true 2) 2 := tame_fine true (ofSh s) 2 bS (by decide) (by decide)
  have fU : Fine (PB 40) (tameS (ofSh u) true 2) 2 := tame_fine true (ofSh u) 2 bU (by decide) (by decide)
  have nS := tame_thin (ofSh s) 2
  have nU := tame_thin (ofSh u) 2
  show (frO1 s u (toSh (tameS (ofSh s) true 2)) (toSh (tameS (ofSh u) true 2)) (formS add (toSh (tameS (ofSh s) true 2)) (toSh (tameS (ofSh u) true 2))) (tameT t 1000000) add).sat _
  revert pT fS fU nS nU
  generalize tameS (ofSh s) true 2 = σ
  generalize tameS (ofSh u) true 2 = υ
  generalize tameT t 1000000 = t'
  intro pT fS fU nS nU
  have BS := fine_B σ 2 fS (by decide)
  have BU := fine_B υ 2 fU (by decide)
  obtain ⟨add', sub', eo, ⟨x0, x1⟩, ⟨x2, x3⟩⟩ := form_of (add := add) BS BU
  have fF : Fine (PB 40) (ofSh (formS add (toSh σ) (toSh υ))) 1 := by
    rw [eo]
    refine .inr (.inr (.inr (.inr (.inr ⟨rfl, rfl, rfl, rfl, rfl, rfl, by decide, .inl (by decide), fun i hi => ?_⟩))))
    match i, hi with
    | 0, _ => rw [x1]; exact fS
    | 1, _ => rw [x3]; exact fU
  have nF : Thin (ofSh (formS add (toSh σ) (toSh υ))) := by
    rw [eo]
    refine ⟨by decide, fun i hi => ?_⟩
    match i, hi with
    | 0, _ => rw [x1]; exact nS
    | 1, _ => rw [x3]; exact nU
  have mS := move_d (x := toSh σ) (t := t') (C := 1000000) (by rw [ofSh_toSh]; exact fS) (by decide) pT (by decide) (by decide) (by decide)
  have mU := move_d (x := toSh υ) (t := t') (C := 1000000) (by rw [ofSh_toSh]; exact fU) (by decide) pT (by decide) (by decide) (by decide)
  have mF := move_d (x := formS add (toSh σ) (toSh υ)) (t := t') (C := 1000000) fF (by decide) pT (by decide) (by decide) (by decide)
  rw [ofSh_toSh] at mS mU
  have pF : PdS (formS add (toSh σ) (toSh υ)) := form_PdS BS BU
  have pZ : PdS (moveE (formS add (toSh σ) (toSh υ)) t') := moveE_PdS pF _
  have tS := turnS_B σ BS t'
  have tU := turnS_B υ BU t'
  have val : frV (formS add (toSh σ) (toSh υ)) (moveE (formS add (toSh σ) (toSh υ)) t') t' = true := by
    refine frV_true ?_
    have k := bnd_turn pT _ 1 fF nF
    unfold figBnd
    rw [mF.2.2.2.2, mF.2.1, mF.2.2.2.1, bndE_eq]
    exact k
  have same : sameE (moveE (formS add (toSh σ) (toSh υ)) t') (formS add (moveE (toSh σ) t') (moveE (toSh υ) t')) = true := by
    rw [mS.2.1, mU.2.1, mF.2.1]
    obtain ⟨add2, sub2, eo2, ⟨y0, y1⟩, ⟨y2, y3⟩⟩ := form_of (add := add) tS tU
    unfold sameE
    rw [ofSh_toSh, eo2, eo]
    show sameF (.mk 6 ze ze ze 0 zeC 2 add' (fun i => turnS (sub' i) t')) _ = true
    refine same_mk (spt_refl zeC) fun i hi => ?_
    match i, hi with
    | 0, _ => exact ⟨x0.trans y0.symm, by rw [x1, y1]; exact same_refl _ tS⟩
    | 1, _ => exact ⟨x2.trans y2.symm, by rw [x3, y3]; exact same_refl _ tU⟩
  have rest : (frR (formS add (toSh σ) (toSh υ)) (moveE (formS add (toSh σ) (toSh υ)) t') t').sat fun r => Dyn.RVLe r (rB true) := ⟨⟨pF, lit_Is, trivial⟩, ⟨pZ, ctrSelf_ok _, trivial⟩, by rw [val]; exact ro_leaf rfl⟩
  unfold frO1
  dsimp only
  rw [mS.1, mU.1, mF.1]
  refine ⟨⟨⟨bS, hs.2⟩, ctrSelf_ok _, ⟨bU, hu.2⟩, ctrSelf_ok _, by decide, trivial⟩, ⟨PdS_mk BS, ctrSelf_ok _, trivial⟩, ⟨PdS_mk BU, ctrSelf_ok _, trivial⟩, ⟨pF, lit_Is, trivial⟩, fun h => (by cases h), fun _ => ⟨⟨rfl, pZ, ctrSelf_ok _, ?_, lit_Is, trivial⟩, fun h => ?_, fun _ => rest⟩⟩
  · rw [mS.2.1, mU.2.1]; exact PdS_W (form_PdS tS tU)
  · rw [same] at h; cases h
theorem turnForms_ok (s : Shp) (hs : ShW s) (u : Shp) (hu : ShW u) (t : Tn) (add : Bool) : Dyn.CallD Try.prog 5 [dvS (toSh s), dvS (toSh u), dvT t, dvB add] (rB true) := forms_ok' _ _ (PdW_mk hs) (PdW_mk hu) t add
end Go.Proofs.Ytfooaikpcbnchaa
