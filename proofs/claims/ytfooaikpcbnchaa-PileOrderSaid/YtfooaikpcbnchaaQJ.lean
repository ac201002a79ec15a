/-
  OWN WORK. Joined by merge.py: Cql Cqm.
-/
import Derived.Test.YtfooaikpcbnchaaQI
/-! ## Cql -/
namespace Go.Proofs.Ytfooaikpcbnchaa
open Go Go.RowKit Sym
set_option maxRecDepth 100000

/-- an object such as may be -/
structure Tam2 (s : Shp) : Prop where
  f : Fine (PB (tmX true)) s 2
  ok : okE (toSh s) = true
theorem tam2_of (s : Shp) (h : ShB s) : Tam2 (tameS s true 2) := ⟨tame_fine true s 2 h (by decide) (by decide), tame2_ok true s h⟩
theorem Tam2.B {s : Shp} (h : Tam2 s) : ShB s := fine_B _ 2 h.f (by decide)
theorem Tam2.c {s : Shp} (h : Tam2 s) : cntS s ≤ 100000000 := by have := cnt_fine s 2 h.f (by decide); have := Nd_one 2; omega
theorem Tam2.has {s : Shp} (h : Tam2 s) (p : P2) : figHasS s p = hasF s p := by unfold figHasS; rw [h.ok]; rfl
theorem Tam2.cls {s : Shp} (h : Tam2 s) (b : B4) : figClassC s b = classF s b := by
  have e := h.ok
  rw [okE_S] at e
  unfold figClassC; rw [e]; rfl
theorem Tam2.bnd {s : Shp} (h : Tam2 s) : figBnd (toSh s) = bndF s := by
  have e := h.ok
  rw [okE_S] at e
  rw [figBnd_C]; unfold figBndC; rw [e]; rfl
def morL (N : Nat) (add : Nat → Bool) (sub : Nat → Shp) (d : Bool) (σ : Shp) : Shp := lForm (N + 1) (fun i => bif Nat.blt i N then add i else d) (fun i => bif Nat.blt i N then sub i else σ)
theorem blt_t {i N : Nat} (h : i < N) : Nat.blt i N = true := Nat.ble_eq_true_of_le h
theorem blt_f (N : Nat) : Nat.blt N N = false := by rw [Bool.eq_false_iff]; exact fun e => absurd (Nat.le_of_ble_eq_true e) (by omega)
theorem mor_has (N : Nat) (add : Nat → Bool) (sub : Nat → Shp) (d : Bool) (σ : Shp) (p : P2) : pHas (morL N add sub d σ) p = bif figHasS σ p then d else pHas (lForm N add sub) p := by
  show (bif figHasS (bif Nat.blt N N then sub N else σ) p then (bif Nat.blt N N then add N else d) else foldN (hasN (fun i => figHasS (bif Nat.blt i N then sub i else σ) p) (fun i => bif Nat.blt i N then add i else d)) false N) = _
  rw [blt_f]
  show (bif figHasS σ p then d else foldN (hasN (fun i => figHasS (bif Nat.blt i N then sub i else σ) p) (fun i => bif Nat.blt i N then add i else d)) false N) = _
  rw [show foldN (hasN (fun i => figHasS (bif Nat.blt i N then sub i else σ) p) (fun i => bif Nat.blt i N then add i else d)) false N = pHas (lForm N add sub) p from foldN_cg N fun i hi x => by
    unfold hasN; dsimp only; rw [blt_t hi]; rfl]
theorem mor_cls (N : Nat) (add : Nat → Bool) (sub : Nat → Shp) (d : Bool) (σ : Shp) (b : B4) : pClassC (morL N add sub d σ) b = foldF (pClassC (lForm N add sub) b) (figClassC σ b) d := by
  show foldF (foldN (fun i acc => foldF acc (figClassC (bif Nat.blt i N then sub i else σ) b) (bif Nat.blt i N then add i else d)) 0 N) (figClassC (bif Nat.blt N N then sub N else σ) b) (bif Nat.blt N N then add N else d) = _
  rw [blt_f]
  show foldF (foldN (fun i acc => foldF acc (figClassC (bif Nat.blt i N then sub i else σ) b) (bif Nat.blt i N then add i else d)) 0 N) (figClassC σ b) d = _
  rw [show foldN (fun i acc => foldF acc (figClassC (bif Nat.blt i N then sub i else σ) b) (bif Nat.blt i N then add i else d)) 0 N = pClassC (lForm N add sub) b from foldN_cg N fun i hi x => by
    rw [blt_t hi]; rfl]
/-- what is not near has no point of the box -/
theorem near_no {s : Shp} (h : Tam2 s) {b : B4} (hb : Fits b) (hR : BR b) {x y : Int} (hk : (bif (figBnd (toSh s)).2 then !(apart (figBnd (toSh s)).1 b) else false) = false) (hx : b.x0 ≤ b.x1) (hy : b.y0 ≤ b.y1) : hasF s (lIn b x y) = false := by
  cases hh : hasF s (lIn b x y) with
  | false => rfl
  | true =>
    exfalso
    have k := lIn_has x y hR hx hy
    have hi : hasI b (lIn b x y) := k.1
    have pf : PB FF (lIn b x y) := by
      obtain ⟨h1, h2, h3, h4⟩ := hi
      obtain ⟨f1, f2, f3, f4, f5, f6⟩ := hb
      unfold FF; exact ⟨⟨by omega, by omega⟩, by omega, by omega⟩
    have q := (fine_bnd (tmX_le true) s 2 h.f).1 _ pf hh
    have q2 := (fine_bnd (tmX_le true) s 2 h.f).2 q.1
    rw [h.bnd, q.1] at hk
    have ha : apart (bndF s).1 b = true := by simpa using hk
    have o := apart_off q2 hb ha
    obtain ⟨h1, h2, h3, h4⟩ := hi
    obtain ⟨g1, g2, g3, g4⟩ := q.2
    unfold Off at o
    omega
theorem near_two {s : Shp} (h : Tam2 s) {b : B4} (hb : Fits b) (hR : BR b) (hk : (bif (figBnd (toSh s)).2 then !(apart (figBnd (toSh s)).1 b) else false) = false) (hx : b.x0 ≤ b.x1) (hy : b.y0 ≤ b.y1) (hS : Sure (hasF s (lIn b 0 0)) (classF s b)) : figClassC s b ≠ 2 := by
  rw [h.cls]
  intro e
  have := hS.i1 e
  rw [near_no h hb hR hk hx hy] at this; cases this
theorem near_has {N : Nat} {add : Nat → Bool} {sub : Nat → Shp} (hT : ∀ i, i < N → Tam2 (sub i)) {b : B4} (hb : Fits b) (hR : BR b) (hx : b.x0 ≤ b.x1) (hy : b.y0 ≤ b.y1) (x y : Int) : pHas (filL (nyC (lForm N add sub) b) (lForm N add sub)) (lIn b x y) = pHas (lForm N add sub) (lIn b x y) := by
  rw [pHas_fil]
  exact has_drop fun i hi hk => by
    show figHasS (sub i) (lIn b x y) = false
    rw [(hT i hi).has]
    exact near_no (hT i hi) hb hR hk hx hy
theorem near_R1 {N : Nat} {add : Nat → Bool} {sub : Nat → Shp} (hT : ∀ i, i < N → Tam2 (sub i)) {b : B4} (hb : Fits b) (hR : BR b) (hx : b.x0 ≤ b.x1) (hy : b.y0 ≤ b.y1) (hS : ∀ i, i < N → Sure (hasF (sub i) (lIn b 0 0)) (classF (sub i) b)) : R1 (pClassC (lForm N add sub) b) (pClassC (filL (nyC (lForm N add sub) b) (lForm N add sub)) b) := by
  rw [pClass_fil]
  exact (fold_R1 (fun i => fig3 (suO (lForm N add sub) i) b) fun i hi hk => near_two (hT i hi) hb hR hk hx hy (hS i hi)).2
end Go.Proofs.Ytfooaikpcbnchaa

/-! ## Cqm -/
namespace Go.Proofs.Ytfooaikpcbnchaa
open Go Go.RowKit Sym
set_option maxRecDepth 100000

theorem po_key {T : Sh} (hN : T.n ≤ 12) {add : Nat → Bool} {sub : Nat → Shp} (hf : ∀ i, i < T.n → T.f i = partC (add i) (toSh (sub i))) (hT : ∀ i, i < T.n → Tam2 (sub i)) {σ : Shp} (hσ : Tam2 σ) {b : B4} (hb : Fits b) (hR : BR b) (hx : b.x0 ≤ b.x1) (hy : b.y0 ≤ b.y1) (hS : ∀ i, i < T.n → Sure (hasF (sub i) (lIn b 0 0)) (classF (sub i) b)) (x y : Int) :
    (PxL 1 (poTop (toSh σ)) ∧ PxL T.n T.f ∧ PxH 1 (poHol (toSh σ)) ∧ PxL (poNea T b).n (poNea T b).f ∧ PxL (0 + T.n + 1) (poMor T (toSh σ)) ∧ PxL (poLes T (toSh σ)).n (poLes T (toSh σ)).f) ∧ poC T (toSh σ) b (lIn b x y) 9 = true := by
  have hs : ∀ i, i < T.n → ShB (sub i) ∧ cntS (sub i) ≤ 100000000 := fun i hi => ⟨(hT i hi).B, (hT i hi).c⟩
  have A := lst_eq (by omega) hs hf
  obtain ⟨ad, su, e0, _, hs0, hf0⟩ := lst_spec A.1
  have q : ∀ i, i < T.n → ad i = add i ∧ su i = sub i := fun i hi => partC_inj ((hf0 i hi).symm.trans (hf i hi))
  have hT0 : ∀ i, i < T.n → Tam2 (su i) := fun i hi => by rw [(q i hi).2]; exact hT i hi
  have hS0 : ∀ i, i < T.n → Sure (hasF (su i) (lIn b 0 0)) (classF (su i) b) := fun i hi => by rw [(q i hi).2]; exact hS i hi
  have B := lst_eq (n := 1) (f := poTop (toSh σ)) (add := fun _ => true) (sub := fun _ => σ) (by decide) (fun _ _ => ⟨hσ.B, hσ.c⟩) (fun i hi => by have h0 : i = 0 := Nat.lt_one_iff.1 hi; subst h0; rfl)
  have hH : PxH 1 (poHol (toSh σ)) := ⟨fun _ => σ, by decide, fun _ _ => ⟨hσ.B, hσ.c⟩, fun i hi => by have h0 : i = 0 := Nat.lt_one_iff.1 hi; subst h0; rfl⟩
  obtain ⟨ho, eh, _, _, hh0⟩ := hl_spec hH
  have e1 : ho 0 = σ := toSh_injQ (cS_injQ ((hh0 0 (by decide)).symm.trans rfl))
  have C := lst_eq (n := 0 + T.n + 1) (f := poMor T (toSh σ)) (add := fun i => bif Nat.blt i T.n then ad i else true) (sub := fun i => bif Nat.blt i T.n then su i else σ) (by omega) (fun i hi => by
      by_cases h : i < T.n
      · rw [blt_t h]; exact hs0 i h
      · obtain rfl : i = T.n := by omega
        rw [blt_f]; exact ⟨hσ.B, hσ.c⟩) (fun i hi => by
      unfold poMor Dyn.appF
      rw [Nat.zero_add]
      by_cases h : i < T.n
      · rw [blt_t h]; exact hf0 i h
      · obtain rfl : i = T.n := by omega
        rw [blt_f, Nat.sub_self]; rfl)
  have eD : poLes T (toSh σ) = toSh (lesL T.n ad su 1 ho) := by unfold poLes lesS; rw [e0, eh]; rfl
  have D := lst_eq (n := T.n + 1) (f := (toSh (lesL T.n ad su 1 ho)).f) (add := fun i => bif Nat.blt i T.n then ad i else false) (sub := fun i => bif Nat.blt i T.n then su i else σ) (by omega) (fun i hi => by
      by_cases h : i < T.n
      · rw [blt_t h]; exact hs0 i h
      · obtain rfl : i = T.n := by omega
        rw [blt_f]; exact ⟨hσ.B, hσ.c⟩) (fun i hi => by
      show partC (bif Nat.blt i T.n then ad i else false) (toSh (bif Nat.blt i T.n then su i else ho (i - T.n))) = _
      by_cases h : i < T.n
      · rw [blt_t h]; rfl
      · obtain rfl : i = T.n := by omega
        rw [blt_f, Nat.sub_self, e1])
  have eE : poNea T b = toSh (filL (nyC (lForm T.n ad su) b) (lForm T.n ad su)) := by unfold poNea; rw [e0]
  have E := lst_eq (n := kN (nyC (lForm T.n ad su) b) T.n) (f := (toSh (filL (nyC (lForm T.n ad su) b) (lForm T.n ad su))).f) (add := fun j => ad (kIx (nyC (lForm T.n ad su) b) T.n j)) (sub := fun j => su (kIx (nyC (lForm T.n ad su) b) T.n j)) (by have := kN_le (nyC (lForm T.n ad su) b) T.n; omega) (fun j hj => hs0 _ (kIx_lt _ hj).1) (fun _ _ => rfl)
  refine ⟨⟨B.1, A.1, hH, by rw [eE]; exact E.1, C.1, by rw [eD]; exact D.1⟩, ?_⟩
  have hC1 : ∀ p, pHas (lstOf (0 + T.n + 1) (poMor T (toSh σ))) p = bif figHasS σ p then true else pHas (lForm T.n ad su) p := fun p => by
    rw [C.2.1, Nat.zero_add]; exact mor_has T.n ad su true σ p
  have hC2 : ∀ b, pClassC (lstOf (0 + T.n + 1) (poMor T (toSh σ))) b = foldF (pClassC (lForm T.n ad su) b) (figClassC σ b) true := fun b => by
    rw [C.2.2, Nat.zero_add]; exact mor_cls T.n ad su true σ b
  have hD1 : ∀ p, pHas (lstOf (poLes T (toSh σ)).n (poLes T (toSh σ)).f) p = bif figHasS σ p then false else pHas (lForm T.n ad su) p := fun p => by
    rw [eD]; exact (D.2.1 p).trans (mor_has T.n ad su false σ p)
  have hD2 : ∀ b, pClassC (lstOf (poLes T (toSh σ)).n (poLes T (toSh σ)).f) b = foldF (pClassC (lForm T.n ad su) b) (figClassC σ b) false := fun b => by
    rw [eD]; exact (D.2.2 b).trans (mor_cls T.n ad su false σ b)
  have hE1 : pHas (lstOf (poNea T b).n (poNea T b).f) (lIn b x y) = pHas (lForm T.n ad su) (lIn b x y) := by
    rw [eE]; exact (E.2.1 _).trans (near_has hT0 hb hR hx hy x y)
  have hE2 : R1 (pClassC (lForm T.n ad su) b) (pClassC (lstOf (poNea T b).n (poNea T b).f) b) := by
    rw [eE]; rw [show pClassC (lstOf (toSh (filL (nyC (lForm T.n ad su) b) (lForm T.n ad su))).n (toSh (filL (nyC (lForm T.n ad su) b) (lForm T.n ad su))).f) b = _ from E.2.2 b]
    exact near_R1 hT0 hb hR hx hy hS0
  have hB1 : pHas (lstOf 1 (poTop (toSh σ))) (lIn b x y) = figHasS σ (lIn b x y) := by
    rw [B.2.1]
    show (bif figHasS σ (lIn b x y) then true else false) = _
    cases figHasS σ (lIn b x y) <;> rfl
  have hn : ((poLes T (toSh σ)).n : Int) = (T.n : Int) + 1 := by rw [eD]; rfl
  have r3 := pile3 (lForm T.n ad su) b
  have f3 := fig3 σ b
  unfold poC
  dsimp only
  simp only [pClass_C]
  rw [hB1, hC1, hD1, hE1, hC2, hD2, hn, e0, W_id (x := (T.n : Int) + 1) (by omega) (by omega)]
  rw [decide_eq_true (foldF_up r3 f3), decide_eq_true (foldF_down r3 f3)]
  have hor : (bif pClassC (lstOf (poNea T b).n (poNea T b).f) b == pClassC (lForm T.n ad su) b then true else pClassC (lForm T.n ad su) b == 1) = true := by
    rcases hE2 with h | h
    · rw [← h]; simp
    · rw [h]; simp
  rw [hor]
  cases figHasS σ (lIn b x y) <;> cases pHas (lForm T.n ad su) (lIn b x y) <;> simp [an]
theorem pileOrder_ok (t : Shp) (ht : ShW t) (s : Shp) (hs : ShW s) (b : B4) (x y : Int) : Dyn.CallR Try.prog 12 [dvL (toSh t), dvS (toSh s), dvX b, dvI x, dvI y] (rB true) := by
  cases t with
  | nil => exact ht.elim
  | mk k a b' c r l n add sub =>
    have hw : ShW (lForm n add sub) := ht
    refine Dyn.rcontract (lp := Dyn.noLp) (fuel := 3) tabPo_ok mo Try.func12 (by kernel_rfl) (c := bodyD Try.f12.body) (by kernel_rfl) (fun w0 => Dyn.noLp_ok _ w0) (by kernel_rfl) (po_O n (fun i => partC (add i) (toSh (sub i))) (toSh s) b x y) ?_
    have eX : (obX n fun i => partC (add i) (toSh (sub i))) = toSh (lForm n add sub) := rfl
    unfold poO
    rw [eX, ofSh_toSh]
    refine ⟨⟨PdW_mk hw, fun _ => ⟨PdW_mk hs, ctrSelf_ok _, trivial⟩, trivial⟩, fun h => ro_leaf rfl, fun h => ?_⟩
    have h1 : small21 (lForm n add sub) = true := by
      cases e : small21 (lForm n add sub) with
      | true => rfl
      | false => rw [e] at h; cases h
    have h2 : smallE (toSh s) 0 = true := by
      rw [h1] at h
      simpa using h
    have hB := lf_B (n := n) (add := add) (sub := sub) h1
    have hsB : ShB s := by
      have := small_B (ofSh (toSh s)) 0 (by simpa [smallE] using h2)
      rwa [ofSh_toSh] at this
    have eσ : tameE (toSh s) true 2 = toSh (tameS s true 2) := tameE_eq s true 2
    have hq := lSmall_r b
    have hf : Fits (lSmall b) := ⟨by omega, by omega, by omega, by omega, by omega, by omega⟩
    have K := po_key (T := toSh (tame21 (lForm n add sub) true)) (show min n 12 ≤ 12 by omega) (add := add) (sub := fun i => tameS (sub i) true 2) (fun i _ => rfl) (fun i hi => by
        have hi' : i < min n 12 := hi
        exact tam2_of _ (hB.2.2 i (by omega))) (tam2_of s hsB) hf (lSmall_R b) (by omega) (by omega) (fun i _ => shape_sure true (lSmall_R b) hf (by omega) (by omega) 0 0 (sub i) 2) x y
    obtain ⟨⟨k1, k2, k3, k4, k5, k6⟩, k7⟩ := K
    have hn12 : (toSh (tame21 (lForm n add sub) true)).n ≤ 12 := show min n 12 ≤ 12 by omega
    unfold poO0
    rw [eX, eσ]
    refine ⟨⟨PdS_mk hB, PdS_mk hsB, ctrSelf_ok _, trivial⟩, ⟨lSmall_In b, trivial⟩, ⟨k1, k2, trivial⟩, ⟨szA_ok (by decide) (by omega), szA_ok (by decide) (by omega), trivial⟩, ⟨k2, k3, trivial⟩, ⟨k2, trivial⟩, ⟨k2, k4, trivial⟩, ⟨k5, fun _ => ⟨k6, trivial⟩, fun _ => ⟨k4, trivial⟩, fun _ => ⟨k5, trivial⟩, fun _ => ⟨k6, trivial⟩, trivial⟩, ?_⟩
    rw [k7]
    exact ro_leaf rfl
end Go.Proofs.Ytfooaikpcbnchaa
