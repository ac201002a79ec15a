/-
  OWN WORK. Joined by merge.py: Rgl.
-/
import Derived.Test.YthnenjodighlmaaQI
/-! ## Rgl -/
namespace Go.Proofs.Ythnenjodighlmaa
open Go Go.RowKit Sym
set_option maxRecDepth 100000

def slT (X : Dyn.Tabs) : Dyn.Tabs := { tb := X.tb, td := X.td, dres := X.dres, dty := X.dty, pin := X.pin, tx := X.tx, dtmp := X.dtmp, ext := X.ext, pl := X.pl, nw := X.nw, sl := true }
theorem slT_ok {P : Program} {X : Dyn.Tabs} (h : Dyn.TabsOk P X) : Dyn.TabsOk P (slT X) := ⟨h.nw, h.pl, h.tb, h.tx, h.td⟩
noncomputable def tdRf : List Dyn.EntryD := [(28, enUsed), (29, en0R (rB true)), (17, en1D (qAnd qL PdW) fun x => rB (small21 (ofSh x))), (19, en2D (qAnd qL PdS) qB fun x q => .val (dvL (toSh (tame21 (ofSh x) q)))), (30, enSide)]
theorem tdRf_ok : ∀ e ∈ tdRf, Dyn.EntryDOk Try.prog e := List.forall_mem_cons.2 ⟨enUsed_ok, List.forall_mem_cons.2 ⟨en0R_ok awake23, List.forall_mem_cons.2 ⟨en1D_ok (qAnd_ok qL_ok) fun x h => small21_all x h.1, List.forall_mem_cons.2 ⟨en2D_ok (qAnd_ok qL_ok) qB_ok fun x q h _ => tame21_all x h.1 q, List.forall_mem_cons.2 ⟨enSide_ok, fun _ h => by cases h⟩⟩⟩⟩⟩
def drRf (K : Nat) : Bool := Nat.beq K 19 || Nat.beq K 31 || Nat.beq K 26
noncomputable def tabRf : Dyn.Tabs := slT (Dyn.nwT (Dyn.tabsX tbF tdRf [(31, enCov)] drRf dtyG false) nwM)
theorem tabRf_ok : Dyn.TabsOk Try.prog tabRf := slT_ok (Dyn.nwT_ok (Dyn.tabsX_ok tbF_ok tdRf_ok (List.forall_mem_cons.2 ⟨enCov_ok, fun _ h => by cases h⟩)) nwM_ok)
noncomputable def rfC (X : Sh) (d : Int) (b : B4) : ExR := coverE d (obX X.n X.f) b (capM 1000000) 0
def rfBad (r : ExR) (lo4 : Int) (g : Bool) : Bool := bif bif bif r.e != 0 then true else decide (r.lo < lo4) then true else g then true else decide (imin r.a (capM 1000000) > 85)
def rfP (X : Sh) (d : Int) : List Prop := [0 ≤ d ∧ d ≤ 6, PdS (obX X.n X.f)]
def rfBx (b : B4) (k c e : Int) : B4 := ⟨W (b.x0 + W (c * k)), W (b.y0 + W (e * k)), W (W (b.x0 + W (c * k)) + k), W (W (b.y0 + W (e * k)) + k)⟩
def rfF : Dyn.RO := .leaf (rB false)
def rfSum (p q r s : Int) : Int := W (W (W (W (0 + p) + q) + r) + s)
noncomputable def rfO2 (X : Sh) (b : B4) (k : Int) (last : ExR) : Dyn.RO :=
  .side (rfP X 2) (.ite ((rfC X 2 (rfBx b k 0 0)).e != 0) rfF (.side (rfP X 2) (.ite ((rfC X 2 (rfBx b k 1 0)).e != 0) rfF (.side (rfP X 2) (.ite ((rfC X 2 (rfBx b k 0 1)).e != 0) rfF (.side (rfP X 2) (.ite ((rfC X 2 (rfBx b k 1 1)).e != 0) rfF
    (.leaf (rB (bif (bif rfSum (rfC X 2 (rfBx b k 0 0)).lo (rfC X 2 (rfBx b k 1 0)).lo (rfC X 2 (rfBx b k 0 1)).lo (rfC X 2 (rfBx b k 1 1)).lo == last.lo then bif rfSum (rfC X 2 (rfBx b k 0 0)).hi (rfC X 2 (rfBx b k 1 0)).hi (rfC X 2 (rfBx b k 0 1)).hi (rfC X 2 (rfBx b k 1 1)).hi == last.hi then true else false else false) then true else false))))))))))
noncomputable def rfO1 (X : Sh) (b : B4) : Dyn.RO :=
  .side (rfP X 0) (.ite (rfBad (rfC X 0 b) 0 false) rfF
  (.side (rfP X 1) (.ite (rfBad (rfC X 1 b) (W (4 * (rfC X 0 b).lo)) (decide ((rfC X 1 b).hi > W (4 * (rfC X 0 b).hi)))) rfF
  (.side (rfP X 2) (.ite (rfBad (rfC X 2 b) (W (4 * (rfC X 1 b).lo)) (decide ((rfC X 2 b).hi > W (4 * (rfC X 1 b).hi)))) rfF
  (.side (rfP X 3) (.ite (rfBad (rfC X 3 b) (W (4 * (rfC X 2 b).lo)) (decide ((rfC X 3 b).hi > W (4 * (rfC X 2 b).hi)))) rfF
  (rfO2 X b (W ((W (b.x1 - b.x0)).tdiv 2)) (rfC X 3 b)))))))))
noncomputable def rfO (n : Nat) (f : Nat → List Dyn.DC) (x y w : Int) (s : Bool) : Dyn.RO :=
  .side [PdW (obX n f)] (.ite (!(small21 (ofSh (obX n f)))) (.leaf (rB true))
  (.side [0 ≤ imin n 6 ∧ imin n 6 ≤ n, PdS (obX (imin n 6).toNat f)] (rfO1 (toSh (tame21 (ofSh (obX (imin n 6).toNat f)) s)) (sideF x y w 3 s))))
/-! ### plain -/
theorem Dv.less {d : Nat} {b : B4} (h : Dv (d + 1) b) : Dv d b := by
  obtain ⟨hf, w, k, hw, hk, e1, e2⟩ := h
  rw [two_step] at e1 e2
  exact ⟨hf, 2 * w, 2 * k, by omega, by omega, by rw [Int.mul_assoc]; exact e1, by rw [Int.mul_assoc]; exact e2⟩
theorem side_sq (x y w : Int) {D : Nat} (hD : D ≤ 6) (s : Bool) : (sideF x y w D s).x1 - (sideF x y w D s).x0 = (sideF x y w D s).y1 - (sideF x y w D s).y0 := by
  obtain ⟨k, k1, k2, k3, ek⟩ := sdK_eq w hD s
  have pw := pow_bd hD
  have mb := mulB k1 k2 pw.1 pw.2
  have hp : (-400000000 ≤ (sdP x y s).x ∧ (sdP x y s).x ≤ 400000000) ∧ (-400000000 ≤ (sdP x y s).y ∧ (sdP x y s).y ≤ 400000000) := by
    cases s with
    | true =>
      have h := lClose_r (lClose ⟨x, y⟩ 400000000) (n := 25) (by decide) (by decide)
      have h' : (-25 ≤ (sdP x y true).x ∧ (sdP x y true).x ≤ 25) ∧ (-25 ≤ (sdP x y true).y ∧ (sdP x y true).y ≤ 25) := h
      omega
    | false => exact lClose_r ⟨x, y⟩ (n := 400000000) (by decide) (by decide)
  unfold sideF
  dsimp only
  rw [ek, W_id (x := (sdP x y s).x + k * ((2 ^ D : Nat) : Int)) (by omega) (by omega), W_id (x := (sdP x y s).y + k * ((2 ^ D : Nat) : Int)) (by omega) (by omega)]
  omega
theorem rfBad_no {r : ExR} {c : Int × Int} {n lo4 : Int} {g : Bool} (h : ExOk r c 0 n) (hn : n ≤ 85) (h1 : lo4 ≤ c.1) (hg : g = false) : rfBad r lo4 g = false := by
  have h2 := h.a2
  have e : imin r.a (capM 1000000) ≤ 85 := by unfold imin; split <;> omega
  unfold rfBad
  rw [h.e, h.lo, hg, decide_eq_false (show ¬ c.1 < lo4 by omega), decide_eq_false (show ¬ imin r.a (capM 1000000) > 85 by omega)]
  rfl
theorem rf_quarter {b : B4} (hd : Dv 3 b) (hs : b.x1 - b.x0 = b.y1 - b.y0) : rfBx b (W ((W (b.x1 - b.x0)).tdiv 2)) 0 0 = spB b 0 ∧ rfBx b (W ((W (b.x1 - b.x0)).tdiv 2)) 1 0 = spB b 1 ∧ rfBx b (W ((W (b.x1 - b.x0)).tdiv 2)) 0 1 = spB b 2 ∧ rfBx b (W ((W (b.x1 - b.x0)).tdiv 2)) 1 1 = spB b 3 := by
  obtain ⟨mx, my, ⟨x1, x2⟩, ⟨y1, y2⟩, e0, e1, e2, e3⟩ := hd.half
  have hf := hd.1
  have f1 := hf.x0; have f2 := hf.x; have f3 := hf.x1; have f4 := hf.y0; have f5 := hf.y; have f6 := hf.y1
  have ek : W ((W (b.x1 - b.x0)).tdiv 2) = mx - b.x0 := by
    rw [W_id (x := b.x1 - b.x0) (by omega) (by omega), Int.tdiv_eq_ediv_of_nonneg (by omega), W_id (by omega) (by omega)]
    omega
  rw [ek, e0, e1, e2, e3 0]
  unfold rfBx
  have z : W (0 * (mx - b.x0)) = 0 := by rw [Int.zero_mul]; rfl
  have o : W (1 * (mx - b.x0)) = mx - b.x0 := by rw [Int.one_mul]; exact W_id (by omega) (by omega)
  rw [z, o]
  have a1 : W (b.x0 + 0) = b.x0 := by rw [Int.add_zero]; exact W_id (by omega) (by omega)
  have a2 : W (b.y0 + 0) = b.y0 := by rw [Int.add_zero]; exact W_id (by omega) (by omega)
  have a3 : W (b.x0 + (mx - b.x0)) = mx := by rw [show b.x0 + (mx - b.x0) = mx by omega]; exact W_id (by omega) (by omega)
  have a4 : W (b.y0 + (mx - b.x0)) = my := by rw [show b.y0 + (mx - b.x0) = my by omega]; exact W_id (by omega) (by omega)
  have a5 : W (mx + (mx - b.x0)) = b.x1 := by rw [show mx + (mx - b.x0) = b.x1 by omega]; exact W_id (by omega) (by omega)
  have a6 : W (my + (mx - b.x0)) = b.y1 := by rw [show my + (mx - b.x0) = b.y1 by omega]; exact W_id (by omega) (by omega)
  rw [a1, a2, a3, a4, a5, a6]
  exact ⟨rfl, rfl, rfl, rfl⟩
theorem rfSum_eq {p q r s : Int} (hp : 0 ≤ p ∧ p ≤ 1000) (hq : 0 ≤ q ∧ q ≤ 1000) (hr : 0 ≤ r ∧ r ≤ 1000) (hs : 0 ≤ s ∧ s ≤ 1000) : rfSum p q r s = p + q + r + s := by
  unfold rfSum
  rw [W_id (x := 0 + p) (by omega) (by omega), W_id (x := 0 + p + q) (by omega) (by omega), W_id (x := 0 + p + q + r) (by omega) (by omega), W_id (by omega) (by omega)]
  omega
theorem rf_sat {T : Shp} (hT : ShB T) (hg : GoodO T) (hX : obX (toSh T).n (toSh T).f = toSh T) {b : B4} (hd : Dv 3 b) (hs : b.x1 - b.x0 = b.y1 - b.y0) : (rfO1 (toSh T) b).sat fun r => Dyn.RVLe r (rB true) := by
  have pd : ∀ d : Int, 0 ≤ d ∧ d ≤ 6 → Sym.allP (rfP (toSh T) d) := fun d h => ⟨h, by rw [hX]; exact PdS_mk hT, trivial⟩
  have G : ∀ (d : Nat) (q : B4), d ≤ 3 → Dv d q → ExOk (rfC (toSh T) d q) (cnN (pClassC T) d q) 0 (stN d) := fun d q h3 hq => by
    unfold rfC coverE
    rw [hX, ofSh_toSh]
    have st : stN d ≤ 85 := by
      have e : d = 0 ∨ d = 1 ∨ d = 2 ∨ d = 3 := by omega
      rcases e with rfl | rfl | rfl | rfl <;> decide
    exact coverF_ok (by omega) (by decide) hg hq (Int.le_trans st (by decide))
  have d2 := hd.less
  have d1 := d2.less
  have d0 := d1.less
  have g0 := G 0 b (by decide) d0
  have g1 := G 1 b (by decide) d1
  have g2 := G 2 b (by decide) d2
  have g3 := G 3 b (by decide) hd
  have b0 := cn_bd (pClassC T) 0 b
  have b1 := cn_bd (pClassC T) 1 b
  have b2 := cn_bd (pClassC T) 2 b
  have b3 := cn_bd (pClassC T) 3 b
  have c0 : cellsN 0 = 1 := rfl
  have c1 : cellsN 1 = 4 := rfl
  have c2 : cellsN 2 = 16 := rfl
  have c3 : cellsN 3 = 64 := rfl
  have f0 : 4 * (cnN (pClassC T) 0 b).1 ≤ (cnN (pClassC T) 1 b).1 ∧ (cnN (pClassC T) 1 b).2 ≤ 4 * (cnN (pClassC T) 0 b).2 := cn_finer (pClassC T) 0 b
  have f1 : 4 * (cnN (pClassC T) 1 b).1 ≤ (cnN (pClassC T) 2 b).1 ∧ (cnN (pClassC T) 2 b).2 ≤ 4 * (cnN (pClassC T) 1 b).2 := cn_finer (pClassC T) 1 b
  have f2 : 4 * (cnN (pClassC T) 2 b).1 ≤ (cnN (pClassC T) 3 b).1 ∧ (cnN (pClassC T) 3 b).2 ≤ 4 * (cnN (pClassC T) 2 b).2 := cn_finer (pClassC T) 2 b
  obtain ⟨q0, q1, q2, q3⟩ := rf_quarter hd hs
  have k0 := G 2 _ (by decide) (hd.sub 0).1
  have k1 := G 2 _ (by decide) (hd.sub 1).1
  have k2 := G 2 _ (by decide) (hd.sub 2).1
  have k3 := G 2 _ (by decide) (hd.sub 3).1
  have w0 : W (4 * (rfC (toSh T) 0 b).lo) = 4 * (cnN (pClassC T) 0 b).1 := by have := g0.lo; exact (congrArg (fun v => W (4 * v)) g0.lo).trans (W_id (by omega) (by omega))
  have w1 : W (4 * (rfC (toSh T) 1 b).lo) = 4 * (cnN (pClassC T) 1 b).1 := (congrArg (fun v => W (4 * v)) g1.lo).trans (W_id (by omega) (by omega))
  have w2 : W (4 * (rfC (toSh T) 2 b).lo) = 4 * (cnN (pClassC T) 2 b).1 := (congrArg (fun v => W (4 * v)) g2.lo).trans (W_id (by omega) (by omega))
  have h0 : W (4 * (rfC (toSh T) 0 b).hi) = 4 * (cnN (pClassC T) 0 b).2 := (congrArg (fun v => W (4 * v)) g0.hi).trans (W_id (by omega) (by omega))
  have h1 : W (4 * (rfC (toSh T) 1 b).hi) = 4 * (cnN (pClassC T) 1 b).2 := (congrArg (fun v => W (4 * v)) g1.hi).trans (W_id (by omega) (by omega))
  have h2 : W (4 * (rfC (toSh T) 2 b).hi) = 4 * (cnN (pClassC T) 2 b).2 := (congrArg (fun v => W (4 * v)) g2.hi).trans (W_id (by omega) (by omega))
  refine ⟨pd 0 (by decide), fun k => ?_, fun _ => ⟨pd 1 (by decide), fun k => ?_, fun _ => ⟨pd 2 (by decide), fun k => ?_, fun _ => ⟨pd 3 (by decide), fun k => ?_, fun _ => ?_⟩⟩⟩⟩
  · rw [rfBad_no (r := rfC (toSh T) 0 b) g0 (by decide) (by omega) rfl] at k; cases k
  · rw [rfBad_no (r := rfC (toSh T) 1 b) g1 (by decide) (by omega) (decide_eq_false (by have := g1.hi; rw [h0]; show ¬ (rfC (toSh T) 1 b).hi > _; rw [show (rfC (toSh T) 1 b).hi = (cnN (pClassC T) 1 b).2 from g1.hi]; omega))] at k; cases k
  · rw [rfBad_no (r := rfC (toSh T) 2 b) g2 (by decide) (by omega) (decide_eq_false (by rw [h1]; rw [show (rfC (toSh T) 2 b).hi = (cnN (pClassC T) 2 b).2 from g2.hi]; omega))] at k; cases k
  · rw [rfBad_no (r := rfC (toSh T) 3 b) g3 (by decide) (by omega) (decide_eq_false (by rw [h2]; rw [show (rfC (toSh T) 3 b).hi = (cnN (pClassC T) 3 b).2 from g3.hi]; omega))] at k; cases k
  · unfold rfO2
    rw [q0, q1, q2, q3]
    have e0 : (rfC (toSh T) 2 (spB b 0)).e = 0 := k0.e
    have e1 : (rfC (toSh T) 2 (spB b 1)).e = 0 := k1.e
    have e2 : (rfC (toSh T) 2 (spB b 2)).e = 0 := k2.e
    have e3 : (rfC (toSh T) 2 (spB b 3)).e = 0 := k3.e
    have l0 : (rfC (toSh T) 2 (spB b 0)).lo = (cnN (pClassC T) 2 (spB b 0)).1 := k0.lo
    have l1 : (rfC (toSh T) 2 (spB b 1)).lo = (cnN (pClassC T) 2 (spB b 1)).1 := k1.lo
    have l2 : (rfC (toSh T) 2 (spB b 2)).lo = (cnN (pClassC T) 2 (spB b 2)).1 := k2.lo
    have l3 : (rfC (toSh T) 2 (spB b 3)).lo = (cnN (pClassC T) 2 (spB b 3)).1 := k3.lo
    have i0 : (rfC (toSh T) 2 (spB b 0)).hi = (cnN (pClassC T) 2 (spB b 0)).2 := k0.hi
    have i1 : (rfC (toSh T) 2 (spB b 1)).hi = (cnN (pClassC T) 2 (spB b 1)).2 := k1.hi
    have i2 : (rfC (toSh T) 2 (spB b 2)).hi = (cnN (pClassC T) 2 (spB b 2)).2 := k2.hi
    have i3 : (rfC (toSh T) 2 (spB b 3)).hi = (cnN (pClassC T) 2 (spB b 3)).2 := k3.hi
    have n0 := cn_bd (pClassC T) 2 (spB b 0)
    have n1 := cn_bd (pClassC T) 2 (spB b 1)
    have n2 := cn_bd (pClassC T) 2 (spB b 2)
    have n3 := cn_bd (pClassC T) 2 (spB b 3)
    have key : cnN (pClassC T) 3 b = add4 fun i => cnN (pClassC T) 2 (spB b i) := cn_quarters (C := pClassC T) hd (fun q hq hf h => (pile_ref2 hg hq hd.1 hf).e h) (pile3 T b)
    have s1 := congrArg Prod.fst key
    have s2 := congrArg Prod.snd key
    unfold add4 at s1 s2
    dsimp only at s1 s2
    refine ⟨pd 2 (by decide), fun k => (by rw [e0] at k; cases k), fun _ => ⟨pd 2 (by decide), fun k => (by rw [e1] at k; cases k), fun _ => ⟨pd 2 (by decide), fun k => (by rw [e2] at k; cases k), fun _ => ⟨pd 2 (by decide), fun k => (by rw [e3] at k; cases k), fun _ => ?_⟩⟩⟩⟩
    rw [l0, l1, l2, l3, i0, i1, i2, i3, rfSum_eq (by omega) (by omega) (by omega) (by omega), rfSum_eq (by omega) (by omega) (by omega) (by omega), show (rfC (toSh T) 3 b).lo = (cnN (pClassC T) 3 b).1 from g3.lo, show (rfC (toSh T) 3 b).hi = (cnN (pClassC T) 3 b).2 from g3.hi, s1, s2, beq_self_eq_true, beq_self_eq_true]
    exact ro_leaf rfl
theorem rf_O (n : Nat) (f : Nat → List Dyn.DC) (x y w : Int) (s : Bool) : (Dyn.dfun Try.prog tabRf Dyn.noLp 6 Try.f8 [dvL (obX n f), dvI x, dvI y, dvI w, dvB s]).ro Try.prog Try.f8.results = rfO n f x y w s := by kernel_rfl
theorem rastFiner_ok (s : Shp) (hs : ShW s) (x y w : Int) (q : Bool) : Dyn.CallD Try.prog 8 [dvL (toSh s), dvI x, dvI y, dvI w, dvB q] (rB true) := by
  cases s with
  | nil => exact hs.elim
  | mk k a b' c r l n add sub =>
    have hw : ShW (lForm n add sub) := hs
    refine Dyn.dcontract (lp := Dyn.noLp) (fuel := 6) tabRf_ok mo Try.func8 (by kernel_rfl) (c := bodyD Try.f8.body) (by kernel_rfl) (fun w0 => Dyn.noLp_ok _ w0) (by kernel_rfl) (rf_O n (fun i => partC (add i) (toSh (sub i))) x y w q) ?_
    unfold rfO
    have e : ∀ m, ofSh (obX m fun i => partC (add i) (toSh (sub i))) = lForm m add sub := fun m => ofSh_toSh (lForm m add sub)
    rw [e, e]
    refine ⟨⟨PdW_mk hw, trivial⟩, fun _ => ro_leaf rfl, fun h => ?_⟩
    have hB : ShB (lForm n add sub) := lf_B (by simpa using h)
    have hk : 0 ≤ imin n 6 ∧ imin n 6 ≤ n := by unfold imin; split <;> omega
    have h6 : ShB (lForm (imin n 6).toNat add sub) := ⟨CtrB_ze, by have := hB.2.1; show (imin n 6).toNat ≤ _; omega, fun i hi => hB.2.2 i (by have hi' : i < (imin n 6).toNat := hi; show i < n; omega)⟩
    obtain ⟨hd, _⟩ := side_dv x y w (D := 3) (by decide) q
    exact ⟨⟨hk, PdS_mk h6, trivial⟩, rf_sat (tame21_B _ h6 q) (tame_good _ q h6) rfl hd (side_sq x y w (D := 3) (by decide) q)⟩
end Go.Proofs.Ythnenjodighlmaa
