/-
  OWN WORK. The discs: plain laws, and what the four laws' texts come to.
-/
import Derived.Test.YtgdjfclpncpnpaaLem
import Derived.Test.YtgdjfclpncpnpaaCob
namespace Go.Proofs.Ytgdjfclpncpnpaa
open Go Go.RowKit Sym

theorem pt_BR {p : P2} (h : PR p) : BR ⟨p.x, p.y, p.x, p.y⟩ := ⟨h.x, h.y, h.x, h.y⟩
theorem discHas_eq {p c : P2} {r : Int} (hp : PR p) (hc : PR c) (h1 : 1 ≤ r) (h2 : r ≤ 2147483648) : discHas p c r = decide (distI p c ≤ r * r) := by
  unfold discHas
  rw [decide_eq_false (show ¬ r < 1 by omega), bif_f, (near_eq (pt_BR hc) hp).1, dist_near, square_eq (by omega) h2]
theorem discHas_no {p c : P2} {r : Int} (h : r < 1) : discHas p c r = false := by
  unfold discHas; rw [decide_eq_true h, bif_t]
theorem discClass_no {b : B4} {c : P2} {r : Int} (h : r < 1) : discClass b c r = 0 := by
  unfold discClass; rw [decide_eq_true h]; rfl
theorem discClass_eq {b : B4} {c : P2} {r : Int} (hb : BR b) (hc : PR c) (hx : b.x0 ≤ b.x1) (hy : b.y0 ≤ b.y1) (h1 : 1 ≤ r) (h2 : r ≤ 2147483648) :
    discClass b c r = if nearI b c > r * r then 0 else if mostI b c ≤ r * r then 2 else 1 := by
  unfold discClass
  have hh : boxHas b ⟨b.x0, b.y0⟩ = true := (boxHas_eq _ _).2 ⟨by simp, hx, by simp, hy⟩
  rw [decide_eq_false (show ¬ r < 1 by omega), hh, (near_eq hb hc).1, (most_eq hb hc).1, square_eq (by omega) h2]
  show (bif decide (nearI b c > r * r) then 0 else bif decide (mostI b c ≤ r * r) then 2 else 1) = _
  by_cases k : nearI b c > r * r
  · rw [decide_eq_true k, if_pos k]; rfl
  · rw [decide_eq_false k, if_neg k, bif_f]
    by_cases k' : mostI b c ≤ r * r
    · rw [decide_eq_true k', if_pos k']; rfl
    · rw [decide_eq_false k', if_neg k']; rfl

/-! ### the reference -/
theorem rDist_eq {p q : P2} (hp : PR p) (hq : PR q) : rDist p q = distI p q := by
  obtain ⟨⟨a, b⟩, c, d⟩ := hp; obtain ⟨⟨e, f⟩, g, h⟩ := hq
  unfold rDist distI
  rw [W_id (x := p.x - q.x) (by omega) (by omega), W_id (x := p.y - q.y) (by omega) (by omega)]
  have k := sq_bd (A := 2147483646) (x := p.x - q.x) (by omega) (by omega)
  have l := sq_bd (A := 2147483646) (x := p.y - q.y) (by omega) (by omega)
  have m : (2147483646 : Int) * 2147483646 = 4611686009837453316 := by decide
  rw [m] at k l
  rw [W_id (x := (p.x - q.x) * (p.x - q.x)) (by omega) (by omega), W_id (x := (p.y - q.y) * (p.y - q.y)) (by omega) (by omega), W_id (by omega) (by omega)]
theorem rNear_eq {b : B4} {p : P2} (hb : BR b) (hp : PR p) (hx : b.x0 ≤ b.x1) (hy : b.y0 ≤ b.y1) : rNear b p = nearI b p := by
  unfold rNear
  simp only [imin_eq, imax_eq]
  obtain ⟨⟨a1, a2⟩, ⟨a3, a4⟩, ⟨a5, a6⟩, a7, a8⟩ := hb
  have hq : PR ⟨min (max p.x b.x0) b.x1, min (max p.y b.y0) b.y1⟩ := ⟨⟨by dsimp only; omega, by dsimp only; omega⟩, ⟨by dsimp only; omega, by dsimp only; omega⟩⟩
  rw [rDist_eq hp hq]
  have e : ∀ u lo hi : Int, lo ≤ hi → (u - min (max u lo) hi) * (u - min (max u lo) hi) = gapI u lo hi * gapI u lo hi := fun u lo hi h => by
    have : gapI u lo hi = u - min (max u lo) hi ∨ gapI u lo hi = -(u - min (max u lo) hi) := by unfold gapI; split <;> omega
    rcases this with h | h <;> rw [h]
    grind
  unfold distI nearI
  dsimp only
  rw [e _ _ _ hx, e _ _ _ hy]
theorem rMost_eq {b : B4} {p : P2} (hb : BR b) (hp : PR p) (hx : b.x0 ≤ b.x1) (hy : b.y0 ≤ b.y1) : rMost b p = mostI b p := by
  unfold rMost
  rw [rDist_eq hp ⟨hb.x0, hb.y0⟩, rDist_eq hp ⟨hb.x1, hb.y0⟩, rDist_eq hp ⟨hb.x0, hb.y1⟩, rDist_eq hp ⟨hb.x1, hb.y1⟩]
  simp only [imax_eq]
  have e : ∀ u lo hi : Int, lo ≤ hi → reachI u lo hi * reachI u lo hi = max ((u - lo) * (u - lo)) ((u - hi) * (u - hi)) := fun u lo hi h => by
    have h5 : (reachI u lo hi = u - lo ∧ -(u - lo) ≤ u - hi ∧ u - hi ≤ u - lo) ∨ (reachI u lo hi = -(u - hi) ∧ u - hi ≤ u - lo ∧ u - lo ≤ -(u - hi)) := by unfold reachI; omega
    rcases h5 with ⟨h6, h7, h8⟩ | ⟨h6, h7, h8⟩
    · have := sq_le h7 h8
      rw [h6]; omega
    · have := sq_le (x := u - lo) (y := -(u - hi)) (by omega) h8
      have e : -(u - hi) * -(u - hi) = (u - hi) * (u - hi) := by grind
      rw [h6, e]; rw [e] at this; omega
  unfold distI mostI
  dsimp only
  rw [e _ _ _ hx, e _ _ _ hy]
  omega
theorem rDiscHas_eq {p c : P2} {r : Int} (hp : PR p) (hc : PR c) (h1 : 1 ≤ r) (h2 : r ≤ 2147483648) : rDiscHas p c r = decide (distI p c ≤ r * r) := by
  have a := sq_bd (A := 2147483648) (x := r) (by omega) h2
  unfold rDiscHas
  rw [decide_eq_true (show r ≥ 1 by omega), rDist_eq hp hc, W_id (by omega) (by omega)]; rfl
theorem rDisc_eq {b : B4} {c : P2} {r : Int} (hb : BR b) (hc : PR c) (hx : b.x0 ≤ b.x1) (hy : b.y0 ≤ b.y1) (h1 : 1 ≤ r) (h2 : r ≤ 2147483648) : rDisc b c r = discClass b c r := by
  have a := sq_bd (A := 2147483648) (x := r) (by omega) h2
  rw [discClass_eq hb hc hx hy h1 h2]
  unfold rDisc
  rw [decide_eq_false (show ¬ r < 1 by omega), rNear_eq hb hc hx hy, rMost_eq hb hc hx hy, W_id (by omega) (by omega)]
  show (bif decide (nearI b c > r * r) then 0 else bif decide (mostI b c ≤ r * r) then 2 else 1) = _
  by_cases k : nearI b c > r * r
  · rw [decide_eq_true k, if_pos k]; rfl
  · rw [decide_eq_false k, if_neg k, bif_f]
    by_cases k' : mostI b c ≤ r * r
    · rw [decide_eq_true k', if_pos k']; rfl
    · rw [decide_eq_false k', if_neg k']; rfl

/-! ### DiscFar -/
def sel4 (i a b c d : Int) : Int := bif decide (i = ((0 : Nat) : Int)) then a else bif decide (i = ((1 : Nat) : Int)) then b else bif decide (i = ((2 : Nat) : Int)) then c else d
def dfC (at_ : Int) : P2 := ⟨sel4 (band at_ 3) 536870912 (W (0 - 536870912)) 536870912 (W (0 - 536870912)), sel4 (band at_ 3) 536870912 536870912 (W (0 - 536870912)) (W (0 - 536870912))⟩
def dfR (less : Int) : Int := W (536870912 - (lR less).tmod 1000)
def discFar (p0 : P2) (at_ less : Int) : Bool :=
  let c := dfC at_
  let p := lPt p0
  let r := dfR less
  let d := W (W (W (p.x - c.x) * W (p.x - c.x)) + W (W (p.y - c.y) * W (p.y - c.y)))
  let k := discClass ⟨p.x, p.y, p.x, p.y⟩ c r
  andB (andB (andB (discHas p c r == decide (d ≤ W (r * r))) ((k == 2) == decide (d ≤ W (r * r)))) ((k == 0) == decide (d > W (r * r)))) true
theorem discFar_true (p0 : P2) (at_ less : Int) : discFar p0 at_ less = true := by
  have hp := lPt_R p0
  have hc : PR (dfC at_) := by
    have e : W (0 - 536870912) = -536870912 := by decide
    have s : ∀ i a b c d : Int, (a = 536870912 ∨ a = -536870912) → (b = 536870912 ∨ b = -536870912) → (c = 536870912 ∨ c = -536870912) → (d = 536870912 ∨ d = -536870912) → In30 (sel4 i a b c d) := by
      intro i a b c d h1 h2 h3 h4
      have t : ∀ q1 q2 q3 : Bool, In30 (bif q1 then a else bif q2 then b else bif q3 then c else d) := by
        intro q1 q2 q3
        unfold In30
        cases q1 <;> cases q2 <;> cases q3 <;> simp only [cond_true, cond_false] <;> omega
      exact t _ _ _
    unfold dfC; rw [e]
    exact ⟨s _ _ _ _ _ (.inl rfl) (.inr rfl) (.inl rfl) (.inr rfl), s _ _ _ _ _ (.inl rfl) (.inl rfl) (.inr rfl) (.inr rfl)⟩
  have hr : 1 ≤ dfR less ∧ dfR less ≤ 536870912 := by
    have a := lR_bd less
    have b := Int.tmod_nonneg (a := lR less) 1000 (by omega)
    have c := (tmod_bd (lR less) (n := 1000) (by decide)).2
    unfold dfR; rw [W_id (by omega) (by omega)]; omega
  have h2 := sq_bd (A := 536870912) (x := dfR less) (by omega) hr.2
  have ed : W (W (W ((lPt p0).x - (dfC at_).x) * W ((lPt p0).x - (dfC at_).x)) + W (W ((lPt p0).y - (dfC at_).y) * W ((lPt p0).y - (dfC at_).y))) = distI (lPt p0) (dfC at_) := rDist_eq hp hc
  unfold discFar
  dsimp only
  rw [ed, discHas_eq hp hc hr.1 (by omega), W_id (x := dfR less * dfR less) (by omega) (by omega), discClass_eq (pt_BR hp) hc (by simp) (by simp) hr.1 (by omega)]
  have e1 : nearI ⟨(lPt p0).x, (lPt p0).y, (lPt p0).x, (lPt p0).y⟩ (dfC at_) = distI (lPt p0) (dfC at_) := by rw [dist_near]; unfold distI; grind
  have e2 : mostI ⟨(lPt p0).x, (lPt p0).y, (lPt p0).x, (lPt p0).y⟩ (dfC at_) = distI (lPt p0) (dfC at_) := by rw [dist_most]; unfold distI; grind
  rw [e1, e2]
  generalize distI (lPt p0) (dfC at_) = D; generalize dfR less * dfR less = R
  by_cases k : D > R
  · have k' : ¬ D ≤ R := by omega
    simp [k, k', andB]
  · have k' : D ≤ R := by omega
    simp [k, k', andB]
theorem discFar_ok (p : P2) (at_ less : Int) : CallOk Try.prog 3 [pt p, vi at_, vi less] (vb true) := by
  rw [← discFar_true p at_ less]
  exact fnOkS (fuel := 16) (tbOf_ok tbA5_ok) mo Try.func3 (by kernel_rfl) (by kernel_rfl) (by kernel_rfl) (show _ = [0 ≤ band at_ 3 ∧ band at_ 3 < ((4 : Nat) : Int)] by kernel_rfl) ⟨⟨(band3 at_).1, by have := (band3 at_).2; omega⟩, trivial⟩

/-! ### DiscTells -/
def discTells0 (b : B4) (c : P2) (r : Int) (p : P2) (k : Int) : Bool :=
  andB (andB (andB (discClass b c r == rDisc b c r) (discHas p c r == rDiscHas p c r)) (orB (decide (k ≥ 1)) (andB (discClass b c k == 0) (!(discHas p c k))))) true
def lSmR (r m : Int) : Int := W (r.tmod m + 1)
theorem lSmR_bd {r m : Int} (h : 0 ≤ r) (h0 : 0 < m) (h1 : m ≤ 100) : 1 ≤ lSmR r m ∧ lSmR r m ≤ m := by
  have a := Int.tmod_nonneg (a := r) m h
  have b := (tmod_bd r h0).2
  unfold lSmR; rw [W_id (by omega) (by omega)]; omega
def discTells (b : B4) (c : P2) (r : Int) (p : P2) (small : Bool) : Bool :=
  bif small then discTells0 (lSmall (lBox b)) (lClose (lPt c) 20) (lSmR (lR r) 25) (lClose (lPt p) 20) r else discTells0 (lBox b) (lPt c) (lR r) (lPt p) r
theorem close_R (p : P2) {n : Int} (h0 : 0 ≤ n) (h1 : n ≤ 1073741823) : PR (lClose p n) := by
  obtain ⟨⟨a, b⟩, c, d⟩ := lClose_r p h0 (by omega)
  exact ⟨⟨by omega, by omega⟩, ⟨by omega, by omega⟩⟩
theorem discTells0_true {b : B4} {c : P2} {r : Int} {p : P2} (k : Int) (hb : BR b) (hc : PR c) (hp : PR p) (hx : b.x0 ≤ b.x1) (hy : b.y0 ≤ b.y1) (h1 : 1 ≤ r) (h2 : r ≤ 2147483648) : discTells0 b c r p k = true := by
  unfold discTells0
  rw [rDisc_eq hb hc hx hy h1 h2, discHas_eq hp hc h1 h2, rDiscHas_eq hp hc h1 h2]
  by_cases hk : k ≥ 1
  · simp [hk, andB, orB]
  · rw [discClass_no (show k < 1 by omega), discHas_no (show k < 1 by omega)]
    simp [andB, orB]
theorem discTells_true (b : B4) (c : P2) (r : Int) (p : P2) (small : Bool) : discTells b c r p small = true := by
  have a := lR_bd r
  unfold discTells
  cases small
  · have h := lBox_r b
    exact discTells0_true r (lBox_R b) (lPt_R c) (lPt_R p) h.2.1 h.2.2.2.2.1 a.1 (by omega)
  · have h := lSmall_r (lBox b)
    have e := lSmR_bd (r := lR r) (m := 25) (by omega) (by decide) (by decide)
    exact discTells0_true r (lSmall_R _) (close_R _ (by decide) (by decide)) (close_R _ (by decide) (by decide)) h.2.2.1 h.2.2.2.2.2.2.1 e.1 (by omega)
theorem n21 : W (20 + 1) ≠ 0 := by decide
theorem discTells_ok (b : B4) (c : P2) (r : Int) (p : P2) (small : Bool) : CallOk Try.prog 4 [bx b, pt c, vi r, pt p, vb small] (vb true) := by
  rw [← discTells_true b c r p small]
  exact fnOkS (fuel := 16) (tbOf_ok tbA5_ok) mo Try.func4 (by kernel_rfl) (by kernel_rfl) (by kernel_rfl) (show _ = [small = true → W (20 + 1) ≠ 0, small = true → W (20 + 1) ≠ 0] by kernel_rfl) ⟨fun _ => n21, fun _ => n21, trivial⟩
end Go.Proofs.Ytgdjfclpncpnpaa
