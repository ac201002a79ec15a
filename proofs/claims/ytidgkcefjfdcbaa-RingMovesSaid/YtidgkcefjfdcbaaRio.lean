/-
  OWN WORK. The law RingCloses.
-/
import Derived.Test.YtidgkcefjfdcbaaRin
namespace Go.Proofs.Ytidgkcefjfdcbaa
open Go Go.RowKit Sym

/-- who is in the disc around a point of the circle is neither too near nor too far -/
theorem disc_ring {p c e : P2} {r : Int} (h : distI p e ≤ r * r) : outI (distI p c) (distI e c) r = true ∧ insI (distI p c) (distI e c) r = true := by
  have hp : ∃ px, px = p.x - c.x := ⟨_, rfl⟩
  have hp' : ∃ py, py = p.y - c.y := ⟨_, rfl⟩
  have hq : ∃ qx, qx = p.x - e.x := ⟨_, rfl⟩
  have hq' : ∃ qy, qy = p.y - e.y := ⟨_, rfl⟩
  obtain ⟨px, epx⟩ := hp; obtain ⟨py, epy⟩ := hp'; obtain ⟨qx, eqx⟩ := hq; obtain ⟨qy, eqy⟩ := hq'
  have d : distI p c = px * px + py * py := by unfold distI; rw [← epx, ← epy]
  have s : distI p e = qx * qx + qy * qy := by unfold distI; rw [← eqx, ← eqy]
  have rr : distI e c = (px - qx) * (px - qx) + (py - qy) * (py - qy) := by
    unfold distI
    have e1 : e.x - c.x = px - qx := by omega
    have e2 : e.y - c.y = py - qy := by omega
    rw [e1, e2]
  rw [s] at h
  rw [d, rr]
  clear d s rr epx epy eqx eqy
  have hs : 0 ≤ qx * qx + qy * qy := by have := sq_nn qx; have := sq_nn qy; omega
  -- the inequality of Cauchy
  have cs : ∀ u v : Int, (u * qx + v * qy) * (u * qx + v * qy) ≤ (u * u + v * v) * (r * r) := fun u v => by
    have a : (u * u + v * v) * (qx * qx + qy * qy) = (u * qx + v * qy) * (u * qx + v * qy) + (u * qy - v * qx) * (u * qy - v * qx) := by grind
    have b := sq_nn (u * qy - v * qx)
    have n : 0 ≤ u * u + v * v := by have := sq_nn u; have := sq_nn v; omega
    have m := Int.mul_le_mul_of_nonneg_left h n
    omega
  constructor
  · unfold outI; rw [decide_eq_true_eq]
    by_cases k : (px - qx) * (px - qx) + (py - qy) * (py - qy) - r * r - (px * px + py * py) ≤ 0
    · exact .inl k
    · refine .inr ?_
      have c1 := cs px py
      have l : (px - qx) * (px - qx) + (py - qy) * (py - qy) - r * r - (px * px + py * py) ≤ -2 * (px * qx + py * qy) := by
        have : (px - qx) * (px - qx) + (py - qy) * (py - qy) - (px * px + py * py) = -2 * (px * qx + py * qy) + (qx * qx + qy * qy) := by grind
        omega
      have q := sq_le (x := (px - qx) * (px - qx) + (py - qy) * (py - qy) - r * r - (px * px + py * py)) (y := -2 * (px * qx + py * qy)) (by omega) l
      have e1 : -2 * (px * qx + py * qy) * (-2 * (px * qx + py * qy)) = 4 * ((px * qx + py * qy) * (px * qx + py * qy)) := by grind
      have e2 : 4 * (px * px + py * py) * (r * r) = 4 * ((px * px + py * py) * (r * r)) := by grind
      omega
  · unfold insI; rw [decide_eq_true_eq]
    by_cases k : px * px + py * py - ((px - qx) * (px - qx) + (py - qy) * (py - qy)) - r * r ≤ 0
    · exact .inl k
    · refine .inr ?_
      have c1 := cs (px - qx) (py - qy)
      have l : px * px + py * py - ((px - qx) * (px - qx) + (py - qy) * (py - qy)) - r * r ≤ 2 * ((px - qx) * qx + (py - qy) * qy) := by
        have : px * px + py * py - ((px - qx) * (px - qx) + (py - qy) * (py - qy)) = 2 * ((px - qx) * qx + (py - qy) * qy) + (qx * qx + qy * qy) := by grind
        omega
      have q := sq_le (x := px * px + py * py - ((px - qx) * (px - qx) + (py - qy) * (py - qy)) - r * r) (y := 2 * ((px - qx) * qx + (py - qy) * qy)) (by omega) l
      have e1 : 2 * ((px - qx) * qx + (py - qy) * qy) * (2 * ((px - qx) * qx + (py - qy) * qy)) = 4 * (((px - qx) * qx + (py - qy) * qy) * ((px - qx) * qx + (py - qy) * qy)) := by grind
      have e2 : 4 * ((px - qx) * (px - qx) + (py - qy) * (py - qy)) * (r * r) = 4 * (((px - qx) * (px - qx) + (py - qy) * (py - qy)) * (r * r)) := by grind
      omega
/-- two points of a circle on one line with the centre are one or are over against one another -/
theorem circ_line {c a e : P2} (ok : okI c a e) (w : crossI c a e = 0) : same a e ∨ (a.x - c.x = -(e.x - c.x) ∧ a.y - c.y = -(e.y - c.y)) := by
  obtain ⟨k0, k⟩ := ok
  have l := lagrange c a e
  have ea : distI c a = distI a c := distI_comm c a
  rw [ea, w] at l
  have hd : ∃ t, t = dotI c a e := ⟨_, rfl⟩
  obtain ⟨t, et⟩ := hd
  rw [← et, ← k] at l
  have hn := dist_nn a c
  have f : (distI a c - t) * (distI a c + t) = 0 := by
    generalize distI a c = N at *
    have : (N - t) * (N + t) = N * N - t * t := by grind
    omega
  rcases Int.mul_eq_zero.1 f with z | z
  · left
    rw [← dist_pos]
    have : distI a e = distI a c + distI e c - 2 * dotI c a e := by unfold distI dotI; grind
    omega
  · right
    have h0 : (a.x - c.x + (e.x - c.x)) * (a.x - c.x + (e.x - c.x)) + (a.y - c.y + (e.y - c.y)) * (a.y - c.y + (e.y - c.y)) = distI a c + distI e c + 2 * dotI c a e := by unfold distI dotI; grind
    have h1 := sq_nn (a.x - c.x + (e.x - c.x)); have h2 := sq_nn (a.y - c.y + (e.y - c.y))
    have x0 : (a.x - c.x + (e.x - c.x)) * (a.x - c.x + (e.x - c.x)) = 0 := by omega
    have y0 : (a.y - c.y + (e.y - c.y)) * (a.y - c.y + (e.y - c.y)) = 0 := by omega
    have := Int.mul_eq_zero.1 x0; have := Int.mul_eq_zero.1 y0
    omega
theorem sect_two {p c a e : P2} (ok : okI c a e) : (sectI p c a e || sectI p c e a) = true := by
  unfold sectI
  by_cases s : same a e
  · simp [s]
  · have s' : ¬ same e a := fun h => s ⟨h.1.symm, h.2.symm⟩
    rw [cross_sw c e a, cross_sw c e p, cross_sw c p a]
    simp only [s, s', decide_false, Bool.false_or]
    by_cases w : crossI c a e = 0
    · rcases circ_line ok w with h | h
      · exact absurd h s
      · have uv : crossI c a p = crossI c p e := by
          unfold crossI; rw [h.1, h.2]; grind
        rw [w, uv]
        simp only [Int.neg_zero, Int.lt_irrefl, if_false]
        by_cases z : crossI c p e ≥ 0
        · simp [z]
        · have : -crossI c p e ≥ 0 := by omega
          simp [this]; omega
    · by_cases wn : crossI c a e < 0
      · have : ¬ -crossI c a e < 0 := by omega
        simp only [wn, this, if_true, if_false]
        rw [Bool.or_eq_true, Bool.or_eq_true, Bool.and_eq_true]
        simp only [decide_eq_true_eq]; omega
      · have : -crossI c a e < 0 := by omega
        simp only [wn, this, if_true, if_false]
        rw [Bool.or_eq_true, Bool.or_eq_true, Bool.and_eq_true]
        simp only [decide_eq_true_eq]; omega
theorem sect_same (p c a : P2) : sectI p c a a = true := by
  unfold sectI; rw [decide_eq_true (show same a a from ⟨rfl, rfl⟩)]; rfl
theorem cross_self (c a : P2) : crossI c a a = 0 := by unfold crossI; grind
theorem sect_ends (c a e : P2) : sectI a c a e = true ∧ sectI e c a e = true ∧ sectI c c a e = true := by
  have z1 : crossI c a c = 0 := by unfold crossI; grind
  have z2 : crossI c c e = 0 := by unfold crossI; grind
  unfold sectI
  rw [cross_self, cross_self, z1, z2]
  by_cases w : crossI c a e < 0
  · simp [w]
  · have : crossI c a e ≥ 0 := by omega
    simp [w, this]
def ringCloses (c0 : P2) (r0 f t s : Int) (p0 : P2) : Bool :=
  let c := arcC c0 true
  let a := arcAt c0 f s true
  let e := arcAt c0 t s true
  let r := lSmR (lR r0) 30
  let p := lClose p0 40
  let one := ringHas p c a e r
  let two := ringHas p c e a r
  let all := ringHas p c a a r
  andB (andB (andB (andB (andB (andB (orB one two == all) (orB (sector p c a e) (sector p c e a))) (sector p c a a)) (sector a c a e)) (sector e c a e)) (sector c c a e)) true
theorem near_small {p c : P2} (hp : (-100 ≤ p.x ∧ p.x ≤ 100) ∧ (-100 ≤ p.y ∧ p.y ≤ 100)) (hc : (-100 ≤ c.x ∧ c.x ≤ 100) ∧ (-100 ≤ c.y ∧ c.y ≤ 100)) : distI p c ≤ 80000 := by
  have a := sq_bd (A := 200) (x := p.x - c.x) (by omega) (by omega)
  have b := sq_bd (A := 200) (x := p.y - c.y) (by omega) (by omega)
  unfold distI; omega
theorem ringCloses_true (c : P2) (r f t s : Int) (p : P2) : ringCloses c r f t s p = true := by
  have hc := arcC_s c
  have hC : PR (arcC c true) := PR_of hc (by decide)
  have a := arc_facts c f s true; have e := arc_facts c t s true
  have ok := arc_okI c f t s true
  have ok1 := arc_okI c t f s true
  have ok2 := arc_okI c f f s true
  have hr := lR_bd r
  have hh := lSmR_bd (r := lR r) (m := 30) (by omega) (by decide) (by decide)
  have hp := lClose_r p (n := 40) (by decide) (by decide)
  have hP := PR_of hp (by decide)
  have hd := near_small (p := lClose p 40) (c := arcC c true) (by omega) (by omega)
  unfold ringCloses
  dsimp only
  rw [ringHas_eq hP hC a.1 e.1 ok hh.1 (by omega) (by omega) (by omega), ringHas_eq hP hC e.1 a.1 ok1 hh.1 (by omega) (by omega) (by omega), ringHas_eq hP hC a.1 a.1 ok2 hh.1 (by omega) (by omega) (by omega),
    sector_eq hP hC a.1 e.1, sector_eq hP hC e.1 a.1, sector_eq hP hC a.1 a.1, sector_eq a.1 hC a.1 e.1, sector_eq e.1 hC a.1 e.1, sector_eq hC hC a.1 e.1]
  generalize lClose p 40 = P at *
  generalize arcC c true = C at *
  generalize arcAt c f s true = A at *
  generalize arcAt c t s true = E at *
  generalize lSmR (lR r) 30 = R at *
  have s1 := sect_two (p := P) ok
  have s2 := sect_same P C A
  have s3 := sect_ends C A E
  have da := disc_ring (p := P) (c := C) (e := A) (r := R)
  have de := disc_ring (p := P) (c := C) (e := E) (r := R)
  rw [← ok.2] at de
  simp only [orB_eq, andB_eq, s2, s3.1, s3.2.1, s3.2.2, s1, Bool.and_true]
  unfold ringI
  rw [s2, ← ok.2]
  by_cases k1 : distI P A ≤ R * R
  · rw [decide_eq_true k1]; rfl
  · rw [decide_eq_false k1]
    by_cases k2 : distI P E ≤ R * R
    · rw [decide_eq_true k2, (de k2).1, (de k2).2]; rfl
    · rw [decide_eq_false k2]
      revert s1
      cases sectI P C A E <;> cases sectI P C E A <;> cases outI (distI P C) (distI A C) R <;> cases insI (distI P C) (distI A C) R <;> decide
theorem ringCloses_ok (c : P2) (r f t s : Int) (p : P2) : CallOk Try.prog 13 [pt c, vi r, vi f, vi t, vi s, pt p] (vb true) := by
  rw [← ringCloses_true c r f t s p]
  exact fnOkS (fuel := 16) (tbOf_ok tbR9_ok) mo Try.func13 (by kernel_rfl) (by kernel_rfl) (by kernel_rfl) (show _ = [W (40 + 1) ≠ 0] by kernel_rfl) ⟨n41, trivial⟩
end Go.Proofs.Ytidgkcefjfdcbaa
