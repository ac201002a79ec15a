/-
  OWN WORK. The laws BarTells and BarParts: what they reckon, and that it is true.
-/
import Derived.Test.YtidgkcefjfdcbaaBar
import Derived.Test.YtidgkcefjfdcbaaDisc
namespace Go.Proofs.Ytidgkcefjfdcbaa
open Go Go.RowKit Sym

def barTells0 (b : B4) (a c : P2) (h : Int) (p : P2) (k : Int) : Bool :=
  andB (andB (andB (andB (barClass b a c h == rBar b a c h) (barHas p a c h == rBarHas p a c h)) (orB (decide (k ≥ 1)) (andB (barClass b a c k == 0) (!(barHas p a c k))))) (barClass b a a h == 0)) true
def barTells (b : B4) (a c : P2) (h : Int) (p : P2) (small : Bool) : Bool :=
  bif small then barTells0 (lSmall (lBox b)) (lClose (lPt a) 20) (lClose (lPt c) 20) (lSmR (lR h) 12) (lClose (lPt p) 20) h else barTells0 (lBox b) (lPt a) (lPt c) (lR h) (lPt p) h
theorem barTells0_true {b : B4} {a c : P2} {h : Int} {p : P2} (k : Int) (hb : BR b) (ha : PR a) (hc : PR c) (hp : PR p) (hx : b.x0 ≤ b.x1) (hy : b.y0 ≤ b.y1) (h2 : h ≤ 2147483648) : barTells0 b a c h p k = true := by
  unfold barTells0
  rw [barClass_eq hb ha hc hx hy h2, rBar_eq hb ha hc h2, barHas_eq hp ha hc h2, rBarHas_eq hp ha hc h2, barClass_void (barVoid_same a h)]
  by_cases hk : k ≥ 1
  · simp [hk, andB, orB]
  · rw [barClass_void (barVoid_lt (show k < 1 by omega)), barHas_void (barVoid_lt (show k < 1 by omega))]
    simp [andB, orB]
theorem barTells_true (b : B4) (a c : P2) (h : Int) (p : P2) (small : Bool) : barTells b a c h p small = true := by
  have r := lR_bd h
  unfold barTells
  cases small
  · have h := lBox_r b
    exact barTells0_true _ (lBox_R b) (lPt_R a) (lPt_R c) (lPt_R p) h.2.1 h.2.2.2.2.1 (by omega)
  · have hs := lSmall_r (lBox b)
    have e := lSmR_bd (r := lR h) (m := 12) (by omega) (by decide) (by decide)
    exact barTells0_true _ (lSmall_R _) (close_R _ (by decide) (by decide)) (close_R _ (by decide) (by decide)) (close_R _ (by decide) (by decide)) hs.2.2.1 hs.2.2.2.2.2.2.1 (by omega)
theorem n10 : W (9 + 1) ≠ 0 := by decide
theorem n41 : W (40 + 1) ≠ 0 := by decide

/-! ### BarParts -/
def addP (a d : P2) : P2 := ⟨W (a.x + d.x), W (a.y + d.y)⟩
def addP2 (a d : P2) : P2 := ⟨W (a.x + W (2 * d.x)), W (a.y + W (2 * d.y))⟩
def lMore (more : Int) : Int := (lR more).tmod 9
def barParts (b0 : B4) (a0 d0 : P2) (h0 : Int) (p0 : P2) (more : Int) : Bool :=
  let b := lSmall b0
  let a := lClose a0 20
  let d := lClose d0 9
  let p := lClose p0 40
  let h := lSmR (lR h0) 12
  let c := addP a d
  let e := addP2 a d
  let w := W (h + lMore more)
  andB (andB (andB (barHas p a e h == orB (barHas p a c h) (barHas p c e h)) (orB (!(barHas p a c h)) (barHas p a c w))) (orB (barClass b a c h != 2) (barClass b a e w == 2))) true
theorem lMore_bd (more : Int) : 0 ≤ lMore more ∧ lMore more ≤ 8 := by
  have a := lR_bd more
  have m0 := Int.tmod_nonneg (a := lR more) 9 (by omega)
  have m1 := (tmod_bd (lR more) (n := 9) (by decide)).2
  unfold lMore; omega
theorem addP_eq {a d : P2} {n m : Int} (ha : (-n ≤ a.x ∧ a.x ≤ n) ∧ (-n ≤ a.y ∧ a.y ≤ n)) (hd : (-m ≤ d.x ∧ d.x ≤ m) ∧ (-m ≤ d.y ∧ d.y ≤ m)) (hn : n ≤ 100) (hm : m ≤ 100) :
    addP a d = ⟨a.x + d.x, a.y + d.y⟩ ∧ addP2 a d = ⟨a.x + 2 * d.x, a.y + 2 * d.y⟩ := by
  unfold addP addP2
  rw [W_id (x := a.x + d.x) (by omega) (by omega), W_id (x := a.y + d.y) (by omega) (by omega), W_id (x := 2 * d.x) (by omega) (by omega), W_id (x := 2 * d.y) (by omega) (by omega),
    W_id (x := a.x + 2 * d.x) (by omega) (by omega), W_id (x := a.y + 2 * d.y) (by omega) (by omega)]
  exact ⟨rfl, rfl⟩
theorem PR_of {p : P2} {n : Int} (h : (-n ≤ p.x ∧ p.x ≤ n) ∧ (-n ≤ p.y ∧ p.y ≤ n)) (hn : n ≤ 1073741823) : PR p := ⟨⟨by omega, by omega⟩, ⟨by omega, by omega⟩⟩
theorem same_add (a d : P2) : same a ⟨a.x + d.x, a.y + d.y⟩ ↔ same ⟨0, 0⟩ d := by unfold same; dsimp only; omega
theorem same_add2 (a d : P2) : same a ⟨a.x + 2 * d.x, a.y + 2 * d.y⟩ ↔ same ⟨0, 0⟩ d := by unfold same; dsimp only; omega
theorem same_add12 (a d : P2) : same ⟨a.x + d.x, a.y + d.y⟩ ⟨a.x + 2 * d.x, a.y + 2 * d.y⟩ ↔ same ⟨0, 0⟩ d := by unfold same; dsimp only; omega
/-- with the length doubled -/
theorem clear_add2 (p a d : P2) (h : Int) : clear p a ⟨a.x + 2 * d.x, a.y + 2 * d.y⟩ h = clear p a ⟨a.x + d.x, a.y + d.y⟩ h := by
  unfold clear crossI distI; dsimp only
  refine decide_eq_decide.2 ?_
  have e1 : ((a.x + 2 * d.x - a.x) * (p.y - a.y) - (a.y + 2 * d.y - a.y) * (p.x - a.x)) = 2 * (d.x * (p.y - a.y) - d.y * (p.x - a.x)) := by grind
  have e2 : ((a.x + d.x - a.x) * (p.y - a.y) - (a.y + d.y - a.y) * (p.x - a.x)) = d.x * (p.y - a.y) - d.y * (p.x - a.x) := by grind
  have e3 : (a.x - (a.x + 2 * d.x)) * (a.x - (a.x + 2 * d.x)) + (a.y - (a.y + 2 * d.y)) * (a.y - (a.y + 2 * d.y)) = 4 * (d.x * d.x + d.y * d.y) := by grind
  have e4 : (a.x - (a.x + d.x)) * (a.x - (a.x + d.x)) + (a.y - (a.y + d.y)) * (a.y - (a.y + d.y)) = d.x * d.x + d.y * d.y := by grind
  rw [e1, e2, e3, e4]
  generalize d.x * (p.y - a.y) - d.y * (p.x - a.x) = K
  generalize d.x * d.x + d.y * d.y = L
  have f1 : 2 * K * (2 * K) = 4 * (K * K) := by grind
  have f2 : h * h * (4 * L) = 4 * (h * h * L) := by grind
  rw [f1, f2]; omega
theorem clear_add12 (p a d : P2) (h : Int) : clear p ⟨a.x + d.x, a.y + d.y⟩ ⟨a.x + 2 * d.x, a.y + 2 * d.y⟩ h = clear p a ⟨a.x + d.x, a.y + d.y⟩ h := by
  unfold clear crossI distI; dsimp only
  refine decide_eq_decide.2 ?_
  have e1 : ((a.x + 2 * d.x - (a.x + d.x)) * (p.y - (a.y + d.y)) - (a.y + 2 * d.y - (a.y + d.y)) * (p.x - (a.x + d.x))) = d.x * (p.y - a.y) - d.y * (p.x - a.x) := by grind
  have e2 : ((a.x + d.x - a.x) * (p.y - a.y) - (a.y + d.y - a.y) * (p.x - a.x)) = d.x * (p.y - a.y) - d.y * (p.x - a.x) := by grind
  have e3 : (a.x + d.x - (a.x + 2 * d.x)) * (a.x + d.x - (a.x + 2 * d.x)) + (a.y + d.y - (a.y + 2 * d.y)) * (a.y + d.y - (a.y + 2 * d.y)) = d.x * d.x + d.y * d.y := by grind
  have e4 : (a.x - (a.x + d.x)) * (a.x - (a.x + d.x)) + (a.y - (a.y + d.y)) * (a.y - (a.y + d.y)) = d.x * d.x + d.y * d.y := by grind
  rw [e1, e2, e3, e4]
theorem dots (p a d : P2) : dotI a ⟨a.x + 2 * d.x, a.y + 2 * d.y⟩ p = 2 * dotI a ⟨a.x + d.x, a.y + d.y⟩ p
    ∧ distI a ⟨a.x + 2 * d.x, a.y + 2 * d.y⟩ = 4 * distI a ⟨a.x + d.x, a.y + d.y⟩
    ∧ dotI ⟨a.x + d.x, a.y + d.y⟩ ⟨a.x + 2 * d.x, a.y + 2 * d.y⟩ p = dotI a ⟨a.x + d.x, a.y + d.y⟩ p - distI a ⟨a.x + d.x, a.y + d.y⟩
    ∧ distI ⟨a.x + d.x, a.y + d.y⟩ ⟨a.x + 2 * d.x, a.y + 2 * d.y⟩ = distI a ⟨a.x + d.x, a.y + d.y⟩ := by
  unfold dotI distI; dsimp only
  refine ⟨?_, ?_, ?_, ?_⟩ <;> grind
/-- more width is no less -/
theorem clear_mono {p a c : P2} {h w : Int} (h0 : 0 ≤ h) (hw : h ≤ w) (k : clear p a c h = true) : clear p a c w = true := by
  unfold clear at *
  simp only [decide_eq_true_eq] at *
  have := sq_le (x := h) (y := w) (by omega) hw
  have := Int.mul_nonneg (show 0 ≤ w * w - h * h by omega) (dist_nn a c)
  have e : (w * w - h * h) * distI a c = w * w * distI a c - h * h * distI a c := by grind
  omega
theorem barI_mono {p a c : P2} {h w : Int} (h0 : 0 ≤ h) (hw : h ≤ w) (k : barI p a c h = true) : barI p a c w = true := by
  unfold barI at *
  simp only [Bool.and_eq_true, decide_eq_true_eq] at *
  exact ⟨⟨⟨⟨k.1.1.1.1, by omega⟩, clear_mono h0 hw k.1.1.2⟩, k.1.2⟩, k.2⟩
theorem bar_two (p a d : P2) (h : Int) : barI p a ⟨a.x + 2 * d.x, a.y + 2 * d.y⟩ h = (barI p a ⟨a.x + d.x, a.y + d.y⟩ h || barI p ⟨a.x + d.x, a.y + d.y⟩ ⟨a.x + 2 * d.x, a.y + 2 * d.y⟩ h) := by
  unfold barI
  rw [clear_add2, clear_add12, decide_eq_decide.2 (same_add2 a d), decide_eq_decide.2 (same_add a d), decide_eq_decide.2 (same_add12 a d)]
  obtain ⟨e1, e2, e3, e4⟩ := dots p a d
  rw [e1, e2, e3, e4]
  have n := dist_nn a ⟨a.x + d.x, a.y + d.y⟩
  generalize dotI a ⟨a.x + d.x, a.y + d.y⟩ p = t at *
  generalize distI a ⟨a.x + d.x, a.y + d.y⟩ = L at *
  generalize clear p a ⟨a.x + d.x, a.y + d.y⟩ h = k
  generalize decide (same ⟨0, 0⟩ d) = s
  generalize decide (1 ≤ h) = o
  have x : (decide (0 ≤ 2 * t) && decide (2 * t ≤ 4 * L)) = ((decide (0 ≤ t) && decide (t ≤ L)) || (decide (0 ≤ t - L) && decide (t - L ≤ L))) := by
    rw [← Bool.decide_and, ← Bool.decide_and, ← Bool.decide_and, ← Bool.decide_or]
    refine decide_eq_decide.2 ?_; omega
  cases s <;> cases o <;> cases k <;> simp_all
theorem barCl_two {b : B4} {a c : P2} {h : Int} : barCl b a c h = 2 ↔ (¬ (h < 1 ∨ same a c) ∧ all4 (fun q => barI q a c h) b = true) := by
  unfold barCl
  by_cases k : h < 1 ∨ same a c
  · rw [if_pos k]; simp [k]
  · rw [if_neg k]
    cases all4 (fun q => barI q a c h) b
    · simp [k]; split <;> decide
    · simp [k]
theorem barParts_true (b : B4) (a d : P2) (h : Int) (p : P2) (more : Int) : barParts b a d h p more = true := by
  have ha := lClose_r a (n := 20) (by decide) (by decide)
  have hd := lClose_r d (n := 9) (by decide) (by decide)
  have hp := PR_of (lClose_r p (n := 40) (by decide) (by decide)) (by decide)
  have hr := lR_bd h
  have hh := lSmR_bd (r := lR h) (m := 12) (by omega) (by decide) (by decide)
  have hm := lMore_bd more
  have hs := lSmall_r b
  have hB := lSmall_R b
  unfold barParts
  dsimp only
  rw [(addP_eq ha hd (by decide) (by decide)).1, (addP_eq ha hd (by decide) (by decide)).2]
  generalize lClose a 20 = A at *
  generalize lClose d 9 = D at *
  generalize lClose p 40 = Q at *
  generalize lSmR (lR h) 12 = H at *
  generalize lMore more = M at *
  generalize lSmall b = B at *
  have hA : PR A := PR_of ha (by decide)
  have hC : PR ⟨A.x + D.x, A.y + D.y⟩ := ⟨⟨by dsimp only; omega, by dsimp only; omega⟩, ⟨by dsimp only; omega, by dsimp only; omega⟩⟩
  have hE : PR ⟨A.x + 2 * D.x, A.y + 2 * D.y⟩ := ⟨⟨by dsimp only; omega, by dsimp only; omega⟩, ⟨by dsimp only; omega, by dsimp only; omega⟩⟩
  rw [W_id (x := H + M) (by omega) (by omega)]
  rw [barHas_eq hp hA hE (by omega), barHas_eq hp hA hC (by omega), barHas_eq hp hC hE (by omega), barHas_eq hp hA hC (h := H + M) (by omega),
    barClass_eq hB hA hC hs.2.2.1 hs.2.2.2.2.2.2.1 (by omega), barClass_eq hB hA hE hs.2.2.1 hs.2.2.2.2.2.2.1 (by omega), bar_two]
  have m1 : barI Q A ⟨A.x + D.x, A.y + D.y⟩ H = true → barI Q A ⟨A.x + D.x, A.y + D.y⟩ (H + M) = true := barI_mono (by omega) (by omega)
  have m2 : barCl B A ⟨A.x + D.x, A.y + D.y⟩ H = 2 → barCl B A ⟨A.x + 2 * D.x, A.y + 2 * D.y⟩ (H + M) = 2 := by
    rw [barCl_two, barCl_two]
    rintro ⟨k1, k2⟩
    refine ⟨?_, all4_mono hB (fun q hq k => ?_) k2⟩
    · rw [same_add2]; rw [same_add] at k1
      rintro (x | x)
      · exact k1 (Or.inl (by omega))
      · exact k1 (Or.inr x)
    · have := barI_mono (w := H + M) (by omega) (by omega) k
      rw [bar_two, this, Bool.true_or]
  simp only [andB_eq, orB_eq, Bool.and_true, beq_self_eq_true, Bool.true_and]
  have f1 : (!barI Q A ⟨A.x + D.x, A.y + D.y⟩ H || barI Q A ⟨A.x + D.x, A.y + D.y⟩ (H + M)) = true := by
    cases k : barI Q A ⟨A.x + D.x, A.y + D.y⟩ H
    · rfl
    · rw [m1 k]; rfl
  have f2 : (barCl B A ⟨A.x + D.x, A.y + D.y⟩ H != 2 || barCl B A ⟨A.x + 2 * D.x, A.y + 2 * D.y⟩ (H + M) == 2) = true := by
    by_cases k : barCl B A ⟨A.x + D.x, A.y + D.y⟩ H = 2
    · rw [m2 k]; simp
    · simp [k]
  rw [f1, f2]; rfl
end Go.Proofs.Ytidgkcefjfdcbaa
