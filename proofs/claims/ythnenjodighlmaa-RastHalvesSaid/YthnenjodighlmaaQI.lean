/-
  OWN WORK. Joined by merge.py: Pib Pic Fin Fio Poi Pos Pou Fis Pid Ctt Fip Fiq Fit Dla Dle Awt Cnt Pie Pif Rgd Rge Pim Pin Rgf Rgh Tue Tuf Fir Bnb Rio Bnc Bnd Rpo Rpq Rgk Rgj.
-/
import Derived.Test.YthnenjodighlmaaQE
import Derived.RangeFuncNested
import Derived.RangeFuncBound
import Derived.RangeFuncCalls
import Derived.RangeFuncLeaves
import Derived.RangeFuncBox
import Derived.Shelf.Abstract
import Derived.Shelf.RegionOpen
import Derived.WalkKit
import Derived.OwnWalkIn
import Derived.TacticsInMore
import Derived.LoopNIn
import Derived.LoopIn
import Derived.Deep.WholeRow
import Derived.Test.YthnenjodighlmaaQF
import Derived.Test.YthnenjodighlmaaQH
import Derived.Test.YthnenjodighlmaaQG
/-! ## Pib -/
namespace Go.Proofs.Ythnenjodighlmaa
open Go Go.RowKit Go.Shelf
set_option maxRecDepth 100000

attribute [local go_sem] Oper.semAt_some

/-- the value of a row of objects, its cells in a block below n₀ -/
def Objs (n₀ : Nat) (W : World) (oa : Option Addr) (len : Nat) (g : Nat → Nat → Value) : Prop :=
  len = 0 ∨ ∃ b off, oa = some ⟨b, off, none⟩ ∧ b < n₀ ∧ ∀ i, i < len → ∀ j, j < 11 → W.cell? ⟨b, off + i * 11 + j, none⟩ = some (g i j)
theorem Objs.below {n₀ : Nat} {A B : World} (h : Below n₀ A B) {oa : Option Addr} {len : Nat} {g : Nat → Nat → Value} : Objs n₀ A oa len g → Objs n₀ B oa len g
  | .inl e => .inl e
  | .inr ⟨b, off, e, hb, hc⟩ => .inr ⟨b, off, e, hb, fun i hi j hj => (h.cell (p := ⟨b, off + i * 11 + j, none⟩) hb).trans (hc i hi j hj)⟩
theorem Objs.up {n₀ n₁ : Nat} (h : n₀ ≤ n₁) {W : World} {oa : Option Addr} {len : Nat} {g : Nat → Nat → Value} : Objs n₀ W oa len g → Objs n₁ W oa len g
  | .inl e => .inl e
  | .inr ⟨b, off, e, hb, hc⟩ => .inr ⟨b, off, e, by omega, hc⟩
end Go.Proofs.Ythnenjodighlmaa

/-! ## Pic -/
namespace Go.Proofs.Ythnenjodighlmaa
open Go Go.RowKit Go.Shelf
set_option maxRecDepth 100000

attribute [local go_sem] Oper.semAt_some

def PilRes (len : Nat) (hasV addV : Nat → Bool) (r : Bool) : Prop := (r = false ∧ ∀ j, j < len → hasV j = false) ∨ ∃ k, k < len ∧ r = addV (len - 1 - k) ∧ hasV (len - 1 - k) = true ∧ ∀ j, j < k → hasV (len - 1 - j) = false
end Go.Proofs.Ythnenjodighlmaa

/-! ## Fin -/
namespace Go.Proofs.Ythnenjodighlmaa
open Go Go.RowKit Sym
set_option maxRecDepth 100000

/-! ### fine shapes -/
def FinC (P : P2 → Prop) (l : Ctr) : Prop := l.n ≤ 4 ∧ ∀ i, i < l.n → l.m i ≤ 12 ∧ ∀ k, k < l.m i → P (l.p i k)
def Fine (P : P2 → Prop) : Shp → Int → Prop
  | .nil, _ => False
  | .mk k a b c r l n _ sub, d =>
    (k = 1 ∧ b = ze ∧ c = ze ∧ l = zeC ∧ n = 0 ∧ P a ∧ widF r = true) ∨
    (k = 3 ∧ c = ze ∧ l = zeC ∧ n = 0 ∧ P a ∧ P b ∧ widF r = true) ∨
    (k = 4 ∧ c = ze ∧ l = zeC ∧ n = 0 ∧ P a ∧ P b ∧ widF r = true ∧ a ≠ b) ∨
    (k = 5 ∧ l = zeC ∧ n = 0 ∧ P a ∧ P b ∧ P c ∧ widF r = true ∧ okI c a b) ∨
    (k = 2 ∧ a = ze ∧ b = ze ∧ c = ze ∧ r = 0 ∧ n = 0 ∧ FinC P l) ∨
    (k = 6 ∧ a = ze ∧ b = ze ∧ c = ze ∧ r = 0 ∧ l = zeC ∧ d ≤ 5 ∧ ((n : Int) ≤ 4 - d ∨ n ≤ 1) ∧ ∀ i, i < n → Fine P (sub i) (d + 1))
/-- how many shapes there are at most, from depth d on -/
def Nd (d : Int) : Int := if d ≥ 6 then 1 else if d = 5 then 2 else if d = 4 then 3 else if d = 3 then 4 else if d = 2 then 9 else if d = 1 then 28 else 113
theorem Nd_one (d : Int) : 1 ≤ Nd d ∧ Nd d ≤ 113 := by unfold Nd; repeat' split <;> first | omega | (constructor <;> omega)
theorem Nd_step {d m : Int} (h0 : 0 ≤ d) (h5 : d ≤ 5) (h1 : 0 ≤ m) (h2 : m ≤ 4 - d ∨ m ≤ 1) : 1 + m * Nd (d + 1) ≤ Nd d := by
  have : d = 0 ∨ d = 1 ∨ d = 2 ∨ d = 3 ∨ d = 4 ∨ d = 5 := by omega
  rcases this with rfl | rfl | rfl | rfl | rfl | rfl
  · rw [show Nd (0 + 1) = 28 by decide, show Nd 0 = 113 by decide]; omega
  · rw [show Nd (1 + 1) = 9 by decide, show Nd 1 = 28 by decide]; omega
  · rw [show Nd (2 + 1) = 4 by decide, show Nd 2 = 9 by decide]; omega
  · rw [show Nd (3 + 1) = 3 by decide, show Nd 3 = 4 by decide]; omega
  · rw [show Nd (4 + 1) = 2 by decide, show Nd 4 = 3 by decide]; omega
  · rw [show Nd (5 + 1) = 1 by decide, show Nd 5 = 2 by decide]; omega
theorem runN_inv {α : Type} {g : Nat → α → Bool × α} (I : Nat → α → Prop) {a : α} (h0 : I 0 a) : ∀ n, (∀ i x, i < n → I i x → (g i x).1 = true ∧ I (i + 1) (g i x).2) → (runN g a n).1 = true ∧ I n (runN g a n).2
  | 0, _ => ⟨rfl, h0⟩
  | n + 1, h => by
    have k := runN_inv I h0 n (fun i x hi => h i x (by omega))
    have e : runN g a n = (true, (runN g a n).2) := Prod.ext k.1 rfl
    rw [runN_go e]
    exact h n _ (by omega) k.2
theorem ctg_fine {P : P2 → Prop} (hP : ∀ p, P p → nearF p = true) {l : Ctr} (h : FinC P l) : contoursF l = true := by
  unfold contoursF
  refine (runN_inv (fun i (left : Int) => 1000 - 12 * (i : Int) ≤ left ∧ left ≤ 1000) ⟨by omega, by omega⟩ l.n (fun i x hi hx => ?_)).1
  have hm := h.2 i hi
  have hn := h.1
  unfold ctgO
  rw [decide_eq_false (show ¬ (l.m i : Int) > x by omega)]
  refine ⟨?_, ?_⟩
  · show (runN (ctgI l i) () (l.m i)).1 = true
    exact (runN_inv (fun _ _ => True) trivial (l.m i) (fun k _ hk _ => ⟨hP _ (hm.2 k hk), trivial⟩)).1
  · show 1000 - 12 * ((i + 1 : Nat) : Int) ≤ W (x - l.m i) ∧ W (x - l.m i) ≤ 1000
    rw [W_id (by omega) (by omega)]; omega
theorem near_PR {p : P2} (h : nearF p = true) : PR p := by
  unfold nearF at h
  rw [andB_eq, andB_eq, andB_eq, Bool.and_eq_true, Bool.and_eq_true, Bool.and_eq_true, decide_eq_true_eq, decide_eq_true_eq, decide_eq_true_eq, decide_eq_true_eq] at h
  exact ⟨⟨by omega, by omega⟩, ⟨by omega, by omega⟩⟩
theorem eqP_iff {a b : P2} : (bif a.x == b.x then bif a.y == b.y then true else false else false) = true ↔ a = b := by
  obtain ⟨x, y⟩ := a
  obtain ⟨x', y'⟩ := b
  by_cases h : x = x'
  · by_cases k : y = y'
    · subst h; subst k; simp
    · simp [h, k]
  · simp [h]
theorem bare_1 (a : P2) (r : Int) (add : Nat → Bool) (sub : Nat → Shp) : bareF (toSh (.mk 1 a ze ze r zeC 0 add sub)) = true := by kernel_rfl
theorem bare_3 (a b : P2) (r : Int) (add : Nat → Bool) (sub : Nat → Shp) : bareF (toSh (.mk 3 a b ze r zeC 0 add sub)) = true := by kernel_rfl
theorem bare_4 (a b : P2) (r : Int) (add : Nat → Bool) (sub : Nat → Shp) : bareF (toSh (.mk 4 a b ze r zeC 0 add sub)) = true := by kernel_rfl
theorem bare_5 (a b c : P2) (r : Int) (add : Nat → Bool) (sub : Nat → Shp) : bareF (toSh (.mk 5 a b c r zeC 0 add sub)) = true := by kernel_rfl
theorem bare_2 (l : Ctr) (add : Nat → Bool) (sub : Nat → Shp) : bareF (toSh (.mk 2 ze ze ze 0 l 0 add sub)) = true := by kernel_rfl
theorem bare_6 (n : Nat) (add : Nat → Bool) (sub : Nat → Shp) : bareF (toSh (.mk 6 ze ze ze 0 zeC n add sub)) = true := by kernel_rfl
theorem fine_valid {P : P2 → Prop} (hP : ∀ p, P p → nearF p = true) : ∀ (s : Shp) (d forms left : Int), Fine P s d → 0 ≤ d → 0 ≤ forms → forms ≤ d → Nd d ≤ left → left ≤ 1000 →
    (validF s forms left).1 = true ∧ left - Nd d ≤ (validF s forms left).2 ∧ (validF s forms left).2 ≤ left := by
  intro s
  induction s with
  | nil => intro d forms left h; exact h.elim
  | mk k a b c r l n add sub ih =>
    intro d forms left h h0 hf hfd hl h1
    have nd := Nd_one d
    have nn := Nd_one (d + 1)
    have e1 : decide (left < 1) = false := decide_eq_false (by omega)
    have e2 : W (left - 1) = left - 1 := W_id (by omega) (by omega)
    have fin : ∀ v : Bool × Int, v = (true, left - 1) → v.1 = true ∧ left - Nd d ≤ v.2 ∧ v.2 ≤ left := fun v hv => by subst hv; exact ⟨rfl, by dsimp only; omega, by dsimp only; omega⟩
    rcases h with ⟨rfl, rfl, rfl, rfl, rfl, ha, hr⟩ | ⟨rfl, rfl, rfl, rfl, ha, hb, hr⟩ | ⟨rfl, rfl, rfl, rfl, ha, hb, hr, hn⟩ | ⟨rfl, rfl, rfl, ha, hb, hc, hr, ho⟩ | ⟨rfl, rfl, rfl, rfl, rfl, rfl, hc⟩ | ⟨rfl, rfl, rfl, rfl, rfl, rfl, h5, hm, hs⟩
    · refine fin _ ?_
      simp only [validF]
      rw [e1, bare_1, e2, hP a ha, hr]; rfl
    · refine fin _ ?_
      simp only [validF]
      rw [e1, bare_3, e2, hP a ha, hP b hb, hr]; rfl
    · refine fin _ ?_
      simp only [validF]
      rw [e1, bare_4, e2, hP a ha, hP b hb, hr, show (bif a.x == b.x then bif a.y == b.y then true else false else false) = false by rw [Bool.eq_false_iff]; exact fun q => hn (eqP_iff.1 q)]; rfl
    · refine fin _ ?_
      simp only [validF]
      rw [e1, bare_5, e2, hP a ha, hP b hb, hP c hc, hr, (ringOk_eq (near_PR (hP c hc)) (near_PR (hP a ha)) (near_PR (hP b hb))).2 ho]; rfl
    · refine fin _ ?_
      simp only [validF]
      rw [e1, bare_2, e2, ctg_fine hP hc]; rfl
    · have st := Nd_step h0 h5 (show 0 ≤ (n : Int) by omega) (by omega)
      have key := runN_inv (g := fun i lf => validF (sub i) (W (forms + 1)) lf) (a := left - 1) (fun i (lf : Int) => left - 1 - (i : Int) * Nd (d + 1) ≤ lf ∧ lf ≤ left - 1) ⟨by omega, by omega⟩ n (fun i x hi hx => by
        have a1 : ((i + 1 : Nat) : Int) * Nd (d + 1) ≤ (n : Int) * Nd (d + 1) := Int.mul_le_mul_of_nonneg_right (by omega) (by omega)
        have a2 : ((i + 1 : Nat) : Int) * Nd (d + 1) = (i : Int) * Nd (d + 1) + Nd (d + 1) := by rw [show ((i + 1 : Nat) : Int) = (i : Int) + 1 by omega, Int.add_mul, Int.one_mul]
        have w : W (forms + 1) = forms + 1 := W_id (by omega) (by omega)
        have q := ih i (d + 1) (forms + 1) x (hs i hi) (by omega) (by omega) (by omega) (by omega) (by omega)
        rw [w]
        refine ⟨q.1, ?_, ?_⟩
        · omega
        · omega)
      have ev : validF (.mk 6 ze ze ze 0 zeC n add sub) forms left = runN (fun i lf => validF (sub i) (W (forms + 1)) lf) (left - 1) n := by
        simp only [validF]
        rw [e1, bare_6, e2, decide_eq_false (show ¬ forms ≥ 8 by omega)]; rfl
      rw [ev]
      exact ⟨key.1, by omega, by omega⟩
end Go.Proofs.Ythnenjodighlmaa

/-! ## Fio -/
namespace Go.Proofs.Ythnenjodighlmaa
open Go Go.RowKit Sym
set_option maxRecDepth 100000

/-- no farther out than B -/
def PB (B : Int) (p : P2) : Prop := (-B ≤ p.x ∧ p.x ≤ B) ∧ (-B ≤ p.y ∧ p.y ≤ B)
theorem PB_near {B : Int} (h : B ≤ 536870912) {p : P2} (k : PB B p) : nearF p = true := by
  unfold nearF
  rw [decide_eq_true (show p.x ≥ -536870912 by have := k.1; omega), decide_eq_true (show p.x ≤ 536870912 by have := k.1; omega), decide_eq_true (show p.y ≥ -536870912 by have := k.2; omega), decide_eq_true (show p.y ≤ 536870912 by have := k.2; omega)]
  rfl
/-- how far out a tame shape goes -/
def tmX (sm : Bool) : Int := bif sm then 40 else 536870912
theorem at_PB (p : P2) (sm : Bool) : PB (tmX sm) (atP p sm) := by
  cases sm
  · exact lPt_r p
  · have h := lClose_r p (n := 20) (by decide) (by decide)
    exact ⟨⟨by show (-40 : Int) ≤ (lClose p 20).x; omega, by show (lClose p 20).x ≤ (40 : Int); omega⟩, ⟨by show (-40 : Int) ≤ (lClose p 20).y; omega, by show (lClose p 20).y ≤ (40 : Int); omega⟩⟩
theorem at_PB0 (p : P2) (sm : Bool) : (-536870912 ≤ (atP p sm).x ∧ (atP p sm).x ≤ 536870912) := by
  have h := at_PB p sm
  cases sm
  · exact h.1
  · have := h.1; unfold tmX at this; simp only [cond_true] at this; omega
theorem tmB_ok (s : Sh) (sm : Bool) : PB (tmX sm) (tmB s sm) ∧ atP s.a sm ≠ tmB s sm := by
  have hb := at_PB s.b sm
  have h0 := at_PB0 s.b sm
  have hx : 40 ≤ tmX sm := by cases sm <;> decide
  unfold tmB
  cases e : eqP (atP s.a sm) (atP s.b sm)
  · refine ⟨hb, fun q => ?_⟩
    rw [Bool.eq_false_iff] at e
    exact e (eqP_iff.2 q)
  · have ea : atP s.a sm = atP s.b sm := eqP_iff.1 e
    cases g : decide ((atP s.b sm).x > 0)
    · rw [decide_eq_false_iff_not] at g
      have w : W ((atP s.b sm).x + 1) = (atP s.b sm).x + 1 := W_id (by omega) (by omega)
      refine ⟨⟨⟨by show _ ≤ W ((atP s.b sm).x + 1); rw [w]; have := hb.1; omega, by show W ((atP s.b sm).x + 1) ≤ _; rw [w]; omega⟩, hb.2⟩, fun q => ?_⟩
      have : (atP s.a sm).x = W ((atP s.b sm).x + 1) := congrArg P2.x q
      rw [ea, w] at this; omega
    · rw [decide_eq_true_eq] at g
      have w : W ((atP s.b sm).x - 1) = (atP s.b sm).x - 1 := W_id (by omega) (by omega)
      refine ⟨⟨⟨by show _ ≤ W ((atP s.b sm).x - 1); rw [w]; omega, by show W ((atP s.b sm).x - 1) ≤ _; rw [w]; have := hb.1; omega⟩, hb.2⟩, fun q => ?_⟩
      have : (atP s.a sm).x = W ((atP s.b sm).x - 1) := congrArg P2.x q
      rw [ea, w] at this; omega
theorem tmR_ok (s : Sh) (sm : Bool) : widF (tmR s sm) = true := by
  have h := lR_bd s.r
  unfold widF
  cases sm
  · show andB (decide (lR s.r ≥ 1)) (decide (lR s.r ≤ 536870912)) = true
    rw [decide_eq_true (show lR s.r ≥ 1 by omega), decide_eq_true h.2]; rfl
  · have h1 := Int.tmod_nonneg (a := lR s.r) 15 (by omega)
    have h2 := (tmod_bd (lR s.r) (n := 15) (by decide)).2
    show andB (decide (W ((lR s.r).tmod 15 + 1) ≥ 1)) (decide (W ((lR s.r).tmod 15 + 1) ≤ 536870912)) = true
    rw [W_id (by omega) (by omega), decide_eq_true (show (lR s.r).tmod 15 + 1 ≥ 1 by omega), decide_eq_true (show (lR s.r).tmod 15 + 1 ≤ 536870912 by omega)]; rfl
theorem arcC_PB (c : P2) (sm : Bool) : PB (tmX sm) (arcC c sm) := by
  cases sm
  · have h := arcC_r c false
    exact ⟨⟨by show (-536870912 : Int) ≤ _; omega, by show _ ≤ (536870912 : Int); omega⟩, ⟨by show (-536870912 : Int) ≤ _; omega, by show _ ≤ (536870912 : Int); omega⟩⟩
  · have h := arcC_s c
    exact ⟨⟨by show (-40 : Int) ≤ _; omega, by show _ ≤ (40 : Int); omega⟩, ⟨by show (-40 : Int) ≤ _; omega, by show _ ≤ (40 : Int); omega⟩⟩
theorem arcAt_PB (c : P2) (f s : Int) (sm : Bool) : PB (tmX sm) (arcAt c f s sm) := by
  rw [arcAt_eq]
  have h := circ_ok f
  cases sm
  · have hc := arcC_r c false
    have kk := arcK_bd s false
    have x := mul_bd (A := 20000000) (B := 5) (x := arcK s false) (y := (circ f).x) (by omega) (by omega) h.x.1 h.x.2
    have y := mul_bd (A := 20000000) (B := 5) (x := arcK s false) (y := (circ f).y) (by omega) (by omega) h.y.1 h.y.2
    exact ⟨⟨by show (-536870912 : Int) ≤ (arcC c false).x + _; omega, by show (arcC c false).x + _ ≤ (536870912 : Int); omega⟩, ⟨by show (-536870912 : Int) ≤ (arcC c false).y + _; omega, by show (arcC c false).y + _ ≤ (536870912 : Int); omega⟩⟩
  · have hc := arcC_s c
    have kk := arcK1_bd s
    have x := mul_bd (A := 4) (B := 5) (x := arcK1 s) (y := (circ f).x) (by omega) (by omega) h.x.1 h.x.2
    have y := mul_bd (A := 4) (B := 5) (x := arcK1 s) (y := (circ f).y) (by omega) (by omega) h.y.1 h.y.2
    exact ⟨⟨by show (-40 : Int) ≤ (arcC c true).x + arcK1 s * (circ f).x; omega, by show (arcC c true).x + arcK1 s * (circ f).x ≤ (40 : Int); omega⟩, ⟨by show (-40 : Int) ≤ (arcC c true).y + arcK1 s * (circ f).y; omega, by show (arcC c true).y + arcK1 s * (circ f).y ≤ (40 : Int); omega⟩⟩
theorem arc_okJ (c : P2) (f t s : Int) (sm : Bool) : okI (arcC c sm) (arcAt c f s sm) (arcAt c t s sm) := by
  have kk := arcK_bd s sm
  have a := (onC_r (arcC_r c sm) kk (circ_ok f)).2
  have b := (onC_r (arcC_r c sm) kk (circ_ok t)).2
  rw [arcAt_eq, arcAt_eq]
  have p : 1 ≤ arcK s sm * arcK s sm := Int.le_trans (show (1 : Int) ≤ 1 * 1 by decide) (Int.mul_le_mul kk.1 kk.1 (by decide) (by omega))
  exact ⟨by rw [a]; omega, by rw [a, b]⟩
theorem tameC_Fin (l : Ctr) (sm : Bool) : FinC (PB (tmX sm)) (tameC l sm) := by
  refine ⟨by show min l.n 4 ≤ 4; omega, fun i _ => ⟨by show min (l.m i) 12 ≤ 12; omega, fun k _ => ?_⟩⟩
  cases sm
  · exact lPt_r (l.p i k)
  · have h := lClose_r (lPt (l.p i k)) (n := 20) (by decide) (by decide)
    exact ⟨⟨by show (-40 : Int) ≤ (lClose (lPt (l.p i k)) 20).x; omega, by show (lClose (lPt (l.p i k)) 20).x ≤ (40 : Int); omega⟩, ⟨by show (-40 : Int) ≤ (lClose (lPt (l.p i k)) 20).y; omega, by show (lClose (lPt (l.p i k)) 20).y ≤ (40 : Int); omega⟩⟩
theorem tmK0_bd (s : Sh) : 1 ≤ tmK0 s ∧ tmK0 s ≤ 6 := by
  have a := tmod_bd s.k (n := 6) (by decide)
  have w : W (s.k.tmod 6 + 6) = s.k.tmod 6 + 6 := W_id (by omega) (by omega)
  have b := Int.tmod_nonneg (a := s.k.tmod 6 + 6) 6 (by omega)
  have c := (tmod_bd (s.k.tmod 6 + 6) (n := 6) (by decide)).2
  unfold tmK0
  rw [w, W_id (by omega) (by omega)]; omega
theorem tmKk_bd (s : Sh) (d : Int) : (1 ≤ tmKk s d ∧ tmKk s d ≤ 6) ∧ (tmKk s d = 6 → d ≤ 5) := by
  have a := tmK0_bd s
  unfold tmKk
  by_cases h : d > 5
  · rw [decide_eq_true h]
    cases g : tmK0 s == 6
    · refine ⟨a, fun e => ?_⟩
      have e : tmK0 s = 6 := e
      rw [e] at g; cases g
    · exact ⟨by show (1 : Int) ≤ 1 ∧ (1 : Int) ≤ 6; omega, fun e => by cases e⟩
  · rw [decide_eq_false h]
    exact ⟨a, fun _ => by omega⟩
theorem tame_fine (sm : Bool) : ∀ (s : Shp) (d : Int), ShB s → 0 ≤ d → d ≤ 6 → Fine (PB (tmX sm)) (tameS s sm d) d := by
  intro s
  induction s with
  | nil => intro d h; exact h.elim
  | mk k a b c r l n add sub ih =>
    intro d h h0 h6
    have kk := tmKk_bd ⟨k, a, b, c, r, l, n, noF⟩ d
    have kb := tmB_ok ⟨k, a, b, c, r, l, n, noF⟩ sm
    have kr := tmR_ok ⟨k, a, b, c, r, l, n, noF⟩ sm
    simp only [tameS]
    generalize tmKk ⟨k, a, b, c, r, l, n, noF⟩ d = K at *
    have : K = 1 ∨ K = 2 ∨ K = 3 ∨ K = 4 ∨ K = 5 ∨ K = 6 := by omega
    rcases this with rfl | rfl | rfl | rfl | rfl | rfl
    · exact .inl ⟨rfl, rfl, rfl, rfl, rfl, at_PB a sm, kr⟩
    · exact .inr (.inr (.inr (.inr (.inl ⟨rfl, rfl, rfl, rfl, rfl, rfl, tameC_Fin l sm⟩))))
    · exact .inr (.inl ⟨rfl, rfl, rfl, rfl, at_PB a sm, kb.1, kr⟩)
    · exact .inr (.inr (.inl ⟨rfl, rfl, rfl, rfl, at_PB a sm, kb.1, kr, kb.2⟩))
    · exact .inr (.inr (.inr (.inl ⟨rfl, rfl, rfl, arcAt_PB _ _ _ _, arcAt_PB _ _ _ _, arcC_PB _ _, kr, arc_okJ _ _ _ _ _⟩)))
    · have h5 := kk.2 rfl
      have w : W (4 - d) = 4 - d := W_id (by omega) (by omega)
      have wd : W (d + 1) = d + 1 := W_id (by omega) (by omega)
      have hn : tmN ⟨k, a, b, c, r, l, n, noF⟩ d = min n (imax (4 - d) 1).toNat := by unfold tmN; rw [w]
      refine .inr (.inr (.inr (.inr (.inr ⟨rfl, rfl, rfl, rfl, rfl, rfl, h5, ?_, fun i hi => ?_⟩))))
      · rw [hn]; unfold imax; split <;> omega
      · rw [wd]
        exact ih i (d + 1) (h.2.2 i (by rw [hn] at hi; omega)) (by omega) (by omega)
end Go.Proofs.Ythnenjodighlmaa

/-! ## Poi -/
namespace Go.Proofs.Ythnenjodighlmaa
open Go Go.RowKit Sym

def crossesI (p a e : P2) : Bool := (decide (a.y > p.y) != decide (e.y > p.y)) && (if e.y > a.y then decide (crossI a e p > 0) else decide (crossI a e p < 0))
theorem crossesF_eq {p a e : P2} (hp : PR p) (ha : PR a) (he : PR e) : crossesF p a e = crossesI p a e := by
  unfold crossesF crossesI
  rw [(cross_eq ha he hp).1]
  by_cases k : e.y > a.y
  · simp only [k, decide_true, if_true]
    cases decide (a.y > p.y) <;> cases decide (e.y > p.y) <;> rfl
  · simp only [k, decide_false, if_false]
    cases decide (a.y > p.y) <;> cases decide (e.y > p.y) <;> rfl
def spotB (p : P2) : B4 := ⟨p.x, p.y, p.x, p.y⟩
/-- a point lies on an edge -/
def onI (p a e : P2) : Bool := decide (min a.x e.x ≤ p.x ∧ p.x ≤ max a.x e.x ∧ min a.y e.y ≤ p.y ∧ p.y ≤ max a.y e.y ∧ crossI a e p = 0)
theorem spot_meets (p a e : P2) : meetsI (spotB p) a e = onI p a e := by
  have h : ∀ f : P2 → Bool, all4 f (spotB p) = f p := fun f => by unfold all4 spotB; dsimp only; cases f ⟨p.x, p.y⟩ <;> rfl
  unfold meetsI
  rw [h, h]
  rw [Bool.eq_iff_iff]
  unfold sepI onI spotB
  simp only [Bool.and_eq_true, Bool.not_eq_true', Bool.or_eq_false_iff, decide_eq_false_iff_not, decide_eq_true_eq]
  omega
/-! ### rectangles -/
theorem crossesI_h {p : P2} {x0 x1 y : Int} : crossesI p ⟨x0, y⟩ ⟨x1, y⟩ = false := by
  unfold crossesI; simp
theorem crossesI_v {p : P2} {x y0 y1 : Int} : crossesI p ⟨x, y0⟩ ⟨x, y1⟩ = decide (min y0 y1 ≤ p.y ∧ p.y < max y0 y1 ∧ p.x < x) := by
  have e : crossI ⟨x, y0⟩ ⟨x, y1⟩ p = (y1 - y0) * (x - p.x) := by unfold crossI; dsimp only; grind
  unfold crossesI
  dsimp only
  rw [e, Bool.eq_iff_iff]
  by_cases k : y1 > y0
  · have s : (y1 - y0) * (x - p.x) > 0 ↔ p.x < x := by
      constructor
      · intro h
        rcases (show p.x < x ∨ x ≤ p.x by omega) with g | g
        · exact g
        · have := Int.mul_nonneg (show 0 ≤ y1 - y0 by omega) (show 0 ≤ p.x - x by omega)
          have e : (y1 - y0) * (p.x - x) = -((y1 - y0) * (x - p.x)) := by grind
          omega
      · intro h; exact Int.mul_pos (by omega) (by omega)
    simp only [k, if_true, Bool.and_eq_true, bne_iff_ne, ne_eq, decide_eq_decide, decide_eq_true_eq, s]
    omega
  · by_cases k' : y0 > y1
    · have s : (y1 - y0) * (x - p.x) < 0 ↔ p.x < x := by
        have e : (y1 - y0) * (x - p.x) = -((y0 - y1) * (x - p.x)) := by grind
        rw [e]
        constructor
        · intro h
          rcases (show p.x < x ∨ x ≤ p.x by omega) with g | g
          · exact g
          · have := Int.mul_nonneg (show 0 ≤ y0 - y1 by omega) (show 0 ≤ p.x - x by omega)
            have e : (y0 - y1) * (p.x - x) = -((y0 - y1) * (x - p.x)) := by grind
            omega
        · intro h
          have := Int.mul_pos (show 0 < y0 - y1 by omega) (show 0 < x - p.x by omega)
          omega
      simp only [k, if_false, Bool.and_eq_true, bne_iff_ne, ne_eq, decide_eq_decide, decide_eq_true_eq, s]
      omega
    · have : y0 = y1 := by omega
      subst this
      simp
      omega
end Go.Proofs.Ythnenjodighlmaa

/-! ## Pos -/
namespace Go.Proofs.Ythnenjodighlmaa
open Go Go.RowKit Sym

theorem meetsI_swp (b : B4) (p q : P2) : meetsI b q p = meetsI b p q := by
  have e : ∀ c, crossI q p c = -(crossI p q c) := fun c => by unfold crossI; grind
  unfold meetsI sepI
  rw [show all4 (fun c => decide (crossI q p c > 0)) b = all4 (fun c => decide (crossI p q c < 0)) b from by
    unfold all4; simp only [e, show ∀ x : Int, decide (-x > 0) = decide (x < 0) from fun x => by rw [Bool.eq_iff_iff]; simp only [decide_eq_true_eq]; omega]]
  rw [show all4 (fun c => decide (crossI q p c < 0)) b = all4 (fun c => decide (crossI p q c > 0)) b from by
    unfold all4; simp only [e, show ∀ x : Int, decide (-x < 0) = decide (x > 0) from fun x => by rw [Bool.eq_iff_iff]; simp only [decide_eq_true_eq]; omega]]
  rw [Int.max_comm q.x, Int.max_comm q.y, Int.min_comm q.x, Int.min_comm q.y]
  cases all4 (fun c => decide (crossI p q c > 0)) b <;> cases all4 (fun c => decide (crossI p q c < 0)) b <;> rfl
theorem crossesI_swp (p a e : P2) : crossesI p e a = crossesI p a e := by
  have h : crossI e a p = -(crossI a e p) := by unfold crossI; grind
  unfold crossesI
  rw [h, Bool.eq_iff_iff]
  by_cases k : e.y > a.y <;> by_cases k' : a.y > e.y <;> simp only [k, k', if_true, if_false, Bool.and_eq_true, bne_iff_ne, ne_eq, decide_eq_decide, decide_eq_true_eq] <;> omega
/-- an edge meets a box of which it has a point on each side -/
theorem meets_two {b : B4} {a e p q : P2} (hp : hasI b p) (hq : hasI b q) (h0 : crossI a e p ≤ 0) (h1 : 0 ≤ crossI a e q) (hs : sepI b a e = false) : meetsI b a e = true := by
  obtain ⟨k, hk, hl⟩ := cross_le a e hp
  obtain ⟨k', hk', hl'⟩ := cross_ge a e hq
  have f1 : all4 (fun c => decide (crossI a e c > 0)) b = false := by
    rw [Bool.eq_false_iff]; intro h
    have := all4_iff.1 h k hk
    simp only [decide_eq_true_eq] at this; omega
  have f2 : all4 (fun c => decide (crossI a e c < 0)) b = false := by
    rw [Bool.eq_false_iff]; intro h
    have := all4_iff.1 h k' hk'
    simp only [decide_eq_true_eq] at this; omega
  unfold meetsI
  rw [hs, f1, f2]; rfl
theorem sep_no {b : B4} {a e : P2} (h1 : b.x0 ≤ max a.x e.x) (h2 : min a.x e.x ≤ b.x1) (h3 : b.y0 ≤ max a.y e.y) (h4 : min a.y e.y ≤ b.y1) : sepI b a e = false := by
  unfold sepI
  simp only [Bool.or_eq_false_iff, decide_eq_false_iff_not]
  omega
/-- left of an edge that goes up -/
theorem left_of {a e p : P2} (h1 : a.y ≤ p.y) (h2 : p.y ≤ e.y) (h : a.y < e.y) (hx : p.x < a.x) (hx' : p.x < e.x) : 0 < crossI a e p := by
  have e0 : crossI a e p = (e.x - p.x) * (p.y - a.y) + (a.x - p.x) * (e.y - p.y) := by unfold crossI; grind
  have p1 := Int.mul_nonneg (show 0 ≤ e.x - p.x by omega) (show 0 ≤ p.y - a.y by omega)
  have p2 := Int.mul_nonneg (show 0 ≤ a.x - p.x by omega) (show 0 ≤ e.y - p.y by omega)
  rcases (show a.y < p.y ∨ p.y < e.y by omega) with k | k
  · have := Int.mul_pos (show 0 < e.x - p.x by omega) (show 0 < p.y - a.y by omega); omega
  · have := Int.mul_pos (show 0 < a.x - p.x by omega) (show 0 < e.y - p.y by omega); omega
theorem right_of {a e p : P2} (h1 : a.y ≤ p.y) (h2 : p.y ≤ e.y) (hx : a.x ≤ p.x) (hx' : e.x ≤ p.x) : crossI a e p ≤ 0 := by
  have e0 : crossI a e p = -((p.x - e.x) * (p.y - a.y)) - (p.x - a.x) * (e.y - p.y) := by unfold crossI; grind
  have p1 := Int.mul_nonneg (show 0 ≤ p.x - e.x by omega) (show 0 ≤ p.y - a.y by omega)
  have p2 := Int.mul_nonneg (show 0 ≤ p.x - a.x by omega) (show 0 ≤ e.y - p.y by omega)
  omega
theorem crosses_up {p a e : P2} (h : a.y ≤ e.y) : crossesI p a e = true ↔ a.y ≤ p.y ∧ p.y < e.y ∧ 0 < crossI a e p := by
  unfold crossesI
  by_cases k : e.y > a.y
  · simp only [k, if_true, Bool.and_eq_true, bne_iff_ne, ne_eq, decide_eq_decide, decide_eq_true_eq]; omega
  · simp only [k, if_false, Bool.and_eq_true, bne_iff_ne, ne_eq, decide_eq_decide, decide_eq_true_eq]; omega
/-- moved to the side -/
theorem cross_side {b : B4} {a e p q : P2} (hp : hasI b p) (hq : hasI b q) (hy : p.y = q.y) (hm : meetsI b a e = false) : crossesI p a e = crossesI q a e := by
  have one : ∀ {a e : P2}, a.y ≤ e.y → meetsI b a e = false → ∀ {p q : P2}, hasI b p → hasI b q → p.y = q.y → crossesI p a e = true → crossesI q a e = true := by
    intro a e h hm p q hp hq hy hc
    obtain ⟨c1, c2, c3⟩ := (crosses_up h).1 hc
    refine (crosses_up h).2 ⟨by omega, by omega, ?_⟩
    rcases (show 0 < crossI a e q ∨ crossI a e q ≤ 0 by omega) with g | g
    · exact g
    · exfalso
      have hs : sepI b a e = false := by
        unfold hasI at hp hq
        refine sep_no ?_ ?_ (by omega) (by omega)
        · rcases (show b.x0 ≤ max a.x e.x ∨ max a.x e.x < b.x0 by omega) with k | k
          · exact k
          · have := right_of (a := a) (e := e) (p := p) (by omega) (by omega) (by omega) (by omega); omega
        · rcases (show min a.x e.x ≤ b.x1 ∨ b.x1 < min a.x e.x by omega) with k | k
          · exact k
          · have := left_of (a := a) (e := e) (p := q) (by omega) (by omega) (by omega) (by omega) (by omega); omega
      rw [meets_two hq hp g (by omega) hs] at hm; cases hm
  rw [Bool.eq_iff_iff]
  rcases Int.le_total a.y e.y with h | h
  · exact ⟨one h hm hp hq hy, one h hm hq hp hy.symm⟩
  · rw [← crossesI_swp p, ← crossesI_swp q]
    rw [← meetsI_swp] at hm
    exact ⟨one h hm hp hq hy, one h hm hq hp hy.symm⟩
/-- right of the way up from height v to height v' -/
def stripB (u v v' : Int) (w : P2) : Bool := decide (v < w.y ∧ w.y ≤ v' ∧ u < w.x)
theorem cross_end (a e : P2) (u : Int) : crossI a e ⟨u, e.y⟩ = (e.y - a.y) * (e.x - u) ∧ crossI a e ⟨u, a.y⟩ = (e.y - a.y) * (a.x - u) := by
  unfold crossI; dsimp only; constructor <;> grind
theorem mul_sign {t x : Int} (h : 0 ≤ t) : (0 < x ∧ 0 ≤ t * x) ∨ (x = 0 ∧ t * x = 0) ∨ (x < 0 ∧ t * x ≤ 0) := by
  rcases (show 0 < x ∨ x = 0 ∨ x < 0 by omega) with k | k | k
  · exact .inl ⟨k, Int.mul_nonneg h (by omega)⟩
  · subst k; exact .inr (.inl ⟨rfl, Int.mul_zero _⟩)
  · have := Int.mul_nonneg h (show 0 ≤ -x by omega)
    rw [Int.mul_neg] at this; exact .inr (.inr ⟨k, by omega⟩)
/-- who is where: heights -/
theorem rise_cases {ay ey ax ex u v v' G1 G2 : Int} (h : ay ≤ ey) (hv : v ≤ v')
    (hC : ay ≤ v → v' < ey → (0 < G1 ↔ 0 < G2)) (hD : ay ≤ v → v < ey → ey ≤ v' → (0 < G1 ↔ u < ex)) (hE : v < ay → ay ≤ v' → v' < ey → (0 < G2 ↔ u < ax)) (hF : v < ay → ey ≤ v' → (u < ax ↔ u < ex)) :
    xor (decide (ay ≤ v ∧ v < ey ∧ 0 < G1)) (decide (ay ≤ v' ∧ v' < ey ∧ 0 < G2)) = xor (decide (v < ay ∧ ay ≤ v' ∧ u < ax)) (decide (v < ey ∧ ey ≤ v' ∧ u < ex)) := by
  have D : ∀ {a b : Prop} [Decidable a] [Decidable b], (a ↔ b) → decide a = decide b := fun h => decide_eq_decide.2 h
  have N : ∀ {a : Prop} [Decidable a], ¬ a → decide a = false := fun h => decide_eq_false h
  rcases (show ey ≤ v ∨ v' < ay ∨ (ay ≤ v ∧ v' < ey) ∨ (ay ≤ v ∧ v < ey ∧ ey ≤ v') ∨ (v < ay ∧ ay ≤ v' ∧ v' < ey) ∨ (v < ay ∧ ey ≤ v') by omega) with k | k | ⟨k1, k2⟩ | ⟨k1, k2, k3⟩ | ⟨k1, k2, k3⟩ | ⟨k1, k2⟩
  · rw [N (show ¬ (ay ≤ v ∧ v < ey ∧ 0 < G1) by omega), N (show ¬ (ay ≤ v' ∧ v' < ey ∧ 0 < G2) by omega), N (show ¬ (v < ay ∧ ay ≤ v' ∧ u < ax) by omega), N (show ¬ (v < ey ∧ ey ≤ v' ∧ u < ex) by omega)]
  · rw [N (show ¬ (ay ≤ v ∧ v < ey ∧ 0 < G1) by omega), N (show ¬ (ay ≤ v' ∧ v' < ey ∧ 0 < G2) by omega), N (show ¬ (v < ay ∧ ay ≤ v' ∧ u < ax) by omega), N (show ¬ (v < ey ∧ ey ≤ v' ∧ u < ex) by omega)]
  · have := hC k1 k2
    rw [D (show (ay ≤ v ∧ v < ey ∧ 0 < G1) ↔ 0 < G1 from ⟨fun z => z.2.2, fun z => ⟨k1, by omega, z⟩⟩), D (show (ay ≤ v' ∧ v' < ey ∧ 0 < G2) ↔ 0 < G1 from ⟨fun z => this.2 z.2.2, fun z => ⟨by omega, k2, this.1 z⟩⟩), N (show ¬ (v < ay ∧ ay ≤ v' ∧ u < ax) by omega), N (show ¬ (v < ey ∧ ey ≤ v' ∧ u < ex) by omega)]
    simp
  · have := hD k1 k2 k3
    rw [D (show (ay ≤ v ∧ v < ey ∧ 0 < G1) ↔ u < ex from ⟨fun z => this.1 z.2.2, fun z => ⟨k1, k2, this.2 z⟩⟩), N (show ¬ (ay ≤ v' ∧ v' < ey ∧ 0 < G2) by omega), N (show ¬ (v < ay ∧ ay ≤ v' ∧ u < ax) by omega), D (show (v < ey ∧ ey ≤ v' ∧ u < ex) ↔ u < ex from ⟨fun z => z.2.2, fun z => ⟨k2, k3, z⟩⟩)]
    simp
  · have := hE k1 k2 k3
    rw [N (show ¬ (ay ≤ v ∧ v < ey ∧ 0 < G1) by omega), D (show (ay ≤ v' ∧ v' < ey ∧ 0 < G2) ↔ u < ax from ⟨fun z => this.1 z.2.2, fun z => ⟨k2, k3, this.2 z⟩⟩), D (show (v < ay ∧ ay ≤ v' ∧ u < ax) ↔ u < ax from ⟨fun z => z.2.2, fun z => ⟨k1, k2, z⟩⟩), N (show ¬ (v < ey ∧ ey ≤ v' ∧ u < ex) by omega)]
    simp
  · have := hF k1 k2
    rw [N (show ¬ (ay ≤ v ∧ v < ey ∧ 0 < G1) by omega), N (show ¬ (ay ≤ v' ∧ v' < ey ∧ 0 < G2) by omega), D (show (v < ay ∧ ay ≤ v' ∧ u < ax) ↔ u < ax from ⟨fun z => z.2.2, fun z => ⟨k1, by omega, z⟩⟩), D (show (v < ey ∧ ey ≤ v' ∧ u < ex) ↔ u < ax from ⟨fun z => this.2 z.2.2, fun z => ⟨by omega, k2, this.1 z⟩⟩)]
    simp
theorem cross_rise {b : B4} {a e : P2} {u v v' : Int} (hv : v ≤ v') (hp : hasI b ⟨u, v⟩) (hq : hasI b ⟨u, v'⟩) (hm : meetsI b a e = false) : xor (crossesI ⟨u, v⟩ a e) (crossesI ⟨u, v'⟩ a e) = xor (stripB u v v' a) (stripB u v v' e) := by
  have one : ∀ {a e : P2}, a.y ≤ e.y → meetsI b a e = false → xor (crossesI ⟨u, v⟩ a e) (crossesI ⟨u, v'⟩ a e) = xor (stripB u v v' a) (stripB u v v' e) := by
    intro a e h hm
    have c1 := crosses_up (p := ⟨u, v⟩) h
    have c2 := crosses_up (p := ⟨u, v'⟩) h
    obtain ⟨ee, ea⟩ := cross_end a e u
    have se := mul_sign (t := e.y - a.y) (x := e.x - u) (by omega)
    have sa := mul_sign (t := e.y - a.y) (x := a.x - u) (by omega)
    rw [← ee] at se
    rw [← ea] at sa
    have hu : b.x0 ≤ u ∧ u ≤ b.x1 ∧ b.y0 ≤ v ∧ v' ≤ b.y1 := by unfold hasI at hp hq; dsimp only at *; omega
    have rl : ∀ y, v ≤ y → y ≤ v' → hasI b ⟨u, y⟩ := fun y h1 h2 => by unfold hasI; dsimp only; omega
    -- no two points of the way lie on both sides
    have no : ∀ y y', v ≤ y → y ≤ v' → v ≤ y' → y' ≤ v' → a.y ≤ v' → v ≤ e.y → min a.x e.x ≤ u → u ≤ max a.x e.x → ¬ (crossI a e ⟨u, y⟩ ≤ 0 ∧ 0 ≤ crossI a e ⟨u, y'⟩) := fun y y' h1 h2 h3 h4 h5 h6 h7 h8 g => by
      rw [meets_two (rl y h1 h2) (rl y' h3 h4) g.1 g.2 (sep_no (by omega) (by omega) (by omega) (by omega))] at hm; cases hm
    have lf : ∀ y, a.y ≤ y → y ≤ e.y → a.y < e.y → u < a.x → u < e.x → 0 < crossI a e ⟨u, y⟩ := fun y h1 h2 h3 h4 h5 => left_of (p := ⟨u, y⟩) h1 h2 h3 h4 h5
    have rt : ∀ y, a.y ≤ y → y ≤ e.y → a.x ≤ u → e.x ≤ u → crossI a e ⟨u, y⟩ ≤ 0 := fun y h1 h2 h4 h5 => right_of (p := ⟨u, y⟩) h1 h2 h4 h5
    dsimp only at c1 c2
    have X1 : crossesI ⟨u, v⟩ a e = decide (a.y ≤ v ∧ v < e.y ∧ 0 < crossI a e ⟨u, v⟩) := by rw [Bool.eq_iff_iff, decide_eq_true_eq]; exact c1
    have X2 : crossesI ⟨u, v'⟩ a e = decide (a.y ≤ v' ∧ v' < e.y ∧ 0 < crossI a e ⟨u, v'⟩) := by rw [Bool.eq_iff_iff, decide_eq_true_eq]; exact c2
    rw [X1, X2]
    unfold stripB
    have lr : (u < a.x ∧ u < e.x) ∨ (a.x ≤ u ∧ e.x ≤ u) ∨ (min a.x e.x ≤ u ∧ u ≤ max a.x e.x) := by omega
    refine rise_cases h hv (fun k1 k2 => ?_) (fun k1 k2 k3 => ?_) (fun k1 k2 k3 => ?_) (fun k1 k2 => ?_)
    · rcases lr with ⟨g1, g2⟩ | ⟨g1, g2⟩ | ⟨g1, g2⟩
      · exact ⟨fun _ => lf v' (by omega) (by omega) (by omega) g1 g2, fun _ => lf v (by omega) (by omega) (by omega) g1 g2⟩
      · have r1 := rt v (by omega) (by omega) g1 g2
        have r2 := rt v' (by omega) (by omega) g1 g2
        omega
      · have n1 := no v v' (Int.le_refl _) hv hv (Int.le_refl _) (by omega) (by omega) g1 g2
        have n2 := no v' v hv (Int.le_refl _) (Int.le_refl _) hv (by omega) (by omega) g1 g2
        omega
    · rcases lr with ⟨g1, g2⟩ | ⟨g1, g2⟩ | ⟨g1, g2⟩
      · exact ⟨fun _ => g2, fun _ => lf v (by omega) (by omega) (by omega) g1 g2⟩
      · have r1 := rt v (by omega) (by omega) g1 g2
        omega
      · have n1 := no v e.y (Int.le_refl _) hv (by omega) (by omega) (by omega) (by omega) g1 g2
        have n2 := no e.y v (by omega) (by omega) (Int.le_refl _) hv (by omega) (by omega) g1 g2
        omega
    · rcases lr with ⟨g1, g2⟩ | ⟨g1, g2⟩ | ⟨g1, g2⟩
      · exact ⟨fun _ => g1, fun _ => lf v' (by omega) (by omega) (by omega) g1 g2⟩
      · have r1 := rt v' (by omega) (by omega) g1 g2
        omega
      · have n1 := no v' a.y hv (Int.le_refl _) (by omega) (by omega) (by omega) (by omega) g1 g2
        have n2 := no a.y v' (by omega) (by omega) hv (Int.le_refl _) (by omega) (by omega) g1 g2
        omega
    · rcases lr with ⟨g1, g2⟩ | ⟨g1, g2⟩ | ⟨g1, g2⟩
      · omega
      · omega
      · have n1 := no a.y e.y (by omega) (by omega) (by omega) (by omega) (by omega) (by omega) g1 g2
        have n2 := no e.y a.y (by omega) (by omega) (by omega) (by omega) (by omega) (by omega) g1 g2
        omega
  rcases Int.le_total a.y e.y with h | h
  · exact one h hm
  · rw [← meetsI_swp] at hm
    rw [← crossesI_swp ⟨u, v⟩, ← crossesI_swp ⟨u, v'⟩, one h hm, Bool.xor_comm]
/-! ### contours -/
theorem parN_congr {f g : Nat → Bool} : ∀ {n : Nat}, (∀ k, k < n → f k = g k) → parN f n = parN g n
  | 0, _ => rfl
  | n + 1, h => by simp only [parN]; rw [parN_congr fun k hk => h k (by omega), h n (by omega)]
theorem anyN_congr {f g : Nat → Bool} : ∀ {n : Nat}, (∀ k, k < n → f k = g k) → anyN f n = anyN g n
  | 0, _ => rfl
  | n + 1, h => by simp only [anyN]; rw [anyN_congr fun k hk => h k (by omega), h n (by omega)]
theorem parN_xor (f g : Nat → Bool) : ∀ n, xor (parN f n) (parN g n) = parN (fun k => xor (f k) (g k)) n
  | 0 => rfl
  | n + 1 => by
    simp only [parN, ← parN_xor f g n]
    cases parN f n <;> cases parN g n <;> cases f n <;> cases g n <;> rfl
theorem parN_false : ∀ n, parN (fun _ => false) n = false
  | 0 => rfl
  | n + 1 => by simp only [parN, parN_false n]; rfl
theorem nxt_mid {m k : Nat} (h : k + 1 < m) : nxt m k = k + 1 := by
  unfold nxt
  rw [Int.tmod_eq_of_lt (by omega) (by omega)]; omega
theorem nxt_end (M : Nat) : nxt (M + 1) M = 0 := by
  unfold nxt
  rw [show ((M : Int) + 1) = ((M + 1 : Nat) : Int) by omega, Int.tmod_self]; rfl
theorem nxt_lt {m k : Nat} (h : k < m) : nxt m k < m := by
  rcases (show k + 1 < m ∨ k + 1 = m by omega) with g | g
  · rw [nxt_mid g]; exact g
  · subst g; rw [nxt_end]; omega
theorem par_way (R : Nat → Bool) : ∀ n, parN (fun k => xor (R k) (R (k + 1))) n = xor (R 0) (R n)
  | 0 => by simp [parN]
  | n + 1 => by
    simp only [parN, par_way R n]
    cases R 0 <;> cases R n <;> cases R (n + 1) <;> rfl
/-- around a contour nothing is left -/
theorem par_round (R : Nat → Bool) (m : Nat) : parN (fun k => xor (R k) (R (nxt m k))) m = false := by
  cases m with
  | zero => rfl
  | succ M =>
    simp only [parN]
    rw [parN_congr (g := fun k => xor (R k) (R (k + 1))) fun k hk => by rw [nxt_mid (by omega)], par_way, nxt_end]
    cases R 0 <;> cases R M <;> rfl
structure PRC (l : Ctr) : Prop where
  p : ∀ i, i < l.n → ∀ k, k < l.m i → PR (l.p i k)
def oddI (p : P2) (l : Ctr) : Bool := parN (fun i => parN (edgeC l (crossesI p) i) (l.m i)) l.n
def touchI (b : B4) (l : Ctr) : Bool := anyN (fun i => anyN (edgeC l (meetsI b) i) (l.m i)) l.n
theorem oddF_eq {p : P2} {l : Ctr} (hp : PR p) (hl : PRC l) : oddF p l = oddI p l := parN_congr fun i hi => parN_congr fun k hk => crossesF_eq hp (hl.p i hi k hk) (hl.p i hi _ (nxt_lt hk))
theorem touchF_eq {b : B4} {l : Ctr} (hb : BR b) (hx : b.x0 ≤ b.x1) (hy : b.y0 ≤ b.y1) (hl : PRC l) : touchF b l = touchI b l := anyN_congr fun i hi => anyN_congr fun k hk => meets_eq hb (hl.p i hi k hk) (hl.p i hi _ (nxt_lt hk)) hx hy
theorem touchI_no {b : B4} {l : Ctr} (h : touchI b l = false) : ∀ i, i < l.n → ∀ k, k < l.m i → meetsI b (l.p i k) (l.p i (nxt (l.m i) k)) = false := fun i hi k hk => by
  cases hq : meetsI b (l.p i k) (l.p i (nxt (l.m i) k)) with
  | false => rfl
  | true =>
    have : touchI b l = true := anyN_iff.2 ⟨i, hi, anyN_iff.2 ⟨k, hk, hq⟩⟩
    rw [h] at this; cases this
theorem odd_side {b : B4} {l : Ctr} {p q : P2} (h : touchI b l = false) (hp : hasI b p) (hq : hasI b q) (hy : p.y = q.y) : oddI p l = oddI q l :=
  parN_congr fun i hi => parN_congr fun k hk => cross_side hp hq hy (touchI_no h i hi k hk)
theorem odd_rise {b : B4} {l : Ctr} {u v v' : Int} (h : touchI b l = false) (hv : v ≤ v') (hp : hasI b ⟨u, v⟩) (hq : hasI b ⟨u, v'⟩) : oddI ⟨u, v⟩ l = oddI ⟨u, v'⟩ l := by
  have e : xor (oddI ⟨u, v⟩ l) (oddI ⟨u, v'⟩ l) = false := by
    unfold oddI
    rw [parN_xor, parN_congr (g := fun _ => false) fun i hi => ?_, parN_false]
    rw [parN_xor, parN_congr (f := fun k => xor (edgeC l (crossesI ⟨u, v⟩) i k) (edgeC l (crossesI ⟨u, v'⟩) i k)) (g := fun k => xor (stripB u v v' (l.p i k)) (stripB u v v' (l.p i (nxt (l.m i) k)))) fun k hk => cross_rise hv hp hq (touchI_no h i hi k hk)]
    exact par_round (fun k => stripB u v v' (l.p i k)) (l.m i)
  revert e
  cases oddI ⟨u, v⟩ l <;> cases oddI ⟨u, v'⟩ l <;> simp
/-- A box that no edge meets has one parity. -/
theorem odd_box {b : B4} {l : Ctr} {p q : P2} (h : touchI b l = false) (hp : hasI b p) (hq : hasI b q) : oddI p l = oddI q l := by
  have hm : hasI b ⟨p.x, q.y⟩ := ⟨hp.1, hp.2.1, hq.2.2.1, hq.2.2.2⟩
  have e1 : oddI p l = oddI ⟨p.x, q.y⟩ l := by
    rcases Int.le_total p.y q.y with k | k
    · exact odd_rise (u := p.x) (v := p.y) h k hp hm
    · exact (odd_rise (u := p.x) (v' := p.y) h k hm hp).symm
  rw [e1]
  exact odd_side h hm hq rfl
theorem onI_meets {b : B4} {p a e : P2} (hp : hasI b p) (h : onI p a e = true) : meetsI b a e = true := by
  unfold onI at h
  rw [decide_eq_true_eq] at h
  obtain ⟨h1, h2, h3, h4, h5⟩ := h
  unfold hasI at hp
  exact meets_two (p := p) (q := p) hp hp (by omega) (by omega) (sep_no (by omega) (by omega) (by omega) (by omega))
theorem touch_spot {b : B4} {l : Ctr} {p : P2} (h : touchI b l = false) (hp : hasI b p) : touchI (spotB p) l = false := by
  rw [Bool.eq_false_iff]
  intro hq
  obtain ⟨i, hi, hq⟩ := anyN_iff.1 hq
  obtain ⟨k, hk, hq⟩ := anyN_iff.1 hq
  have := touchI_no h i hi k hk
  unfold edgeC at hq
  rw [spot_meets] at hq
  rw [onI_meets hp hq] at this; cases this
end Go.Proofs.Ythnenjodighlmaa

/-! ## Pou -/
namespace Go.Proofs.Ythnenjodighlmaa
open Go Go.RowKit Sym
set_option maxRecDepth 100000

/-- what a class says of a point -/
theorem polyClass_sure {b : B4} {l : Ctr} {q : P2} (hb : BR b) (hx : b.x0 ≤ b.x1) (hy : b.y0 ≤ b.y1) (hl : PRC l) (hq : hasI b q) :
    (polyClassF b l = 0 ∧ polyHasF q l = false) ∨ polyClassF b l = 1 ∨ (polyClassF b l = 2 ∧ polyHasF q l = true) := by
  have hQ := PR_of_has hb hq
  have hC : hasI b ⟨b.x0, b.y0⟩ := ⟨Int.le_refl _, hx, Int.le_refl _, hy⟩
  unfold polyClassF polyHasF
  rw [touchF_eq hb hx hy hl, touchF_eq (b := spotF q) ⟨hQ.x, hQ.y, hQ.x, hQ.y⟩ (Int.le_refl _) (Int.le_refl _) hl, oddF_eq hQ hl, oddF_eq (PR_of_has hb hC) hl, (boxHas_eq b ⟨b.x0, b.y0⟩).2 hC]
  cases h : touchI b l with
  | true => exact .inr (.inl rfl)
  | false =>
    rw [show touchI (spotF q) l = false from touch_spot h hq, odd_box h hC hq]
    cases oddI q l
    · exact .inl ⟨rfl, rfl⟩
    · exact .inr (.inr ⟨rfl, rfl⟩)
theorem tamP_r (l : Ctr) (sm : Bool) (i k : Nat) : PR (tamP l sm i k) := by
  have h := lPt_r (l.p i k)
  have g := lClose_r (lPt (l.p i k)) (n := 20) (by decide) (by decide)
  unfold tamP
  cases sm
  · exact ⟨⟨by show _ ≤ (lPt (l.p i k)).x; omega, by show (lPt (l.p i k)).x ≤ _; omega⟩, ⟨by show _ ≤ (lPt (l.p i k)).y; omega, by show (lPt (l.p i k)).y ≤ _; omega⟩⟩
  · exact ⟨⟨by show _ ≤ (lClose (lPt (l.p i k)) 20).x; omega, by show (lClose (lPt (l.p i k)) 20).x ≤ _; omega⟩, ⟨by show _ ≤ (lClose (lPt (l.p i k)) 20).y; omega, by show (lClose (lPt (l.p i k)) 20).y ≤ _; omega⟩⟩
theorem tameC_r (l : Ctr) (sm : Bool) : PRC (tameC l sm) := ⟨fun i _ k _ => tamP_r l sm i k⟩
end Go.Proofs.Ythnenjodighlmaa

/-! ## Fis -/
namespace Go.Proofs.Ythnenjodighlmaa
open Go Go.RowKit Sym
set_option maxRecDepth 100000

/-- a class, and whether a point of the box is in it -/
structure Sure (i : Bool) (k : Int) : Prop where
  lo : 0 ≤ k
  hi : k ≤ 2
  i1 : k = 2 → i = true
  i0 : k = 0 → i = false
theorem Sure.of {i : Bool} {k : Int} (h : andB (andB (andB (andB (orB (k != 2) i) (orB (k != 0) (!i))) (decide (k ≥ 0))) (decide (k ≤ 2))) true = true) : Sure i k := by
  simp only [andB_eq, orB_eq, Bool.and_eq_true, Bool.or_eq_true, bne_iff_ne, decide_eq_true_eq, Bool.not_eq_true'] at h
  obtain ⟨⟨⟨⟨h1, h2⟩, h3⟩, h4⟩, _⟩ := h
  exact ⟨h3, h4, fun e => h1.resolve_left fun q => q e, fun e => h2.resolve_left fun q => q e⟩
theorem Sure.fold {i h : Bool} {was cls : Int} (a : Sure h was) (c : Sure i cls) (add : Bool) : Sure (bif i then add else h) (foldF was cls add) := by
  obtain ⟨a1, a2, a3, a4⟩ := a
  obtain ⟨c1, c2, c3, c4⟩ := c
  have w : was = 0 ∨ was = 1 ∨ was = 2 := by omega
  have k : cls = 0 ∨ cls = 1 ∨ cls = 2 := by omega
  rcases w with rfl | rfl | rfl <;> rcases k with rfl | rfl | rfl <;> cases add <;> cases i <;> cases h <;> simp at a3 a4 c3 c4 <;> exact ⟨by decide, by decide, by decide, by decide⟩
/-- from the first part to the last -/
def hasN (g : Nat → Bool) (add : Nat → Bool) (i : Nat) (h : Bool) : Bool := bif g i then add i else h
theorem has_back (g : Nat → Bool) (add : Nat → Bool) (n : Nat) : ∀ t, t ≤ n → (((runN (fun t (_ : Bool) => bif g (n - 1 - t) then (false, add (n - 1 - t)) else (true, false)) false t).1 = true → foldN (hasN g add) false n = foldN (hasN g add) false (n - t) ∧ (runN (fun t (_ : Bool) => bif g (n - 1 - t) then (false, add (n - 1 - t)) else (true, false)) false t).2 = false)
    ∧ ((runN (fun t (_ : Bool) => bif g (n - 1 - t) then (false, add (n - 1 - t)) else (true, false)) false t).1 = false → (runN (fun t (_ : Bool) => bif g (n - 1 - t) then (false, add (n - 1 - t)) else (true, false)) false t).2 = foldN (hasN g add) false n))
  | 0, _ => ⟨fun _ => ⟨rfl, rfl⟩, fun h => (by cases h)⟩
  | t + 1, ht => by
    have ih := has_back g add n t (by omega)
    revert ih
    generalize hr : runN (fun t (_ : Bool) => bif g (n - 1 - t) then (false, add (n - 1 - t)) else (true, false)) false t = r
    intro ih
    obtain ⟨r1, r2⟩ := r
    cases r1
    · rw [runN_stop hr (by omega : t ≤ t + 1)]
      exact ⟨fun h => (by cases h), fun _ => ih.2 rfl⟩
    · rw [runN_go hr]
      have e := (ih.1 rfl).1
      have em : n - t = (n - 1 - t) + 1 := by omega
      have e2 : foldN (hasN g add) false (n - t) = bif g (n - 1 - t) then add (n - 1 - t) else foldN (hasN g add) false (n - 1 - t) := by rw [em]; rfl
      cases q : g (n - 1 - t)
      · refine ⟨fun _ => ⟨?_, rfl⟩, fun h => (by cases h)⟩
        rw [e, e2, q, show n - (t + 1) = n - 1 - t by omega]; rfl
      · refine ⟨fun h => (by cases h), fun _ => ?_⟩
        rw [e, e2, q]; rfl
theorem has_fold (g : Nat → Bool) (add : Nat → Bool) (n : Nat) : (runN (fun t (_ : Bool) => bif g (n - 1 - t) then (false, add (n - 1 - t)) else (true, false)) false n).2 = foldN (hasN g add) false n := by
  have h := has_back g add n n (Nat.le_refl n)
  revert h
  generalize runN (fun t (_ : Bool) => bif g (n - 1 - t) then (false, add (n - 1 - t)) else (true, false)) false n = r
  intro h
  obtain ⟨r1, r2⟩ := r
  cases r1
  · exact h.2 rfl
  · have q := h.1 rfl
    rw [q.1, Nat.sub_self]; exact q.2
theorem wid_bd {r : Int} (h : widF r = true) : 1 ≤ r ∧ r ≤ 536870912 := by
  unfold widF at h
  rw [andB_eq, Bool.and_eq_true, decide_eq_true_eq, decide_eq_true_eq] at h
  omega
theorem tmX_le (sm : Bool) : tmX sm ≤ 536870912 := by cases sm <;> decide
theorem PB_PR {sm : Bool} {p : P2} (h : PB (tmX sm) p) : PR p := near_PR (PB_near (tmX_le sm) h)
end Go.Proofs.Ythnenjodighlmaa

/-! ## Pid -/
namespace Go.Proofs.Ythnenjodighlmaa
open Go Go.RowKit Sym
set_option maxRecDepth 100000

theorem fold_top (g add : Nat → Bool) (n : Nat) : ∀ k, k ≤ n → (∀ j, j < k → g (n - 1 - j) = false) → foldN (hasN g add) false n = foldN (hasN g add) false (n - k)
  | 0, _, _ => rfl
  | k + 1, hk, h => by
    rw [fold_top g add n k (by omega) fun j hj => h j (by omega)]
    have e : n - k = (n - (k + 1)) + 1 := by omega
    rw [e]
    show hasN g add (n - (k + 1)) _ = _
    unfold hasN
    rw [show n - (k + 1) = n - 1 - k by omega, h k (by omega)]; rfl
theorem PilRes.eq {n : Nat} {g add : Nat → Bool} {r : Bool} (h : PilRes n g add r) : r = foldN (hasN g add) false n := by
  rcases h with ⟨rfl, h⟩ | ⟨k, hk, rfl, h1, h2⟩
  · rw [fold_top g add n n (Nat.le_refl _) fun j hj => h _ (by omega), Nat.sub_self]; rfl
  · rw [fold_top g add n k (by omega) h2, show n - k = (n - 1 - k) + 1 by omega]
    show _ = hasN g add (n - 1 - k) _
    unfold hasN
    rw [h1]; rfl
end Go.Proofs.Ythnenjodighlmaa

/-! ## Ctt -/
namespace Go.Proofs.Ythnenjodighlmaa
open Go Go.RowKit Sym

inductive Pln where
  | lf
  | it (p q : Pln)
  | tt (p : Pln)
  | ff (p : Pln)
end Go.Proofs.Ythnenjodighlmaa

/-! ## Fip -/
namespace Go.Proofs.Ythnenjodighlmaa
open Go Go.RowKit Sym
set_option maxRecDepth 100000

/-- mirrored, then turned by k quarters -/
def rt (m : Bool) (k : Int) (p : P2) : P2 :=
  ⟨bif k == 1 then -p.y else bif k == 2 then -(bif m then -p.x else p.x) else bif k == 3 then p.y else (bif m then -p.x else p.x),
   bif k == 1 then (bif m then -p.x else p.x) else bif k == 2 then -p.y else bif k == 3 then -(bif m then -p.x else p.x) else p.y⟩
theorem P2.ext' {p q : P2} (h : p.x = q.x) (k : p.y = q.y) : p = q := by cases p; cases q; cases h; cases k; rfl
end Go.Proofs.Ythnenjodighlmaa

/-! ## Fiq -/
namespace Go.Proofs.Ythnenjodighlmaa
open Go Go.RowKit Sym
set_option maxRecDepth 100000

/-! ### the same -/
/-! ### moved -/
theorem fine_B {P : P2 → Prop} : ∀ (s : Shp) (d : Int), Fine P s d → 0 ≤ d → ShB s := by
  intro s
  induction s with
  | nil => intro d h; exact h.elim
  | mk k a b' c r l n add sub ih =>
    intro d h h0
    have z : ∀ i, i < 0 → ShB (sub i) := fun i hi => absurd hi (Nat.not_lt_zero i)
    rcases h with ⟨rfl, rfl, rfl, rfl, rfl, ha, hr⟩ | ⟨rfl, rfl, rfl, rfl, ha, hb, hr⟩ | ⟨rfl, rfl, rfl, rfl, ha, hb, hr, hn⟩ | ⟨rfl, rfl, rfl, ha, hb, hc, hr, ho⟩ | ⟨rfl, rfl, rfl, rfl, rfl, rfl, hc⟩ | ⟨rfl, rfl, rfl, rfl, rfl, rfl, h5, hm, hs⟩
    · exact ⟨CtrB_ze, by decide, z⟩
    · exact ⟨CtrB_ze, by decide, z⟩
    · exact ⟨CtrB_ze, by decide, z⟩
    · exact ⟨CtrB_ze, by decide, z⟩
    · exact ⟨⟨by have := hc.1; omega, fun i hi => by have := (hc.2 i hi).1; omega⟩, by decide, z⟩
    · exact ⟨CtrB_ze, by omega, fun i hi => ih i (d + 1) (hs i hi) (by omega)⟩
end Go.Proofs.Ythnenjodighlmaa

/-! ## Fit -/
namespace Go.Proofs.Ythnenjodighlmaa
open Go Go.RowKit Sym
set_option maxRecDepth 100000

end Go.Proofs.Ythnenjodighlmaa

/-! ## Dla -/
namespace Go.Proofs.Ythnenjodighlmaa
open Go Go.RowKit Sym
set_option maxRecDepth 100000

inductive DLe : Dyn.DC → Dyn.DC → Prop where
  | refl (c : Dyn.DC) : DLe c c
  | row (n : Nat) (f g : Nat → List Dyn.DC) : (∀ i, i < n → (f i).length = (g i).length) → (∀ i j, i < n → j < (f i).length → DLe ((f i).getD j default) ((g i).getD j default)) → DLe (.row n f) (.row n g)
theorem DLe.den {w : World} {F : Nat → Prop} {c d : Dyn.DC} (h : DLe c d) : ∀ {u : Value}, Dyn.DenC w F c u → Dyn.DenC w F d u := by
  induction h with
  | refl c => exact fun h => h
  | row n f g hl _ ih =>
    intro u k
    cases k with
    | nil _ oa cap => exact .nil g oa cap
    | row _ _ b off cap size V hk hF hc hd =>
      refine .row n g b off cap size V hk hF (fun i hi => ⟨(hl i hi) ▸ (hc i hi).1, (hc i hi).2⟩) (fun i j hi hj => ih i j hi ?_ (hd i j hi hj))
      rw [(hc i hi).1]; exact hj
def DLL : List Dyn.DC → List Dyn.DC → Prop
  | [], [] => True
  | c :: cs, d :: ds => DLe c d ∧ DLL cs ds
  | _, _ => False
theorem DLL.refl : ∀ cs, DLL cs cs
  | [] => trivial
  | c :: cs => ⟨.refl c, DLL.refl cs⟩
theorem DLL.den {w : World} {F : Nat → Prop} : ∀ {cs ds : List Dyn.DC} {us : List Value}, DLL cs ds → Dyn.DenL w F cs us → Dyn.DenL w F ds us
  | [], [], [], _, h => h
  | [], [], _ :: _, _, h => h
  | [], _ :: _, _, h, _ => h.elim
  | _ :: _, [], _, h, _ => h.elim
  | c :: cs, d :: ds, [], _, k => k.elim
  | c :: cs, d :: ds, u :: us, h, k => ⟨h.1.den k.1, DLL.den h.2 k.2⟩
theorem DLL.get : ∀ {cs ds : List Dyn.DC}, DLL cs ds → cs.length = ds.length ∧ ∀ j, DLe (cs.getD j default) (ds.getD j default)
  | [], [], _ => ⟨rfl, fun j => .refl _⟩
  | [], _ :: _, h => h.elim
  | _ :: _, [], h => h.elim
  | c :: cs, d :: ds, h => by
    have k := DLL.get h.2
    exact ⟨congrArg Nat.succ k.1, fun j => match j with
      | 0 => h.1
      | j + 1 => k.2 j⟩
theorem DLe.rowL {n : Nat} {f g : Nat → List Dyn.DC} (h : ∀ i, i < n → DLL (f i) (g i)) : DLe (.row n f) (.row n g) := .row n f g (fun i hi => (h i hi).get.1) (fun i j hi _ => (h i hi).get.2 j)
def DVd : Dyn.DV → Dyn.DV → Prop
  | .one c, .one d => DLe c d
  | .agg cs, .agg ds => DLL cs ds
  | _, _ => False
theorem DVd.refl : ∀ v, DVd v v
  | .one c => DLe.refl c
  | .agg cs => DLL.refl cs
theorem DVd.den {w : World} {F : Nat → Prop} : ∀ {c d : Dyn.DV} {u : Value}, DVd c d → Dyn.DenV w F c u → Dyn.DenV w F d u
  | .one _, .one _, _, h, k => DLe.den h k
  | .agg _, .agg _, _, h, ⟨us, e, k⟩ => ⟨us, e, DLL.den h k⟩
  | .one _, .agg _, _, h, _ => h.elim
  | .agg _, .one _, _, h, _ => h.elim
/-- a contract, told of a first argument that shows the same -/
theorem CallD_d1 {P : Program} {K : Nat} {v v' : Dyn.DV} {l : List Dyn.DV} {r : Dyn.RV} (h : DVd v v') (k : Dyn.CallD P K (v' :: l) r) : Dyn.CallD P K (v :: l) r := fun w F us hF hd => k w F us hF (by
  cases us with
  | nil => exact hd
  | cons u us => exact ⟨DVd.den h hd.1, hd.2⟩)
end Go.Proofs.Ythnenjodighlmaa

/-! ## Dle -/
namespace Go.Proofs.Ythnenjodighlmaa
open Go Go.RowKit Sym
set_option maxRecDepth 100000

end Go.Proofs.Ythnenjodighlmaa

/-! ## Awt -/
namespace Go.Proofs.Ythnenjodighlmaa
open Go Go.RowKit Sym
set_option maxRecDepth 100000

end Go.Proofs.Ythnenjodighlmaa

/-! ## Cnt -/
namespace Go.Proofs.Ythnenjodighlmaa
open Go Go.RowKit Sym
set_option maxRecDepth 100000

end Go.Proofs.Ythnenjodighlmaa

/-! ## Pie -/
namespace Go.Proofs.Ythnenjodighlmaa
open Go Go.RowKit Sym
set_option maxRecDepth 100000

/-! ### a disc around (0, 0), as it is written -/
def dC (r : Int) : List Dyn.DC := [cI 1, cI 0, cI 0, cI 0, cI 0, cI 0, cI 0, cI r, .row 0 noF, .row 0 noF]
def discS (r : Int) : Shp := leafS 1 ze ze ze r zeC
theorem dC_le (r : Int) : DLL (dC r) (cS (toSh (discS r))) := ⟨.refl _, .refl _, .refl _, .refl _, .refl _, .refl _, .refl _, .refl _, DLe.rowL fun i hi => absurd hi (Nat.not_lt_zero i), DLe.rowL fun i hi => absurd hi (Nat.not_lt_zero i), trivial⟩
/-! ### the lists of the document -/
def fL2 : Nat → List Dyn.DC := Dyn.pickL 0 [cB true :: dC 9, cB false :: dC 2]
def E1 : Prop := (1 : Int) = 1 ∧ (0 : Int) = 0 ∧ (0 : Int) = 0 ∧ (0 : Int) = 0 ∧ (0 : Int) = 0 ∧ (0 : Int) = 0 ∧ (0 : Int) = 0 ∧ 0 = 0 ∧ 0 = 0
def L2 : Shp := lForm 2 (fun i => Nat.beq i 0) (fun i => discS (bif Nat.beq i 0 then 9 else 2))
def L0 : Shp := lForm 0 (fun _ => false) (fun _ => .nil)
def LN (n : Nat) : Shp := bif Nat.beq n 0 then L0 else L2
theorem L2_e0 : fL2 0 = cB true :: dC 9 := by kernel_rfl
theorem L2_e1 : fL2 1 = cB false :: dC 2 := by kernel_rfl
theorem L2_le : DVd (.one (.row 2 fL2)) (dvL (toSh L2)) := DLe.rowL fun i hi => by
  have : i = 0 ∨ i = 1 := by omega
  rcases this with rfl | rfl
  · rw [L2_e0]; exact ⟨.refl _, dC_le 9⟩
  · rw [L2_e1]; exact ⟨.refl _, dC_le 2⟩
def RkL (n : Nat) (f : Nat → List Dyn.DC) : Prop := n = 0 ∨ (n = 2 ∧ DLe (.row n f) (.row 2 fL2))
theorem RkL.call {P : Program} {K n : Nat} {f : Nat → List Dyn.DC} {l : List Dyn.DV} {r : Dyn.RV} (h : RkL n f) (k : Dyn.CallD P K (dvL (toSh (LN n)) :: l) r) : Dyn.CallD P K (.one (.row n f) :: l) r := by
  rcases h with rfl | ⟨rfl, h⟩
  · exact CallD_d1 (v' := dvL (toSh L0)) (DLe.rowL fun i hi => absurd hi (Nat.not_lt_zero i)) k
  · exact CallD_d1 (show DVd (.one (.row 2 f)) (.one (.row 2 fL2)) from h) (CallD_d1 L2_le k)
end Go.Proofs.Ythnenjodighlmaa

/-! ## Pif -/
namespace Go.Proofs.Ythnenjodighlmaa
open Go Go.RowKit Sym
set_option maxRecDepth 100000

theorem small21_all (x : Sh) (h : PdW x) : Dyn.CallD Try.prog 17 [dvL x] (rB (small21 (ofSh x))) := CallD_le (args := [dvL (toSh (ofSh x))]) ⟨SLe.dvL h.2, trivial⟩ (small21_ok _ h.1)
theorem tame21_all (x : Sh) (h : PdS x) (sm : Bool) : Dyn.CallD Try.prog 19 [dvL x, dvB sm] (.val (dvL (toSh (tame21 (ofSh x) sm)))) := CallD_le (args := [dvL (toSh (ofSh x)), dvB sm]) ⟨SLe.dvL h.2, Dyn.DVLe.refl _, trivial⟩ (tame21_ok _ h.1 sm)
theorem pClass_all (x : Sh) (h : PdS x) (b : B4) : Dyn.CallD Try.prog 22 [dvL x, dvX b] (rI (pClass (ofSh x) b)) := CallD_le (args := [dvL (toSh (ofSh x)), dvX b]) ⟨SLe.dvL h.2, Dyn.DVLe.refl _, trivial⟩ (pClass_ok _ h.1 b)
/-- what of it is tame -/
theorem lf_B {n : Nat} {add : Nat → Bool} {sub : Nat → Shp} (h : small21 (lForm n add sub) = true) : ShB (lForm n add sub) := by
  unfold small21 at h
  by_cases hn : ((n : Nat) : Int) > 20
  · rw [show decide ((nuO (lForm n add sub) : Int) > 20) = true from decide_eq_true hn] at h; cases h
  · rw [show decide ((nuO (lForm n add sub) : Int) > 20) = false from decide_eq_false hn] at h
    refine ⟨⟨by decide, fun i hi => absurd hi (Nat.not_lt_zero i)⟩, by omega, fun i hi => ?_⟩
    obtain ⟨u, _, k2⟩ := runN_all h i hi
    exact small_B _ 0 k2
theorem tame21_B (s : Shp) (h : ShB s) (sm : Bool) : ShB (tame21 s sm) := by
  cases s with
  | nil => exact h.elim
  | mk k a b c r l n add sub =>
    refine ⟨⟨by decide, fun i hi => absurd hi (Nat.not_lt_zero i)⟩, by show min n 12 ≤ _; omega, fun i hi => ?_⟩
    have hi' : i < min n 12 := hi
    exact fine_B _ 2 (tame_fine sm (sub i) 2 (h.2.2 i (by omega)) (by decide) (by decide)) (by decide)
theorem tame2_ok (sm : Bool) (s : Shp) (h : ShB s) : okE (toSh (tameS s sm 2)) = true := by
  unfold okE
  rw [vE_eq]
  exact (fine_valid (fun p hp => PB_near (tmX_le sm) hp) _ 2 0 1000 (tame_fine sm s 2 h (by decide) (by decide)) (by decide) (by decide) (by decide) (by decide) (by decide)).1
end Go.Proofs.Ythnenjodighlmaa

/-! ## Rgd -/
namespace Go.Proofs.Ythnenjodighlmaa
open Go Go.RowKit Sym
set_option maxRecDepth 100000

def mtL (most a : Int) : Dyn.Lent := [(97, [vi most, vi a])]
def mtO (most a : Int) : List (List Value) := [[vi most, vi a]]
def exV (lo hi e : Int) : Value := .tuple ⟨[.agg ⟨[vi lo, vi hi]⟩, vi e]⟩
theorem denP {w : World} {F : Nat → Prop} {x u : Value} (h : Dyn.DenC w F (.p x) u) : u = x := by cases h; rfl
theorem used_d (m a : Int) : Dyn.CallD Try.prog 28 [.one (.ptr [cI m, cI a])] (rI (imin a m)) := fun w F us hF hd => by
  match us, hd with
  | [u], hd =>
    have hd := hd.1
    cases hd with
    | ptr cs b off g hFb hc hg =>
      have g0 : g 0 = vi m := denP (hg 0 (show 0 < 2 by decide))
      have g1 : g 1 = vi a := denP (hg 1 (show 1 < 2 by decide))
      have c0 := hc 0 (show 0 < 2 by decide)
      have c1 := hc 1 (show 1 < 2 by decide)
      rw [g0] at c0; rw [g1] at c1
      rw [show [Value.pointer (some ⟨b, off, none⟩)].toArray = #[.pointer (some ⟨b, off, none⟩)] from rfl, run_enter Try.func28 (by kernel_rfl) (by kernel_rfl)]
      refine ⟨rfl, (used_walk b off m a w c0 c1).mono ?_⟩
      rintro e w'' ⟨rfl, rfl⟩
      exact ⟨_, rfl, .p _ rfl, rfl, rfl, rfl, Nat.le_refl _, fun _ _ => rfl⟩
def enUsed : List Dyn.DV → Option (Dyn.RV × List Prop)
  | [.one (.ptr [.p (.int .i64 m), .p (.int .i64 a)])] => some (rI (imin a m), [])
  | _ => none
theorem enUsed_ok : Dyn.EntryDOk Try.prog (28, enUsed) := fun args r ps h hp => by
  dsimp only at h
  unfold enUsed at h
  split at h
  · simp only [Option.some.injEq, Prod.mk.injEq] at h
    obtain ⟨rfl, rfl⟩ := h
    exact used_d _ _
  · cases h
def enTake : List Dyn.LA → Dyn.Lent → Option (Value × List (List Value) × List Prop)
  | [.lp 0 0], [(t, [.int .i64 most, .int .i64 a])] => match Nat.beq t 97 with
    | true => some (vb (decide (W (a + 1) ≤ most)), mtO most (W (a + 1)), [])
    | false => none
  | _, _ => none
theorem enTake_ok : Dyn.EntryXOk Try.prog (27, enTake) := fun az lent u out ps h hp => by
  dsimp only at h
  unfold enTake at h
  split at h
  · rename_i t most a
    split at h
    · rename_i ht
      have e1 := Nat.eq_of_beq_eq_true ht
      subst e1
      simp only [Option.some.injEq, Prod.mk.injEq] at h
      obtain ⟨rfl, rfl, rfl⟩ := h
      exact take_x most a
    · cases h
  · cases h
theorem CallX_le2 {P : Program} {K : Nat} {u u' v v' : Dyn.DV} {l : List Dyn.LA} {lent : Dyn.Lent} {r : Value} {o : List (List Value)} (h1 : Dyn.DVLe u u') (h2 : Dyn.DVLe v v') (k : Dyn.CallX P K (.d u' :: .d v' :: l) lent r o) : Dyn.CallX P K (.d u :: .d v :: l) lent r o := fun w F bs us hF hn hd hl hden => k w F bs us hF hn hd hl (by
  cases us with
  | nil => exact hden
  | cons x us =>
    cases us with
    | nil => exact ⟨Dyn.DenV_le h1 hden.1, hden.2⟩
    | cons y us => exact ⟨Dyn.DenV_le h1 hden.1, Dyn.DenV_le h2 hden.2.1, hden.2.2⟩)
abbrev ExF := Gr → B4 → Int → Int → ExR
def enExam (k : Int) (F : ExF) : List Dyn.LA → Dyn.Lent → Option (Value × List (List Value) × List Prop)
  | [.d g, .d u, .d (.one (.p (.int .i64 d))), .lp 0 0], [(t, [.int .i64 most, .int .i64 a])] => match qG g, aX u, decide (d = k), Nat.beq t 97 with
    | some (x, _), some b, true, true => some (exV (F x b most a).lo (F x b most a).hi (F x b most a).e, mtO most (F x b most a).a, [PdG x])
    | _, _, _, _ => none
  | _, _ => none
def ExamOk (k : Int) (F : ExF) : Prop := ∀ x, PdG x → ∀ b most a, Dyn.CallX Try.prog 54 [.d (dvG x), .d (dvX b), .d (dvI k), .lp 0 0] (mtL most a) (exV (F x b most a).lo (F x b most a).hi (F x b most a).e) (mtO most (F x b most a).a)
theorem enExam_ok {k : Int} {F : ExF} (ih : ExamOk k F) : Dyn.EntryXOk Try.prog (54, enExam k F) := fun az lent u out ps h hp => by
  dsimp only at h
  unfold enExam at h
  split at h
  · rename_i g u' d t most a
    split at h
    · rename_i x ps' b hg hb hd ht
      have e1 := Nat.eq_of_beq_eq_true ht
      subst e1
      have e2 := of_decide_eq_true hd
      subst e2
      simp only [Option.some.injEq, Prod.mk.injEq] at h
      obtain ⟨rfl, rfl, rfl⟩ := h
      have q := qG_ok _ _ _ hg (by
        unfold qG at hg; split at hg
        · simp only [Option.some.injEq, Prod.mk.injEq] at hg
          rw [← hg.2]; trivial
        · cases hg)
      exact CallX_le2 q.1 (aX_eq hb) (ih x hp.1 b most a)
    · cases h
  · cases h
noncomputable def tdEx : List Dyn.EntryD := [(22, en2D (qAnd qL PdS) qX fun x b => rI (pClass (ofSh x) b)), (53, en2D (qAnd qG PdG) qX fun x b => .val (dvG (nearE x b)))]
def drEx (K : Nat) : Bool := Nat.beq K 53 || Nat.beq K 54 || Nat.beq K 27
noncomputable def tabEx (k : Int) (F : ExF) : Dyn.Tabs := Dyn.tabsX tbF tdEx [(27, enTake), (54, enExam k F)] drEx dtyG false
theorem tabEx_ok {k : Int} {F : ExF} (ih : ExamOk k F) : Dyn.TabsOk Try.prog (tabEx k F) :=
  Dyn.tabsX_ok tbF_ok (List.forall_mem_cons.2 ⟨en2D_ok (qAnd_ok qL_ok) qX_ok fun x b h _ => pClass_all x h.1 b, List.forall_mem_cons.2 ⟨en2D_ok (qAnd_ok qG_ok) qX_ok fun x b h _ => gnear_all x h.1 b, fun _ h => by cases h⟩⟩) (List.forall_mem_cons.2 ⟨enTake_ok, List.forall_mem_cons.2 ⟨enExam_ok ih, fun _ h => by cases h⟩⟩)
noncomputable def clsE (x : Gr) (b : B4) : Int := pClass (ofSh (obX x.n x.f)) b
noncomputable def exC (F : ExF) (x : Gr) (b : B4) (most : Int) (i : Nat) (a : Int) : ExR := F (nearE x (spB b i)) (spB b i) most a
noncomputable def exS (x : Gr) (b : B4) (i : Nat) : List Prop := [PdG x, PdG (nearE x (spB b i))]
noncomputable def exQO (F : ExF) (x : Gr) (b : B4) (most a : Int) : Dyn.RX :=
  let r0 := exC F x b most 0 a
  let r1 := exC F x b most 1 r0.a
  let r2 := exC F x b most 2 r1.a
  let r3 := exC F x b most 3 r2.a
  .side (exS x b 0) (.ite (r0.e != 0) (.leaf (exV 0 0 r0.e) (mtO most r0.a))
  (.side (exS x b 1) (.ite (r1.e != 0) (.leaf (exV 0 0 r1.e) (mtO most r1.a))
  (.side (exS x b 2) (.ite (r2.e != 0) (.leaf (exV 0 0 r2.e) (mtO most r2.a))
  (.side (exS x b 3) (.ite (r3.e != 0) (.leaf (exV 0 0 r3.e) (mtO most r3.a))
    (.leaf (exV (W (W (W (W (0 + r0.lo) + r1.lo) + r2.lo) + r3.lo)) (W (W (W (W (0 + r0.hi) + r1.hi) + r2.hi) + r3.hi)) 0) (mtO most r3.a)))))))))
noncomputable def exO (d : Nat) (Q : Dyn.RX) (x : Gr) (b : B4) (most a : Int) : Dyn.RX :=
  .ite (!(decide (W (a + 1) ≤ most))) (.leaf (exV 0 0 6) (mtO most (W (a + 1))))
  (.side [PdS (obX x.n x.f)] (.ite (clsE x b == 0) (.leaf (exV 0 0 0) (mtO most (W (a + 1))))
  (.ite (clsE x b == 2) (.side [(0 : Int) ≤ W (2 * (d : Int))] (.leaf (exV (cellsN d) (cellsN d) 0) (mtO most (W (a + 1)))))
  (.ite ((d : Int) == 0) (.leaf (exV 0 1 0) (mtO most (W (a + 1)))) Q))))
noncomputable def tabE0 : Dyn.Tabs := Dyn.tabsX tbF tdEx [(27, enTake)] drEx dtyG false
theorem tabE0_ok : Dyn.TabsOk Try.prog tabE0 :=
  Dyn.tabsX_ok tbF_ok (List.forall_mem_cons.2 ⟨en2D_ok (qAnd_ok qL_ok) qX_ok fun x b h _ => pClass_all x h.1 b, List.forall_mem_cons.2 ⟨en2D_ok (qAnd_ok qG_ok) qX_ok fun x b h _ => gnear_all x h.1 b, fun _ h => by cases h⟩⟩) (List.forall_mem_cons.2 ⟨enTake_ok, fun _ h => by cases h⟩)
theorem ex_O0 (x : Gr) (b : B4) (most a : Int) : (Dyn.dfunX Try.prog tabE0 Dyn.noLp 8 Try.f54 (mtL most a) [.d (dvG x), .d (dvX b), .d (dvI 0), .lp 0 0]).rx Try.prog (mtL most a) Try.f54.results = exO 0 .fail x b most a := by kernel_rfl
theorem ex_O1 (F : ExF) (x : Gr) (b : B4) (most a : Int) : (Dyn.dfunX Try.prog (tabEx 0 F) Dyn.noLp 8 Try.f54 (mtL most a) [.d (dvG x), .d (dvX b), .d (dvI 1), .lp 0 0]).rx Try.prog (mtL most a) Try.f54.results = exO 1 (exQO F x b most (W (a + 1))) x b most a := by kernel_rfl
theorem ex_O2 (F : ExF) (x : Gr) (b : B4) (most a : Int) : (Dyn.dfunX Try.prog (tabEx 1 F) Dyn.noLp 8 Try.f54 (mtL most a) [.d (dvG x), .d (dvX b), .d (dvI 2), .lp 0 0]).rx Try.prog (mtL most a) Try.f54.results = exO 2 (exQO F x b most (W (a + 1))) x b most a := by kernel_rfl
theorem ex_O3 (F : ExF) (x : Gr) (b : B4) (most a : Int) : (Dyn.dfunX Try.prog (tabEx 2 F) Dyn.noLp 8 Try.f54 (mtL most a) [.d (dvG x), .d (dvX b), .d (dvI 3), .lp 0 0]).rx Try.prog (mtL most a) Try.f54.results = exO 3 (exQO F x b most (W (a + 1))) x b most a := by kernel_rfl
theorem ex_O4 (F : ExF) (x : Gr) (b : B4) (most a : Int) : (Dyn.dfunX Try.prog (tabEx 3 F) Dyn.noLp 8 Try.f54 (mtL most a) [.d (dvG x), .d (dvX b), .d (dvI 4), .lp 0 0]).rx Try.prog (mtL most a) Try.f54.results = exO 4 (exQO F x b most (W (a + 1))) x b most a := by kernel_rfl
theorem ex_O5 (F : ExF) (x : Gr) (b : B4) (most a : Int) : (Dyn.dfunX Try.prog (tabEx 4 F) Dyn.noLp 8 Try.f54 (mtL most a) [.d (dvG x), .d (dvX b), .d (dvI 5), .lp 0 0]).rx Try.prog (mtL most a) Try.f54.results = exO 5 (exQO F x b most (W (a + 1))) x b most a := by kernel_rfl
theorem ex_O6 (F : ExF) (x : Gr) (b : B4) (most a : Int) : (Dyn.dfunX Try.prog (tabEx 5 F) Dyn.noLp 8 Try.f54 (mtL most a) [.d (dvG x), .d (dvX b), .d (dvI 6), .lp 0 0]).rx Try.prog (mtL most a) Try.f54.results = exO 6 (exQO F x b most (W (a + 1))) x b most a := by kernel_rfl
noncomputable def exE (d : Nat) : ExF := fun x b most a => exF most d (ofG x) b a
theorem exE_z (x : Gr) (b : B4) (most a : Int) : exE 0 x b most a = exT most (clsE x b) (cellsN 0) (fun a => ⟨0, 1, 0, a⟩) a := by
  unfold exE clsE exF
  rw [← pClass_C]; rfl
theorem exF_lst (most : Int) (d : Nat) (s : Shp) : exF most d (lst s) = exF most d s := by cases d <;> rfl
theorem exE_s (d : Nat) (x : Gr) (b : B4) (most a : Int) : exE (d + 1) x b most a = exT most (clsE x b) (cellsN (d + 1)) (exQ (fun q a => exE d (nearE x q) q most a) b) a := by
  unfold exE clsE nearE
  simp only [ofG_toG, exF_lst]
  rw [show pClass (ofSh (obX x.n x.f)) b = pClassC (ofSh (obX x.n x.f)) b from pClass_C _ _]
  rfl
theorem exT_sat {d : Nat} {x : Gr} {b : B4} {most a : Int} {Q : Dyn.RX} {m : Int → ExR} (hx : PdG x) (h : (d : Int) = 0 → m (W (a + 1)) = ⟨0, 1, 0, W (a + 1)⟩) (hQ : (d : Int) ≠ 0 → Q.sat fun u os => u = exV (m (W (a + 1))).lo (m (W (a + 1))).hi (m (W (a + 1))).e ∧ os = mtO most (m (W (a + 1))).a) (hd : d ≤ 7) :
    (exO d Q x b most a).sat fun u os => u = exV (exT most (clsE x b) (cellsN d) m a).lo (exT most (clsE x b) (cellsN d) m a).hi (exT most (clsE x b) (cellsN d) m a).e ∧ os = mtO most (exT most (clsE x b) (cellsN d) m a).a := by
  unfold exT
  refine ⟨fun h1 => ?_, fun h1 => ⟨⟨hx.1, trivial⟩, fun h2 => ?_, fun h2 => ⟨fun h3 => ⟨⟨?_, trivial⟩, ?_⟩, fun h3 => ⟨fun h4 => ?_, fun h4 => ?_⟩⟩⟩⟩
  · rw [h1]; exact ⟨rfl, rfl⟩
  · rw [h1, h2]; exact ⟨rfl, rfl⟩
  · rw [W_id (by omega) (by omega)]; omega
  · rw [h1, h2, h3]; exact ⟨rfl, rfl⟩
  · rw [h1, h2, h3]
    have := h (by simpa using h4)
    simp only [cond_false]
    rw [this]; exact ⟨rfl, rfl⟩
  · rw [h1, h2, h3]
    exact hQ (by simpa using h4)
theorem exQ_sat (F : ExF) {x : Gr} (hx : PdG x) (b : B4) (most a : Int) : (exQO F x b most a).sat fun u os => u = exV (exQ (fun q a => F (nearE x q) q most a) b a).lo (exQ (fun q a => F (nearE x q) q most a) b a).hi (exQ (fun q a => F (nearE x q) q most a) b a).e ∧ os = mtO most (exQ (fun q a => F (nearE x q) q most a) b a).a := by
  have pd : ∀ i, Sym.allP (exS x b i) := fun i => ⟨hx, nearE_Pd hx _, trivial⟩
  unfold exQ
  refine ⟨pd 0, fun h0 => ?_, fun h0 => ⟨pd 1, fun h1 => ?_, fun h1 => ⟨pd 2, fun h2 => ?_, fun h2 => ⟨pd 3, fun h3 => ?_, fun h3 => ?_⟩⟩⟩⟩
  all_goals unfold exC at *
  · rw [h0]; exact ⟨rfl, rfl⟩
  · rw [h0, h1]; exact ⟨rfl, rfl⟩
  · rw [h0, h1, h2]; exact ⟨rfl, rfl⟩
  · rw [h0, h1, h2, h3]; exact ⟨rfl, rfl⟩
  · rw [h0, h1, h2, h3]; exact ⟨rfl, rfl⟩
theorem exam0 : ExamOk 0 (exE 0) := fun x hx b most a => by
  rw [exE_z]
  exact Dyn.xcontract (lp := Dyn.noLp) (fuel := 8) tabE0_ok mo Try.func54 (by kernel_rfl) (c := bodyD Try.f54.body) (by kernel_rfl) (fun w0 => Dyn.noLp_ok _ w0) (by kernel_rfl) (by kernel_rfl) (by kernel_rfl) (ex_O0 x b most a) (exT_sat (d := 0) hx (fun _ => rfl) (fun h => absurd rfl h) (by decide))
theorem exam1 : ExamOk 1 (exE 1) := fun x hx b most a => by
  rw [exE_s]
  exact Dyn.xcontract (lp := Dyn.noLp) (fuel := 8) (tabEx_ok exam0) mo Try.func54 (by kernel_rfl) (c := bodyD Try.f54.body) (by kernel_rfl) (fun w0 => Dyn.noLp_ok _ w0) (by kernel_rfl) (by kernel_rfl) (by kernel_rfl) (ex_O1 (exE 0) x b most a) (exT_sat (d := 1) hx (fun h => absurd h (by decide)) (fun _ => exQ_sat (exE 0) hx b most _) (by decide))
theorem exam2 : ExamOk 2 (exE 2) := fun x hx b most a => by
  rw [exE_s]
  exact Dyn.xcontract (lp := Dyn.noLp) (fuel := 8) (tabEx_ok exam1) mo Try.func54 (by kernel_rfl) (c := bodyD Try.f54.body) (by kernel_rfl) (fun w0 => Dyn.noLp_ok _ w0) (by kernel_rfl) (by kernel_rfl) (by kernel_rfl) (ex_O2 (exE 1) x b most a) (exT_sat (d := 2) hx (fun h => absurd h (by decide)) (fun _ => exQ_sat (exE 1) hx b most _) (by decide))
theorem exam3 : ExamOk 3 (exE 3) := fun x hx b most a => by
  rw [exE_s]
  exact Dyn.xcontract (lp := Dyn.noLp) (fuel := 8) (tabEx_ok exam2) mo Try.func54 (by kernel_rfl) (c := bodyD Try.f54.body) (by kernel_rfl) (fun w0 => Dyn.noLp_ok _ w0) (by kernel_rfl) (by kernel_rfl) (by kernel_rfl) (ex_O3 (exE 2) x b most a) (exT_sat (d := 3) hx (fun h => absurd h (by decide)) (fun _ => exQ_sat (exE 2) hx b most _) (by decide))
theorem exam4 : ExamOk 4 (exE 4) := fun x hx b most a => by
  rw [exE_s]
  exact Dyn.xcontract (lp := Dyn.noLp) (fuel := 8) (tabEx_ok exam3) mo Try.func54 (by kernel_rfl) (c := bodyD Try.f54.body) (by kernel_rfl) (fun w0 => Dyn.noLp_ok _ w0) (by kernel_rfl) (by kernel_rfl) (by kernel_rfl) (ex_O4 (exE 3) x b most a) (exT_sat (d := 4) hx (fun h => absurd h (by decide)) (fun _ => exQ_sat (exE 3) hx b most _) (by decide))
theorem exam5 : ExamOk 5 (exE 5) := fun x hx b most a => by
  rw [exE_s]
  exact Dyn.xcontract (lp := Dyn.noLp) (fuel := 8) (tabEx_ok exam4) mo Try.func54 (by kernel_rfl) (c := bodyD Try.f54.body) (by kernel_rfl) (fun w0 => Dyn.noLp_ok _ w0) (by kernel_rfl) (by kernel_rfl) (by kernel_rfl) (ex_O5 (exE 4) x b most a) (exT_sat (d := 5) hx (fun h => absurd h (by decide)) (fun _ => exQ_sat (exE 4) hx b most _) (by decide))
theorem exam6 : ExamOk 6 (exE 6) := fun x hx b most a => by
  rw [exE_s]
  exact Dyn.xcontract (lp := Dyn.noLp) (fuel := 8) (tabEx_ok exam5) mo Try.func54 (by kernel_rfl) (c := bodyD Try.f54.body) (by kernel_rfl) (fun w0 => Dyn.noLp_ok _ w0) (by kernel_rfl) (by kernel_rfl) (by kernel_rfl) (ex_O6 (exE 5) x b most a) (exT_sat (d := 6) hx (fun h => absurd h (by decide)) (fun _ => exQ_sat (exE 5) hx b most _) (by decide))
end Go.Proofs.Ythnenjodighlmaa

/-! ## Rge -/
namespace Go.Proofs.Ythnenjodighlmaa
open Go Go.RowKit Sym
set_option maxRecDepth 100000

noncomputable def tdCv : List Dyn.EntryD := [(52, en1D (qAnd qL PdS) fun x => .val (dvG (reachE x))), (53, en2D (qAnd qG PdG) qX fun x b => .val (dvG (nearE x b)))]
def drCv (K : Nat) : Bool := Nat.beq K 53 || Nat.beq K 52 || Nat.beq K 54
noncomputable def tabCv (k : Int) (F : ExF) : Dyn.Tabs := Dyn.tabsX tbF tdCv [(54, enExam k F)] drCv dtyG false
theorem tabCv_ok {k : Int} {F : ExF} (ih : ExamOk k F) : Dyn.TabsOk Try.prog (tabCv k F) :=
  Dyn.tabsX_ok tbF_ok (List.forall_mem_cons.2 ⟨en1D_ok (qAnd_ok qL_ok) fun x h => greach_all x h.1, List.forall_mem_cons.2 ⟨en2D_ok (qAnd_ok qG_ok) qX_ok fun x b h _ => gnear_all x h.1 b, fun _ h => by cases h⟩⟩) (List.forall_mem_cons.2 ⟨enExam_ok ih, fun _ h => by cases h⟩)
def gdF (g : Bool) (ps : List Prop) : Prop := some g = some false ∧ True → Sym.allP ps
theorem gdF_ok {g : Bool} {ps : List Prop} (h : Sym.allP ps) : gdF g ps := fun _ => h
def cvM (d : Int) : Int := W (1 * 2 ^ min d.toNat IntKind.i64.bits)
def cvBad (d u : Int) : Bool := bif W u == 0 then true else (W u).tmod (cvM d) != 0
def cvErr (most a : Int) : Dyn.RX := .leaf (exV 0 0 1) (mtO most a)
def cvG (d u : Int) : List Prop := [gdF (W u == 0) [0 ≤ d], gdF (W u == 0) [cvM d ≠ 0]]
def cvArg (d : Int) (b : B4) : Bool := bif bif decide (d < 0) then true else decide (d > 6) then true else !(boxOk b)
noncomputable def cvO (d : Int) (F : ExF) (x : Sh) (b : B4) (most a : Int) : Dyn.RX :=
  .ite (cvArg d b) (cvErr most a)
  (.side (cvG d (b.x1 - b.x0)) (.ite (cvBad d (b.x1 - b.x0)) (cvErr most a)
  (.side (cvG d (b.y1 - b.y0)) (.ite (cvBad d (b.y1 - b.y0)) (cvErr most a)
  (.side [PdS x, PdG (reachE x), PdG (nearE (reachE x) b)] (.leaf (exV (F (nearE (reachE x) b) b most a).lo (F (nearE (reachE x) b) b most a).hi (F (nearE (reachE x) b) b most a).e) (mtO most (F (nearE (reachE x) b) b most a).a)))))))
/-- what Cover gives -/
def coverF (most d : Int) (s : Shp) (b : B4) (a : Int) : ExR :=
  bif cvArg d b then exNo 1 a else bif cvBad d (b.x1 - b.x0) then exNo 1 a else bif cvBad d (b.y1 - b.y0) then exNo 1 a else exF most d.toNat (nearG (reachF s) b) b a
noncomputable def coverE (d : Int) (x : Sh) (b : B4) (most a : Int) : ExR := coverF most d (ofSh x) b a
theorem cv_sat {d : Nat} {x : Sh} (hx : PdS x) (hd : d ≤ 6) (b : B4) (most a : Int) : (cvO d (exE d) x b most a).sat fun u os => u = exV (coverE d x b most a).lo (coverE d x b most a).hi (coverE d x b most a).e ∧ os = mtO most (coverE d x b most a).a := by
  have hG : ∀ u, Sym.allP (cvG d u) := fun u => by
    have e : d = 0 ∨ d = 1 ∨ d = 2 ∨ d = 3 ∨ d = 4 ∨ d = 5 ∨ d = 6 := by omega
    exact ⟨gdF_ok ⟨by omega, trivial⟩, gdF_ok ⟨by rcases e with rfl | rfl | rfl | rfl | rfl | rfl | rfl <;> decide, trivial⟩, trivial⟩
  have er : exE d (nearE (reachE x) b) b most a = exF most d (nearG (reachF (ofSh x)) b) b a := by
    unfold exE nearE reachE
    rw [ofG_toG, ofG_toG, exF_lst]; rfl
  unfold coverE coverF
  refine ⟨fun h1 => ?_, fun h1 => ⟨hG _, fun h2 => ?_, fun h2 => ⟨hG _, fun h3 => ?_, fun h3 => ⟨⟨hx, reachE_Pd hx, nearE_Pd (reachE_Pd hx) b, trivial⟩, ?_⟩⟩⟩⟩
  · rw [h1]; exact ⟨rfl, rfl⟩
  · rw [h1, h2]; exact ⟨rfl, rfl⟩
  · rw [h1, h2, h3]; exact ⟨rfl, rfl⟩
  · rw [h1, h2, h3, er]; exact ⟨rfl, rfl⟩
theorem cv_O0 (F : ExF) (n : Nat) (f : Nat → List Dyn.DC) (b : B4) (most a : Int) : (Dyn.dfunX Try.prog (tabCv 0 F) Dyn.noLp 8 Try.f31 (mtL most a) [.d (dvL (obX n f)), .d (dvX b), .d (dvI 0), .lp 0 0]).rx Try.prog (mtL most a) Try.f31.results = cvO 0 F (obX n f) b most a := by kernel_rfl
theorem cover0 (n : Nat) (f : Nat → List Dyn.DC) (hx : PdS (obX n f)) (b : B4) (most a : Int) : Dyn.CallX Try.prog 31 [.d (dvL (obX n f)), .d (dvX b), .d (dvI 0), .lp 0 0] (mtL most a) (exV (coverE 0 (obX n f) b most a).lo (coverE 0 (obX n f) b most a).hi (coverE 0 (obX n f) b most a).e) (mtO most (coverE 0 (obX n f) b most a).a) :=
  Dyn.xcontract (lp := Dyn.noLp) (fuel := 8) (tabCv_ok exam0) mo Try.func31 (by kernel_rfl) (c := bodyD Try.f31.body) (by kernel_rfl) (fun w0 => Dyn.noLp_ok _ w0) (by kernel_rfl) (by kernel_rfl) (by kernel_rfl) (cv_O0 (exE 0) n f b most a) (cv_sat (d := 0) hx (by decide) b most a)
theorem cv_O1 (F : ExF) (n : Nat) (f : Nat → List Dyn.DC) (b : B4) (most a : Int) : (Dyn.dfunX Try.prog (tabCv 1 F) Dyn.noLp 8 Try.f31 (mtL most a) [.d (dvL (obX n f)), .d (dvX b), .d (dvI 1), .lp 0 0]).rx Try.prog (mtL most a) Try.f31.results = cvO 1 F (obX n f) b most a := by kernel_rfl
theorem cover1 (n : Nat) (f : Nat → List Dyn.DC) (hx : PdS (obX n f)) (b : B4) (most a : Int) : Dyn.CallX Try.prog 31 [.d (dvL (obX n f)), .d (dvX b), .d (dvI 1), .lp 0 0] (mtL most a) (exV (coverE 1 (obX n f) b most a).lo (coverE 1 (obX n f) b most a).hi (coverE 1 (obX n f) b most a).e) (mtO most (coverE 1 (obX n f) b most a).a) :=
  Dyn.xcontract (lp := Dyn.noLp) (fuel := 8) (tabCv_ok exam1) mo Try.func31 (by kernel_rfl) (c := bodyD Try.f31.body) (by kernel_rfl) (fun w0 => Dyn.noLp_ok _ w0) (by kernel_rfl) (by kernel_rfl) (by kernel_rfl) (cv_O1 (exE 1) n f b most a) (cv_sat (d := 1) hx (by decide) b most a)
theorem cv_O2 (F : ExF) (n : Nat) (f : Nat → List Dyn.DC) (b : B4) (most a : Int) : (Dyn.dfunX Try.prog (tabCv 2 F) Dyn.noLp 8 Try.f31 (mtL most a) [.d (dvL (obX n f)), .d (dvX b), .d (dvI 2), .lp 0 0]).rx Try.prog (mtL most a) Try.f31.results = cvO 2 F (obX n f) b most a := by kernel_rfl
theorem cover2 (n : Nat) (f : Nat → List Dyn.DC) (hx : PdS (obX n f)) (b : B4) (most a : Int) : Dyn.CallX Try.prog 31 [.d (dvL (obX n f)), .d (dvX b), .d (dvI 2), .lp 0 0] (mtL most a) (exV (coverE 2 (obX n f) b most a).lo (coverE 2 (obX n f) b most a).hi (coverE 2 (obX n f) b most a).e) (mtO most (coverE 2 (obX n f) b most a).a) :=
  Dyn.xcontract (lp := Dyn.noLp) (fuel := 8) (tabCv_ok exam2) mo Try.func31 (by kernel_rfl) (c := bodyD Try.f31.body) (by kernel_rfl) (fun w0 => Dyn.noLp_ok _ w0) (by kernel_rfl) (by kernel_rfl) (by kernel_rfl) (cv_O2 (exE 2) n f b most a) (cv_sat (d := 2) hx (by decide) b most a)
theorem cv_O3 (F : ExF) (n : Nat) (f : Nat → List Dyn.DC) (b : B4) (most a : Int) : (Dyn.dfunX Try.prog (tabCv 3 F) Dyn.noLp 8 Try.f31 (mtL most a) [.d (dvL (obX n f)), .d (dvX b), .d (dvI 3), .lp 0 0]).rx Try.prog (mtL most a) Try.f31.results = cvO 3 F (obX n f) b most a := by kernel_rfl
theorem cover3 (n : Nat) (f : Nat → List Dyn.DC) (hx : PdS (obX n f)) (b : B4) (most a : Int) : Dyn.CallX Try.prog 31 [.d (dvL (obX n f)), .d (dvX b), .d (dvI 3), .lp 0 0] (mtL most a) (exV (coverE 3 (obX n f) b most a).lo (coverE 3 (obX n f) b most a).hi (coverE 3 (obX n f) b most a).e) (mtO most (coverE 3 (obX n f) b most a).a) :=
  Dyn.xcontract (lp := Dyn.noLp) (fuel := 8) (tabCv_ok exam3) mo Try.func31 (by kernel_rfl) (c := bodyD Try.f31.body) (by kernel_rfl) (fun w0 => Dyn.noLp_ok _ w0) (by kernel_rfl) (by kernel_rfl) (by kernel_rfl) (cv_O3 (exE 3) n f b most a) (cv_sat (d := 3) hx (by decide) b most a)
theorem cv_O4 (F : ExF) (n : Nat) (f : Nat → List Dyn.DC) (b : B4) (most a : Int) : (Dyn.dfunX Try.prog (tabCv 4 F) Dyn.noLp 8 Try.f31 (mtL most a) [.d (dvL (obX n f)), .d (dvX b), .d (dvI 4), .lp 0 0]).rx Try.prog (mtL most a) Try.f31.results = cvO 4 F (obX n f) b most a := by kernel_rfl
theorem cover4 (n : Nat) (f : Nat → List Dyn.DC) (hx : PdS (obX n f)) (b : B4) (most a : Int) : Dyn.CallX Try.prog 31 [.d (dvL (obX n f)), .d (dvX b), .d (dvI 4), .lp 0 0] (mtL most a) (exV (coverE 4 (obX n f) b most a).lo (coverE 4 (obX n f) b most a).hi (coverE 4 (obX n f) b most a).e) (mtO most (coverE 4 (obX n f) b most a).a) :=
  Dyn.xcontract (lp := Dyn.noLp) (fuel := 8) (tabCv_ok exam4) mo Try.func31 (by kernel_rfl) (c := bodyD Try.f31.body) (by kernel_rfl) (fun w0 => Dyn.noLp_ok _ w0) (by kernel_rfl) (by kernel_rfl) (by kernel_rfl) (cv_O4 (exE 4) n f b most a) (cv_sat (d := 4) hx (by decide) b most a)
theorem cv_O5 (F : ExF) (n : Nat) (f : Nat → List Dyn.DC) (b : B4) (most a : Int) : (Dyn.dfunX Try.prog (tabCv 5 F) Dyn.noLp 8 Try.f31 (mtL most a) [.d (dvL (obX n f)), .d (dvX b), .d (dvI 5), .lp 0 0]).rx Try.prog (mtL most a) Try.f31.results = cvO 5 F (obX n f) b most a := by kernel_rfl
theorem cover5 (n : Nat) (f : Nat → List Dyn.DC) (hx : PdS (obX n f)) (b : B4) (most a : Int) : Dyn.CallX Try.prog 31 [.d (dvL (obX n f)), .d (dvX b), .d (dvI 5), .lp 0 0] (mtL most a) (exV (coverE 5 (obX n f) b most a).lo (coverE 5 (obX n f) b most a).hi (coverE 5 (obX n f) b most a).e) (mtO most (coverE 5 (obX n f) b most a).a) :=
  Dyn.xcontract (lp := Dyn.noLp) (fuel := 8) (tabCv_ok exam5) mo Try.func31 (by kernel_rfl) (c := bodyD Try.f31.body) (by kernel_rfl) (fun w0 => Dyn.noLp_ok _ w0) (by kernel_rfl) (by kernel_rfl) (by kernel_rfl) (cv_O5 (exE 5) n f b most a) (cv_sat (d := 5) hx (by decide) b most a)
theorem cv_O6 (F : ExF) (n : Nat) (f : Nat → List Dyn.DC) (b : B4) (most a : Int) : (Dyn.dfunX Try.prog (tabCv 6 F) Dyn.noLp 8 Try.f31 (mtL most a) [.d (dvL (obX n f)), .d (dvX b), .d (dvI 6), .lp 0 0]).rx Try.prog (mtL most a) Try.f31.results = cvO 6 F (obX n f) b most a := by kernel_rfl
theorem cover6 (n : Nat) (f : Nat → List Dyn.DC) (hx : PdS (obX n f)) (b : B4) (most a : Int) : Dyn.CallX Try.prog 31 [.d (dvL (obX n f)), .d (dvX b), .d (dvI 6), .lp 0 0] (mtL most a) (exV (coverE 6 (obX n f) b most a).lo (coverE 6 (obX n f) b most a).hi (coverE 6 (obX n f) b most a).e) (mtO most (coverE 6 (obX n f) b most a).a) :=
  Dyn.xcontract (lp := Dyn.noLp) (fuel := 8) (tabCv_ok exam6) mo Try.func31 (by kernel_rfl) (c := bodyD Try.f31.body) (by kernel_rfl) (fun w0 => Dyn.noLp_ok _ w0) (by kernel_rfl) (by kernel_rfl) (by kernel_rfl) (cv_O6 (exE 6) n f b most a) (cv_sat (d := 6) hx (by decide) b most a)
theorem cover_ok {d : Int} (h0 : 0 ≤ d) (h6 : d ≤ 6) (n : Nat) (f : Nat → List Dyn.DC) (hx : PdS (obX n f)) (b : B4) (most a : Int) : Dyn.CallX Try.prog 31 [.d (dvL (obX n f)), .d (dvX b), .d (dvI d), .lp 0 0] (mtL most a) (exV (coverE d (obX n f) b most a).lo (coverE d (obX n f) b most a).hi (coverE d (obX n f) b most a).e) (mtO most (coverE d (obX n f) b most a).a) := by
  have e : d = 0 ∨ d = 1 ∨ d = 2 ∨ d = 3 ∨ d = 4 ∨ d = 5 ∨ d = 6 := by omega
  rcases e with rfl | rfl | rfl | rfl | rfl | rfl | rfl
  · exact cover0 n f hx b most a
  · exact cover1 n f hx b most a
  · exact cover2 n f hx b most a
  · exact cover3 n f hx b most a
  · exact cover4 n f hx b most a
  · exact cover5 n f hx b most a
  · exact cover6 n f hx b most a
/-- an entry for Cover -/
noncomputable def enCov : List Dyn.LA → Dyn.Lent → Option (Value × List (List Value) × List Prop)
  | [.d (.one (.row n f)), .d u, .d (.one (.p (.int .i64 d))), .lp 0 0], [(t, [.int .i64 most, .int .i64 a])] => match aX u, Nat.beq t 97 with
    | some b, true => some (exV (coverE d (obX n f) b most a).lo (coverE d (obX n f) b most a).hi (coverE d (obX n f) b most a).e, mtO most (coverE d (obX n f) b most a).a, [0 ≤ d ∧ d ≤ 6, PdS (obX n f)])
    | _, _ => none
  | _, _ => none
theorem enCov_ok : Dyn.EntryXOk Try.prog (31, enCov) := fun az lent u out ps h hp => by
  dsimp only at h
  unfold enCov at h
  split at h
  · rename_i n f u' d t most a
    split at h
    · rename_i b hb ht
      have e1 := Nat.eq_of_beq_eq_true ht
      subst e1
      simp only [Option.some.injEq, Prod.mk.injEq] at h
      obtain ⟨rfl, rfl, rfl⟩ := h
      exact CallX_le2 (Dyn.DVLe.refl _) (aX_eq hb) (cover_ok hp.1.1 hp.1.2 n f hp.2.1 b most a)
    · cases h
  · cases h
end Go.Proofs.Ythnenjodighlmaa

/-! ## Pim -/
namespace Go.Proofs.Ythnenjodighlmaa
open Go Go.RowKit Sym
set_option maxRecDepth 100000

/-- q lies in b -/
structure Sb (q b : B4) : Prop where
  fa : b.x0 ≤ q.x0
  x : q.x0 ≤ q.x1
  fb : q.x1 ≤ b.x1
  fc : b.y0 ≤ q.y0
  y : q.y0 ≤ q.y1
  fd : q.y1 ≤ b.y1
theorem Sb.has {q b : B4} (h : Sb q b) {p : P2} (k : hasI q p) : hasI b p := by
  have := h.fa; have := h.fb; have := h.fc; have := h.fd
  obtain ⟨k1, k2, k3, k4⟩ := k
  exact ⟨by omega, by omega, by omega, by omega⟩
theorem Sb.cor {q b : B4} (h : Sb q b) {p : P2} (k : isC q p) : hasI b p := h.has (isC_has h.x h.y k)
theorem Sb.near {q b : B4} (h : Sb q b) (p : P2) : nearI b p ≤ nearI q p := by
  have := h.fa; have := h.fb; have := h.fc; have := h.fd; have := h.x; have := h.y
  have gx : 0 ≤ gapI p.x b.x0 b.x1 ∧ gapI p.x b.x0 b.x1 ≤ gapI p.x q.x0 q.x1 := by unfold gapI; repeat' split <;> omega
  have gy : 0 ≤ gapI p.y b.y0 b.y1 ∧ gapI p.y b.y0 b.y1 ≤ gapI p.y q.y0 q.y1 := by unfold gapI; repeat' split <;> omega
  have := Int.mul_le_mul gx.2 gx.2 gx.1 (by omega)
  have := Int.mul_le_mul gy.2 gy.2 gy.1 (by omega)
  unfold nearI
  omega
theorem Sb.most {q b : B4} (h : Sb q b) (p : P2) : mostI q p ≤ mostI b p := by
  have := h.fa; have := h.fb; have := h.fc; have := h.fd; have := h.x; have := h.y
  have gx : 0 ≤ reachI p.x q.x0 q.x1 ∧ reachI p.x q.x0 q.x1 ≤ reachI p.x b.x0 b.x1 := by unfold reachI; omega
  have gy : 0 ≤ reachI p.y q.y0 q.y1 ∧ reachI p.y q.y0 q.y1 ≤ reachI p.y b.y0 b.y1 := by unfold reachI; omega
  have := Int.mul_le_mul gx.2 gx.2 gx.1 (by omega)
  have := Int.mul_le_mul gy.2 gy.2 gy.1 (by omega)
  unfold mostI
  omega
theorem Sb.pos {q b : B4} (h : Sb q b) {a c : P2} (k : all4 (fun z => decide (crossI a c z > 0)) b = true) : all4 (fun z => decide (crossI a c z > 0)) q = true := by
  rw [all4_iff] at k ⊢
  intro z hz
  obtain ⟨w, hw, hl⟩ := cross_le a c (h.cor hz)
  have := k w hw
  rw [decide_eq_true_eq] at this ⊢; omega
theorem Sb.ge {q b : B4} (h : Sb q b) {a c : P2} (k : all4 (fun z => decide (crossI a c z ≥ 0)) b = true) : all4 (fun z => decide (crossI a c z ≥ 0)) q = true := by
  rw [all4_iff] at k ⊢
  intro z hz
  obtain ⟨w, hw, hl⟩ := cross_le a c (h.cor hz)
  have := k w hw
  rw [decide_eq_true_eq] at this ⊢; omega
theorem Sb.neg {q b : B4} (h : Sb q b) {a c : P2} (k : all4 (fun z => decide (crossI a c z < 0)) b = true) : all4 (fun z => decide (crossI a c z < 0)) q = true := by
  rw [all4_iff] at k ⊢
  intro z hz
  obtain ⟨w, hw, hl⟩ := cross_ge a c (h.cor hz)
  have := k w hw
  rw [decide_eq_true_eq] at this ⊢; omega
theorem Sb.ge2 {q b : B4} (h : Sb q b) {a c : P2} (k : all4 (fun z => decide (crossI a z c ≥ 0)) b = true) : all4 (fun z => decide (crossI a z c ≥ 0)) q = true := by
  rw [all4_iff] at k ⊢
  intro z hz
  obtain ⟨w, hw, hl⟩ := cross_ge a c (h.cor hz)
  have := k w hw
  rw [decide_eq_true_eq] at this ⊢
  have e1 := cross_sw a c z
  have e2 := cross_sw a c w
  omega
theorem Sb.neg2 {q b : B4} (h : Sb q b) {a c : P2} (k : all4 (fun z => decide (crossI a z c < 0)) b = true) : all4 (fun z => decide (crossI a z c < 0)) q = true := by
  rw [all4_iff] at k ⊢
  intro z hz
  obtain ⟨w, hw, hl⟩ := cross_le a c (h.cor hz)
  have := k w hw
  rw [decide_eq_true_eq] at this ⊢
  have e1 := cross_sw a c z
  have e2 := cross_sw a c w
  omega
theorem Sb.meets {q b : B4} (h : Sb q b) {a c : P2} (k : meetsI q a c = true) : meetsI b a c = true := by
  have := h.fa; have := h.fb; have := h.fc; have := h.fd; have := h.x; have := h.y
  unfold meetsI at k ⊢
  simp only [Bool.and_eq_true, Bool.not_eq_true'] at k ⊢
  obtain ⟨k1, k2, k3⟩ := k
  refine ⟨?_, ?_, ?_⟩
  · unfold sepI at k1 ⊢
    simp only [Bool.or_eq_false_iff, decide_eq_false_iff_not] at k1 ⊢
    omega
  · cases e : all4 (fun z => decide (crossI a c z > 0)) b
    · rfl
    · rw [h.pos e] at k2; cases k2
  · cases e : all4 (fun z => decide (crossI a c z < 0)) b
    · rfl
    · rw [h.neg e] at k3; cases k3
/-- a class, and that of a smaller box -/
structure Ref (k j : Int) : Prop where
  k0 : 0 ≤ k
  k2 : k ≤ 2
  j0 : 0 ≤ j
  j2 : j ≤ 2
  e : k ≠ 1 → j = k
theorem Ref.of {k j : Int} (hk : k = 0 ∨ k = 1 ∨ k = 2) (hj : j = 0 ∨ j = 1 ∨ j = 2) (h2 : k = 2 → j = 2) (h0 : k = 0 → j = 0) : Ref k j := ⟨by omega, by omega, by omega, by omega, fun h => by omega⟩
theorem Ref.fold {k j m n : Int} (h : Ref k j) (g : Ref m n) (add : Bool) : Ref (foldF k m add) (foldF j n add) := by
  obtain ⟨h1, h2, h3, h4, h5⟩ := h
  obtain ⟨g1, g2, g3, g4, g5⟩ := g
  have a : (k = 0 ∧ j = 0) ∨ (k = 2 ∧ j = 2) ∨ (k = 1 ∧ (j = 0 ∨ j = 1 ∨ j = 2)) := by omega
  have b : (m = 0 ∧ n = 0) ∨ (m = 2 ∧ n = 2) ∨ (m = 1 ∧ (n = 0 ∨ n = 1 ∨ n = 2)) := by omega
  rcases a with ⟨rfl, rfl⟩ | ⟨rfl, rfl⟩ | ⟨rfl, rfl | rfl | rfl⟩ <;> rcases b with ⟨rfl, rfl⟩ | ⟨rfl, rfl⟩ | ⟨rfl, rfl | rfl | rfl⟩ <;> cases add <;> exact ⟨by decide, by decide, by decide, by decide, by decide⟩
theorem ref_disc {q b : B4} (h : Sb q b) (hb : BR b) (hq : BR q) {c : P2} (hc : PR c) {r : Int} (h1 : 1 ≤ r) (h2 : r ≤ 2147483648) : Ref (discClass b c r) (discClass q c r) := by
  have := h.fa; have := h.fb; have := h.fc; have := h.fd; have := h.x; have := h.y
  rw [discClass_eq hb hc (by omega) (by omega) h1 h2, discClass_eq hq hc h.x h.y h1 h2]
  have n := h.near c
  have m := h.most c
  have nm := near_most (p := c) h.x h.y
  constructor <;> repeat' split <;> omega
theorem ref_line {q b : B4} (h : Sb q b) (hb : BR b) (hq : BR q) {a c : P2} (ha : PR a) (hc : PR c) {r : Int} (h1 : 1 ≤ r) (h2 : r ≤ 2147483648) : Ref (lineClass b a c r) (lineClass q a c r) := by
  have := h.fa; have := h.fb; have := h.fc; have := h.fd; have := h.x; have := h.y
  rw [lineClass_eq hb ha hc (by omega) (by omega) h1 h2, lineClass_eq hq ha hc h.x h.y h1 h2]
  refine Ref.of (lineCl_012 _ _ _ _) (lineCl_012 _ _ _ _) (fun k => ?_) (fun k => ?_)
  · rw [lineCl_two] at k ⊢
    rw [all4_iff]
    intro z hz
    exact line_in (h.cor hz) k
  · rcases lineCl_012 q a c r with e | e
    · exact e
    · exfalso
      have hit : lineCl q a c r ≠ 0 := by omega
      rw [lineCl_hit] at hit
      have nb : ¬ (any4 (fun z => lineI z a c r) b = true ∨ nearI b a ≤ r * r ∨ nearI b c ≤ r * r ∨ meetsI b a c = true) := fun x => (lineCl_hit.2 x) k
      rcases hit with x | x | x | x
      · obtain ⟨z, hz, hi⟩ := any4_iff.1 x
        exact hit_of (by omega) (by omega) (h.cor hz) hi k
      · exact nb (.inr (.inl (by have := h.near a; omega)))
      · exact nb (.inr (.inr (.inl (by have := h.near c; omega))))
      · exact nb (.inr (.inr (.inr (h.meets x))))
theorem ref_bar {q b : B4} (h : Sb q b) (hb : BR b) (hq : BR q) {a c : P2} (ha : PR a) (hc : PR c) {r : Int} (h2 : r ≤ 2147483648) : Ref (barClass b a c r) (barClass q a c r) := by
  have := h.fa; have := h.fb; have := h.fc; have := h.fd; have := h.x; have := h.y
  rw [barClass_eq hb ha hc (by omega) (by omega) h2, barClass_eq hq ha hc h.x h.y h2]
  refine Ref.of (barCl_012 _ _ _ _) (barCl_012 _ _ _ _) (fun k => ?_) (fun k => ?_)
  · rw [barCl_two] at k ⊢
    refine ⟨k.1, ?_⟩
    rw [all4_iff]
    intro z hz
    exact bar_in (h.cor hz) k.2
  · by_cases v : r < 1 ∨ same a c
    · unfold barCl; rw [if_pos v]
    · have out : ∀ z, isC q z → barI z a c r = false := fun z hz => bar_out (h.cor hz) k
      have n2 : all4 (fun z => barI z a c r) q = false := by
        cases e : all4 (fun z => barI z a c r) q
        · rfl
        · have := all4_iff.1 e ⟨q.x0, q.y0⟩ ⟨.inl rfl, .inl rfl⟩
          rw [out _ ⟨.inl rfl, .inl rfl⟩] at this; cases this
      unfold barCl at k ⊢
      rw [if_neg v] at k ⊢
      have k2 : all4 (fun z => barI z a c r) b = false := by
        cases e : all4 (fun z => barI z a c r) b
        · rfl
        · rw [if_pos e] at k; cases k
      rw [k2] at k
      simp only [Bool.false_eq_true, if_false] at k
      rw [n2]
      simp only [Bool.false_eq_true, if_false]
      have k3 : (all4 (rightI a c r) b || all4 (leftI a c r) b || all4 (fun z => decide (dotI a c z < 0)) b || all4 (fun z => decide (dotI a c z > distI a c)) b) = true := by
        cases e : (all4 (rightI a c r) b || all4 (leftI a c r) b || all4 (fun z => decide (dotI a c z < 0)) b || all4 (fun z => decide (dotI a c z > distI a c)) b)
        · rw [e] at k; cases k
        · rfl
      rw [if_pos]
      simp only [Bool.or_eq_true, all4_iff] at k3 ⊢
      rcases k3 with ((k3 | k3) | k3) | k3
      · refine .inl (.inl (.inl fun z hz => ?_))
        obtain ⟨w, hw, hl⟩ := cross_ge a c (h.cor hz)
        have e := k3 w hw
        unfold rightI clear at e ⊢
        simp only [Bool.and_eq_true, Bool.not_eq_true', decide_eq_false_iff_not] at e ⊢
        have t := sq_le (x := -crossI a c w) (y := -crossI a c z) (by omega) (by omega)
        have e1 : -crossI a c w * -crossI a c w = crossI a c w * crossI a c w := by grind
        have e2 : -crossI a c z * -crossI a c z = crossI a c z * crossI a c z := by grind
        omega
      · refine .inl (.inl (.inr fun z hz => ?_))
        obtain ⟨w, hw, hl⟩ := cross_le a c (h.cor hz)
        have e := k3 w hw
        unfold leftI clear at e ⊢
        simp only [Bool.and_eq_true, Bool.not_eq_true', decide_eq_false_iff_not, decide_eq_true_eq] at e ⊢
        have t := sq_le (x := crossI a c w) (y := crossI a c z) (by omega) (by omega)
        omega
      · refine .inl (.inr fun z hz => ?_)
        obtain ⟨w, hw, hl⟩ := dot_ge a c (h.cor hz)
        have e := k3 w hw
        simp only [decide_eq_true_eq] at e ⊢; omega
      · refine .inr fun z hz => ?_
        obtain ⟨w, hw, hl⟩ := dot_le a c (h.cor hz)
        have e := k3 w hw
        simp only [decide_eq_true_eq] at e ⊢; omega
theorem Sb.liIn {q b : B4} (h : Sb q b) {c a e : P2} (k : liIn b c a e = true) : liIn q c a e = true := by
  unfold Go.Proofs.Ythnenjodighlmaa.liIn at k ⊢
  cases s : decide (same a e)
  · rw [s] at k
    simp only [Bool.false_or] at k ⊢
    split at k
    · rename_i g
      rw [if_pos g]
      rw [Bool.or_eq_true] at k ⊢
      exact k.imp h.ge h.ge2
    · rename_i g
      rw [if_neg g]
      rw [Bool.and_eq_true] at k ⊢
      exact ⟨h.ge k.1, h.ge2 k.2⟩
  · rfl
theorem Sb.liOff {q b : B4} (h : Sb q b) {c a e : P2} (k : liOff b c a e = true) : liOff q c a e = true := by
  unfold Go.Proofs.Ythnenjodighlmaa.liOff at k ⊢
  rw [Bool.and_eq_true] at k ⊢
  refine ⟨k.1, ?_⟩
  have k := k.2
  split at k
  · rename_i g
    rw [if_pos g]
    rw [Bool.and_eq_true] at k ⊢
    exact ⟨h.neg k.1, h.neg2 k.2⟩
  · rename_i g
    rw [if_neg g]
    rw [Bool.or_eq_true] at k ⊢
    exact k.imp h.neg h.neg2
theorem ref_ring {q b : B4} (h : Sb q b) (hb : BR b) (hq : BR q) {c a e : P2} (hc : PR c) (ha : PR a) (he : PR e) (ok : okI c a e) {r : Int} (h4 : 1 ≤ r) (h5 : r ≤ 1073741824) (hd : mostI b c ≤ 4000000000000000000) (hr : distI a c ≤ 4000000000000000000) : Ref (ringClass b c a e r) (ringClass q c a e r) := by
  have := h.fa; have := h.fb; have := h.fc; have := h.fd; have := h.x; have := h.y
  have mc := h.most c
  have nc := h.near c
  have ma := h.most a
  have na := h.near a
  have me := h.most e
  have ne := h.near e
  have nm := near_most (p := c) h.x h.y
  have nma := near_most (p := a) h.x h.y
  have nme := near_most (p := e) h.x h.y
  rw [ringClass_eq hb hc ha he ok (by omega) (by omega) h4 h5 hd hr, ringClass_eq hq hc ha he ok h.x h.y h4 h5 (by omega) hr]
  have o1 : outI (nearI b c) (distI a c) r = true → outI (nearI q c) (distI a c) r = true := outI_mono nc
  have o2 : outI (mostI q c) (distI a c) r = true → outI (mostI b c) (distI a c) r = true := outI_mono mc
  have o3 : outI (nearI q c) (distI a c) r = true → outI (mostI q c) (distI a c) r = true := outI_mono nm
  have i1 : insI (mostI b c) (distI a c) r = true → insI (mostI q c) (distI a c) r = true := insI_mono mc
  have i2 : insI (nearI q c) (distI a c) r = true → insI (nearI b c) (distI a c) r = true := insI_mono nc
  have i3 : insI (mostI q c) (distI a c) r = true → insI (nearI q c) (distI a c) r = true := insI_mono nm
  have l1 : liIn b c a e = true → liIn q c a e = true := h.liIn
  have l2 : liOff b c a e = true → liOff q c a e = true := h.liOff
  have l3 : liOff q c a e = true → liIn q c a e = true → False := fun u v => by
    have k1 := liOff_has (q := ⟨q.x0, q.y0⟩) ⟨Int.le_refl _, h.x, Int.le_refl _, h.y⟩ u
    have k2 := liIn_has (q := ⟨q.x0, q.y0⟩) ⟨Int.le_refl _, h.x, Int.le_refl _, h.y⟩ v
    rw [k1] at k2; cases k2
  refine Ref.of (ringCl_012 _ _ _ _ _) (ringCl_012 _ _ _ _ _) (fun k => ?_) (fun k => ?_)
  · unfold ringCl at k ⊢
    by_cases m1 : mostI b a ≤ r * r ∨ mostI b e ≤ r * r
    · rw [if_pos (by omega)]
    · rw [if_neg m1] at k
      by_cases m2 : (liIn b c a e && outI (nearI b c) (distI a c) r && insI (mostI b c) (distI a c) r) = true
      · simp only [Bool.and_eq_true] at m2
        have q2 : (liIn q c a e && outI (nearI q c) (distI a c) r && insI (mostI q c) (distI a c) r) = true := by
          simp only [Bool.and_eq_true]
          exact ⟨⟨l1 m2.1.1, o1 m2.1.2⟩, i1 m2.2⟩
        rw [if_pos q2]
        split <;> rfl
      · rw [if_neg m2] at k
        split at k
        · cases k
        · split at k <;> cases k
  · unfold ringCl at k ⊢
    by_cases m1 : mostI b a ≤ r * r ∨ mostI b e ≤ r * r
    · rw [if_pos m1] at k; cases k
    · rw [if_neg m1] at k
      by_cases m2 : (liIn b c a e && outI (nearI b c) (distI a c) r && insI (mostI b c) (distI a c) r) = true
      · rw [if_pos m2] at k; cases k
      · rw [if_neg m2] at k
        by_cases m3 : nearI b a ≤ r * r ∨ nearI b e ≤ r * r
        · rw [if_pos m3] at k; cases k
        · rw [if_neg m3] at k
          by_cases m4 : (liOff b c a e || !(insI (nearI b c) (distI a c) r) || !(outI (mostI b c) (distI a c) r)) = true
          · simp only [Bool.or_eq_true, Bool.not_eq_true'] at m4
            rw [if_neg (by omega), if_neg, if_neg (by omega), if_pos]
            · simp only [Bool.or_eq_true, Bool.not_eq_true']
              rcases m4 with (m4 | m4) | m4
              · exact .inl (.inl (l2 m4))
              · refine .inl (.inr ?_)
                cases x : insI (nearI q c) (distI a c) r
                · rfl
                · rw [i2 x] at m4; cases m4
              · refine .inr ?_
                cases x : outI (mostI q c) (distI a c) r
                · rfl
                · rw [o2 x] at m4; cases m4
            · intro x
              simp only [Bool.and_eq_true] at x
              obtain ⟨⟨x1, x2⟩, x3⟩ := x
              rcases m4 with (m4 | m4) | m4
              · exact l3 (l2 m4) x1
              · rw [i2 (i3 x3)] at m4; cases m4
              · rw [o2 (o3 x2)] at m4; cases m4
          · rw [if_neg m4] at k; cases k
theorem ref_poly {q b : B4} (h : Sb q b) (hb : BR b) (hq : BR q) {l : Ctr} (hl : PRC l) : Ref (polyClassF b l) (polyClassF q l) := by
  have := h.fa; have := h.fb; have := h.fc; have := h.fd; have := h.x; have := h.y
  have hC : hasI q ⟨q.x0, q.y0⟩ := ⟨Int.le_refl _, h.x, Int.le_refl _, h.y⟩
  have tq : touchI q l = true → touchI b l = true := fun t => by
    unfold touchI at t ⊢
    rw [anyN_iff] at t ⊢
    obtain ⟨i, hi, t⟩ := t
    refine ⟨i, hi, ?_⟩
    rw [anyN_iff] at t ⊢
    obtain ⟨k, hk, t⟩ := t
    exact ⟨k, hk, h.meets t⟩
  have v : ∀ b : B4, polyClassF b l = 0 ∨ polyClassF b l = 1 ∨ polyClassF b l = 2 := fun b => by
    unfold polyClassF
    cases touchF b l
    · cases andB (boxHas b ⟨b.x0, b.y0⟩) (oddF ⟨b.x0, b.y0⟩ l) <;> simp
    · simp
  have s1 := polyClass_sure (q := ⟨q.x0, q.y0⟩) hb (by omega) (by omega) hl (h.has hC)
  have s2 := polyClass_sure (q := ⟨q.x0, q.y0⟩) hq h.x h.y hl hC
  have no : polyClassF b l ≠ 1 → polyClassF q l ≠ 1 := fun n1 n2 => by
    have e1 : touchI b l = false := by
      cases t : touchI b l
      · rfl
      · exfalso
        apply n1
        unfold polyClassF
        rw [touchF_eq hb (by omega) (by omega) hl, t]; rfl
    have e2 : touchI q l = true := by
      unfold polyClassF at n2
      rw [touchF_eq hq h.x h.y hl] at n2
      cases t : touchI q l
      · rw [t] at n2
        exfalso
        revert n2
        show ¬ (bif andB (boxHas q ⟨q.x0, q.y0⟩) (oddF ⟨q.x0, q.y0⟩ l) then (2 : Int) else 0) = 1
        cases andB (boxHas q ⟨q.x0, q.y0⟩) (oddF ⟨q.x0, q.y0⟩ l) <;> simp
      · rfl
    rw [tq e2] at e1; cases e1
  refine Ref.of (v b) (v q) (fun k => ?_) (fun k => ?_)
  · rcases s2 with ⟨e, f⟩ | e | ⟨e, f⟩
    · rcases s1 with ⟨e', f'⟩ | e' | ⟨e', f'⟩
      · omega
      · omega
      · rw [f] at f'; cases f'
    · exact absurd e (no (by omega))
    · exact e
  · rcases s2 with ⟨e, f⟩ | e | ⟨e, f⟩
    · exact e
    · exact absurd e (no (by omega))
    · rcases s1 with ⟨e', f'⟩ | e' | ⟨e', f'⟩
      · rw [f] at f'; cases f'
      · omega
      · omega
theorem fitsBR {b : B4} (hb : Fits b) : BR b := ⟨⟨by have := hb.x0; omega, by have := hb.x; have := hb.x1; omega⟩, ⟨by have := hb.y0; omega, by have := hb.y; have := hb.y1; omega⟩, ⟨by have := hb.x0; have := hb.x; omega, by have := hb.x1; omega⟩, ⟨by have := hb.y0; have := hb.y; omega, by have := hb.y1; omega⟩⟩
theorem ref_fold (c d : Nat → Int) (add : Nat → Bool) : ∀ n, (∀ i, i < n → Ref (c i) (d i)) → Ref (foldN (fun i acc => foldF acc (c i) (add i)) 0 n) (foldN (fun i acc => foldF acc (d i) (add i)) 0 n)
  | 0, _ => (⟨by decide, by decide, by decide, by decide, fun _ => rfl⟩ : Ref 0 0)
  | n + 1, h => (ref_fold c d add n fun i hi => h i (by omega)).fold (h n (by omega)) (add n)
theorem ref_shape (sm : Bool) {q b : B4} (h : Sb q b) (hb : Fits b) (hq : Fits q) : ∀ (s : Shp) (d : Int), Ref (classF (tameS s sm d) b) (classF (tameS s sm d) q) := by
  have bb : BR b := fitsBR hb
  have bq : BR q := fitsBR hq
  intro s
  induction s with
  | nil => intro d; exact (⟨by decide, by decide, by decide, by decide, fun _ => rfl⟩ : Ref 0 0)
  | mk k a b' c r l n add sub ih =>
    intro d
    have kk := tmKk_bd ⟨k, a, b', c, r, l, n, noF⟩ d
    have kb := tmB_ok ⟨k, a, b', c, r, l, n, noF⟩ sm
    have kr := wid_bd (tmR_ok ⟨k, a, b', c, r, l, n, noF⟩ sm)
    have ka := PB_PR (at_PB a sm)
    simp only [tameS]
    generalize tmKk ⟨k, a, b', c, r, l, n, noF⟩ d = K at *
    have : K = 1 ∨ K = 2 ∨ K = 3 ∨ K = 4 ∨ K = 5 ∨ K = 6 := by omega
    rcases this with rfl | rfl | rfl | rfl | rfl | rfl
    · exact ref_disc h bb bq ka kr.1 (by omega)
    · exact ref_poly h bb bq (tameC_r l sm)
    · exact ref_line h bb bq ka (PB_PR kb.1) kr.1 (by omega)
    · exact ref_bar h bb bq ka (PB_PR kb.1) (by omega)
    · obtain ⟨f1, f2, f3, f4⟩ := arc_facts c (band a.x 65535) b'.x sm
      obtain ⟨g1, g2, g3, g4⟩ := arc_facts c (band a.y 65535) b'.x sm
      have cr := arcC_r c sm
      exact ref_ring h bb bq ⟨⟨by omega, by omega⟩, ⟨by omega, by omega⟩⟩ f1 g1 (arc_okI c _ _ _ sm) kr.1 (by omega) (by have := most_far hb.x0 hb.x hb.x1 hb.y0 hb.y hb.y1 cr; omega) (by rw [f2]; omega)
    · exact ref_fold (fun i => classF (tameS (sub i) sm (W (d + 1))) b) (fun i => classF (tameS (sub i) sm (W (d + 1))) q) add _ fun i _ => ih i _
end Go.Proofs.Ythnenjodighlmaa

/-! ## Pin -/
namespace Go.Proofs.Ythnenjodighlmaa
open Go Go.RowKit Sym
set_option maxRecDepth 100000

theorem bandLe (x : Int) (m : Nat) (hm : m < 2 ^ 62) : 0 ≤ band x (m : Int) ∧ band x (m : Int) ≤ m := by
  have h : (BitVec.ofInt 64 x &&& BitVec.ofInt 64 (m : Int)).toNat ≤ m := by
    rw [BitVec.toNat_and]
    refine Nat.le_trans Nat.and_le_right ?_
    simp only [BitVec.toNat_ofInt]
    omega
  unfold band
  rw [W_id (by omega) (by omega)]
  omega
end Go.Proofs.Ythnenjodighlmaa

/-! ## Rgf -/
namespace Go.Proofs.Ythnenjodighlmaa
open Go Go.RowKit Sym
set_option maxRecDepth 100000

/-- a shift to the left -/
def shlI (v d : Int) : Int := W (v * 2 ^ min (IntKind.u64.wrap d).toNat 64)
def sdK (w d : Int) (s : Bool) : Int := bif s then shlI (W (band w 3 + 1)) d else shlI (W (W ((IntKind.u64.wrap w).tmod 1000000) + 1)) d
def sdP (x y : Int) (s : Bool) : P2 := bif s then lClose (lClose ⟨x, y⟩ 400000000) 25 else lClose ⟨x, y⟩ 400000000
def sideF (x y w d : Int) (s : Bool) : B4 := ⟨(sdP x y s).x, (sdP x y s).y, W ((sdP x y s).x + sdK w d s), W ((sdP x y s).y + sdK w d s)⟩
def tabSd : Dyn.Tabs := Dyn.tabs tbF [] noD noD
theorem tabSd_ok : Dyn.TabsOk Try.prog tabSd := Dyn.tabs_ok tbF_ok (fun _ h => by cases h)
def sdO (x y w d : Int) (s : Bool) : Dyn.RO :=
  .side [0 ≤ IntKind.u64.wrap d] (.side [W (400000000 + 1) ≠ 0] (.ite s (.side [0 ≤ IntKind.u64.wrap d, W (25 + 1) ≠ 0] (.leaf (.val (dvX (sideF x y w d true))))) (.leaf (.val (dvX (sideF x y w d false))))))
theorem sd_O (x y w d : Int) (s : Bool) : (Dyn.dfun Try.prog tabSd Dyn.noLp 3 Try.f30 [dvI x, dvI y, dvI w, dvI d, dvB s]).ro Try.prog Try.f30.results = sdO x y w d s := by kernel_rfl
theorem u64_pos (d : Int) : 0 ≤ IntKind.u64.wrap d := by
  show 0 ≤ d % 18446744073709551616
  omega
theorem side_ok (x y w d : Int) (s : Bool) : Dyn.CallD Try.prog 30 [dvI x, dvI y, dvI w, dvI d, dvB s] (.val (dvX (sideF x y w d s))) :=
  Dyn.dcontract (lp := Dyn.noLp) (fuel := 3) tabSd_ok mo Try.func30 (by kernel_rfl) (c := bodyD Try.f30.body) (by kernel_rfl) (fun w0 => Dyn.noLp_ok _ w0) (by kernel_rfl) (sd_O x y w d s) (by
    refine ⟨⟨u64_pos d, trivial⟩, ⟨by decide, trivial⟩, fun h => ⟨⟨u64_pos d, by decide, trivial⟩, ?_⟩, fun h => ?_⟩
    · subst h; exact ro_leaf rfl
    · subst h; exact ro_leaf rfl)
end Go.Proofs.Ythnenjodighlmaa

/-! ## Rgh -/
namespace Go.Proofs.Ythnenjodighlmaa
open Go Go.RowKit Sym
set_option maxRecDepth 100000

theorem CallX_d1 {P : Program} {K : Nat} {u u' v v' : Dyn.DV} {l : List Dyn.LA} {lent : Dyn.Lent} {r : Value} {o : List (List Value)} (h1 : DVd u u') (h2 : Dyn.DVLe v v') (k : Dyn.CallX P K (.d u' :: .d v' :: l) lent r o) : Dyn.CallX P K (.d u :: .d v :: l) lent r o := fun w F bs us hF hn hd hl hden => k w F bs us hF hn hd hl (by
  cases us with
  | nil => exact hden
  | cons x us =>
    cases us with
    | nil => exact ⟨DVd.den h1 hden.1, hden.2⟩
    | cons y us => exact ⟨DVd.den h1 hden.1, Dyn.DenV_le h2 hden.2.1, hden.2.2⟩)
/-! ### a polygon of four points, as a program writes it -/
def p4X (a b c d : P2) : Nat → List Dyn.DC := Dyn.pickL 0 [[cI a.x, cI a.y], [cI b.x, cI b.y], [cI c.x, cI c.y], [cI d.x, cI d.y]]
def p4C (a b c d : P2) : Ctr := ⟨1, fun _ => 4, fun _ k => match k with
  | 0 => a
  | 1 => b
  | 2 => c
  | _ => d⟩
def p4S (a b c d : P2) : Shp := leafS 2 ze ze ze 0 (p4C a b c d)
def p4L (a b c d : P2) : Shp := lForm 1 (fun _ => true) (fun _ => p4S a b c d)
def p4R (a b c d : P2) : Nat → List Dyn.DC := fun _ => [.p (vb true), cI 2, cI 0, cI 0, cI 0, cI 0, cI 0, cI 0, cI 0, .row 1 fun _ => [.row 4 (p4X a b c d)], .row 0 noF]
theorem p4_le (a b c d : P2) : DLe (.row 1 (p4R a b c d)) (.row 1 fun _ => partC true (toSh (p4S a b c d))) :=
  DLe.rowL fun i _ => ⟨.refl _, .refl _, .refl _, .refl _, .refl _, .refl _, .refl _, .refl _, .refl _, DLe.rowL fun i _ => ⟨DLe.rowL fun i hi => by
    rcases (show i = 0 ∨ i = 1 ∨ i = 2 ∨ i = 3 by omega) with rfl | rfl | rfl | rfl <;> exact ⟨.refl _, .refl _, trivial⟩, trivial⟩, DLe.rowL fun i hi => absurd hi (Nat.not_lt_zero i), trivial⟩
theorem p4_B (a b c d : P2) : ShB (p4L a b c d) := ⟨CtrB_ze, by decide, fun i _ => ⟨⟨show 1 ≤ 1000000000 by decide, fun i _ => show 4 ≤ 1000000000 by decide⟩, by decide, fun i hi => absurd hi (Nat.not_lt_zero i)⟩⟩
/-- an entry for Cover of such a list -/
def p4Of (f : Nat → List Dyn.DC) : P2 × P2 × P2 × P2 :=
  match f 0 with
  | [_, _, _, _, _, _, _, _, _, .row _ g, _] => match g 0 with
    | [.row _ p] => match p 0, p 1, p 2, p 3 with
      | [.p (.int _ a), .p (.int _ b)], [.p (.int _ c), .p (.int _ d)], [.p (.int _ e), .p (.int _ f)], [.p (.int _ g), .p (.int _ h)] => (⟨a, b⟩, ⟨c, d⟩, ⟨e, f⟩, ⟨g, h⟩)
      | _, _, _, _ => (ze, ze, ze, ze)
    | _ => (ze, ze, ze, ze)
  | _ => (ze, ze, ze, ze)
def enCovP : List Dyn.LA → Dyn.Lent → Option (Value × List (List Value) × List Prop)
  | [.d (.one (.row n f)), .d u, .d (.one (.p (.int .i64 d))), .lp 0 0], [(t, [.int .i64 most, .int .i64 a])] => match aX u, Nat.beq t 97 with
    | some b, true =>
      let q := p4Of f
      let L := p4L q.1 q.2.1 q.2.2.1 q.2.2.2
      some (exV (coverF most d L b a).lo (coverF most d L b a).hi (coverF most d L b a).e, mtO most (coverF most d L b a).a, [0 ≤ d ∧ d ≤ 6, DLe (.row n f) (.row 1 (p4R q.1 q.2.1 q.2.2.1 q.2.2.2))])
    | _, _ => none
  | _, _ => none
theorem DLe.tr {c d : Dyn.DC} {P : Program} {K : Nat} {v' : Dyn.DV} {l : List Dyn.LA} {lent : Dyn.Lent} {r : Value} {o : List (List Value)} (h : DLe c d) (k : Dyn.CallX P K (.d (.one d) :: .d v' :: l) lent r o) : Dyn.CallX P K (.d (.one c) :: .d v' :: l) lent r o := CallX_d1 (show DVd (.one c) (.one d) from h) (Dyn.DVLe.refl _) k
theorem enCovP_ok : Dyn.EntryXOk Try.prog (31, enCovP) := fun az lent u out ps h hp => by
  dsimp only at h
  unfold enCovP at h
  split at h
  · rename_i n f u' d t most a
    split at h
    · rename_i b hb ht
      have e1 := Nat.eq_of_beq_eq_true ht
      subst e1
      dsimp only at h
      generalize p4Of f = q at h
      simp only [Option.some.injEq, Prod.mk.injEq] at h
      obtain ⟨rfl, rfl, rfl⟩ := h
      have k := cover_ok hp.1.1 hp.1.2 1 (fun _ => partC true (toSh (p4S q.1 q.2.1 q.2.2.1 q.2.2.2))) (PdS_mk (p4_B q.1 q.2.1 q.2.2.1 q.2.2.2)) b most a
      unfold coverE at k
      rw [show ofSh (obX 1 fun _ => partC true (toSh (p4S q.1 q.2.1 q.2.2.1 q.2.2.2))) = p4L q.1 q.2.1 q.2.2.1 q.2.2.2 from ofSh_toSh (p4L q.1 q.2.1 q.2.2.1 q.2.2.2)] at k
      exact DLe.tr hp.2.1 (DLe.tr (p4_le _ _ _ _) (CallX_le2 (Dyn.DVLe.refl _) (aX_eq hb) k))
    · cases h
  · cases h
def drMt (K : Nat) : Bool := Nat.beq K 27 || Nat.beq K 31 || Nat.beq K 26
def tabA23 : Dyn.Tabs := Dyn.nwT (Dyn.tabsX tbF [(28, enUsed)] [(27, enTake), (31, enCovP)] drMt dtyG false) nwM
theorem tabA23_ok : Dyn.TabsOk Try.prog tabA23 := Dyn.nwT_ok (Dyn.tabsX_ok tbF_ok (List.forall_mem_cons.2 ⟨enUsed_ok, fun _ h => by cases h⟩) (List.forall_mem_cons.2 ⟨enTake_ok, List.forall_mem_cons.2 ⟨enCovP_ok, fun _ h => by cases h⟩⟩)) nwM_ok
def gaL : Shp := p4L ⟨-9, -9⟩ ⟨3, -9⟩ ⟨3, 9⟩ ⟨-9, 9⟩
def awR1 : ExR := coverF (capM 100) 1 gaL ⟨0, 0, 4, 4⟩ 0
def awR2 : ExR := coverF (capM 100) 1 gaL ⟨0, 0, 3, 4⟩ awR1.a
theorem awR1_eq : awR1 = ⟨2, 4, 0, 5⟩ := by kernel_rfl
theorem awR2_eq : awR2 = ⟨0, 0, 1, 5⟩ := by unfold awR2; rw [awR1_eq]; kernel_rfl
def gaV (r1 r2 : ExR) : Bool :=
  bif bif bif bif bif bif (bif r1.lo == 2 then bif r1.hi == 4 then true else false else false) then r1.e == 0 else false then r2.e == 1 else false then imin r2.a (capM 100) == 5 else false then decide (W (0 + 1) ≤ capM 1) else false then !(decide (W (W (0 + 1) + 1) ≤ capM 1)) else false then imin (W (W (0 + 1) + 1)) (capM 1) == 1 else false
def gaD : Dyn.DC := .row 1 (p4R ⟨-9, -9⟩ ⟨3, -9⟩ ⟨3, 9⟩ ⟨-9, 9⟩)
def gaO : Dyn.RO := .side [(0 : Int) ≤ 1 ∧ (1 : Int) ≤ 6, DLe gaD gaD] (.side [(0 : Int) ≤ 1 ∧ (1 : Int) ≤ 6, DLe gaD gaD] (.leaf (rB (gaV awR1 awR2))))
theorem ga_O : (Dyn.dfun Try.prog tabA23 Dyn.noLp 8 Try.f29 []).ro Try.prog Try.f29.results = gaO := by kernel_rfl
theorem awake23 : Dyn.CallD Try.prog 29 [] (rB true) :=
  Dyn.dcontract (lp := Dyn.noLp) (fuel := 8) tabA23_ok mo Try.func29 (by kernel_rfl) (c := bodyD Try.f29.body) (by kernel_rfl) (fun w0 => Dyn.noLp_ok _ w0) (by kernel_rfl) ga_O (by
    refine ⟨⟨by decide, .refl _, trivial⟩, ⟨by decide, .refl _, trivial⟩, ?_⟩
    rw [awR1_eq, awR2_eq, show gaV ⟨2, 4, 0, 5⟩ ⟨0, 0, 1, 5⟩ = true by kernel_rfl]
    exact ro_leaf rfl)
end Go.Proofs.Ythnenjodighlmaa

/-! ## Tue -/
namespace Go.Proofs.Ythnenjodighlmaa
open Go Go.RowKit Sym
set_option maxRecDepth 100000

end Go.Proofs.Ythnenjodighlmaa

/-! ## Tuf -/
namespace Go.Proofs.Ythnenjodighlmaa
open Go Go.RowKit Sym
set_option maxRecDepth 100000

end Go.Proofs.Ythnenjodighlmaa

/-! ## Fir -/
namespace Go.Proofs.Ythnenjodighlmaa
open Go Go.RowKit Sym
set_option maxRecDepth 100000

def aroI (p q : P2) (r : Int) : B4 := ⟨imin p.x q.x - r, imin p.y q.y - r, imax p.x q.x + r, imax p.y q.y + r⟩
end Go.Proofs.Ythnenjodighlmaa

/-! ## Bnb -/
namespace Go.Proofs.Ythnenjodighlmaa
open Go Go.RowKit Sym
set_option maxRecDepth 100000

/-! ### the root, rounded up -/
theorem ru_sq {v : Int} (hv : v ≤ 4611686018427387904) : ∀ k, k ≤ ruN v → ruI (foldN (ruG v) ruA k) ∧ v ≤ (foldN (ruG v) ruA k).2 * (foldN (ruG v) ruA k).2 := fun k => by
  induction k with
  | zero => intro _; exact ⟨(⟨by decide, by decide, by decide⟩ : ruI ruA), by show v ≤ 2147483648 * 2147483648; omega⟩
  | succ k ih =>
    intro hk
    have q := ih (by omega)
    have lt := (ru_all v).1 k (by omega)
    have st := ru_step (v := v) q.1 lt
    refine ⟨st.1, ?_⟩
    have m := ruM_eq q.1
    show v ≤ (ruStep v (foldN (ruG v) ruA k)).2 * (ruStep v (foldN (ruG v) ruA k)).2
    generalize foldN (ruG v) ruA k = a at *
    obtain ⟨q1, q2, q3⟩ := q.1
    have bd : ruM a * ruM a ≤ 2147483648 * 2147483648 := Int.mul_le_mul (by omega) (by omega) (by omega) (by decide)
    have nn : 0 ≤ ruM a * ruM a := Int.mul_nonneg (by omega) (by omega)
    unfold ruStep
    rw [W_id (x := ruM a * ruM a) (by omega) (by omega)]
    by_cases h : ruM a * ruM a ≥ v
    · rw [decide_eq_true h]; exact h
    · rw [decide_eq_false h]; exact q.2
theorem rupF_sq {v : Int} (hv : v ≤ 4611686018427387904) : 0 ≤ rupF v ∧ rupF v ≤ 2147483648 ∧ v ≤ rupF v * rupF v := by
  have q := ru_sq hv (ruN v) (Nat.le_refl _)
  have e := (ru_all v).2
  obtain ⟨⟨q1, q2, q3⟩, q4⟩ := q
  have : (foldN (ruG v) ruA (ruN v)).1 = (foldN (ruG v) ruA (ruN v)).2 := by omega
  unfold rupF
  rw [this]
  rw [this] at q1
  exact ⟨q1, q3, q4⟩

/-! ### boxes around points -/
theorem sq_le_abs {e s : Int} (hs : 0 ≤ s) (h : e * e ≤ s * s) : -s ≤ e ∧ e ≤ s := by
  constructor
  · rcases Int.lt_or_le e (-s) with k | k
    · have := Int.mul_le_mul (show s + 1 ≤ -e by omega) (show s + 1 ≤ -e by omega) (by omega) (by omega)
      have e1 : -e * -e = e * e := by grind
      have e2 : (s + 1) * (s + 1) = s * s + 2 * s + 1 := by grind
      omega
    · exact k
  · rcases Int.lt_or_le s e with k | k
    · have := Int.mul_le_mul (show s + 1 ≤ e by omega) (show s + 1 ≤ e by omega) (by omega) (by omega)
      have e2 : (s + 1) * (s + 1) = s * s + 2 * s + 1 := by grind
      omega
    · exact k
theorem imin_le (x y : Int) : imin x y ≤ x ∧ imin x y ≤ y ∧ (imin x y = x ∨ imin x y = y) := by unfold imin; split <;> omega
theorem imax_ge (x y : Int) : x ≤ imax x y ∧ y ≤ imax x y ∧ (imax x y = x ∨ imax x y = y) := by unfold imax; split <;> omega
abbrev FF : Int := 536870912
theorem aro_cut {p q : P2} {r : Int} (hp : PB FF p) (hq : PB FF q) (h0 : 0 ≤ r) (h1 : r ≤ 8589934592) : aroundF p q r = ⟨imax (imin p.x q.x - r) (-FF), imax (imin p.y q.y - r) (-FF), imin (imax p.x q.x + r) FF, imin (imax p.y q.y + r) FF⟩ := by
  obtain ⟨⟨p1, p2⟩, p3, p4⟩ := hp
  obtain ⟨⟨q1, q2⟩, q3, q4⟩ := hq
  have e1 := imin_le p.x q.x
  have e2 := imin_le p.y q.y
  have e3 := imax_ge p.x q.x
  have e4 := imax_ge p.y q.y
  unfold aroundF
  generalize imin p.x q.x = a at *
  generalize imin p.y q.y = b at *
  generalize imax p.x q.x = c at *
  generalize imax p.y q.y = d at *
  unfold FF at *
  rw [W_id (x := a - r) (by omega) (by omega), W_id (x := b - r) (by omega) (by omega), W_id (x := c + r) (by omega) (by omega), W_id (x := d + r) (by omega) (by omega)]
theorem aro_has {p q z : P2} {r : Int} (hp : PB FF p) (hq : PB FF q) (h0 : 0 ≤ r) (h1 : r ≤ 8589934592) (hz : PB FF z) : hasI (aroundF p q r) z ↔ hasI (aroI p q r) z := by
  rw [aro_cut hp hq h0 h1]
  obtain ⟨⟨z1, z2⟩, z3, z4⟩ := hz
  unfold hasI aroI
  dsimp only
  generalize imin p.x q.x = a
  generalize imin p.y q.y = b
  generalize imax p.x q.x = c
  generalize imax p.y q.y = d
  have e1 := imax_ge (a - r) (-FF)
  have e2 := imax_ge (b - r) (-FF)
  have e3 := imin_le (c + r) FF
  have e4 := imin_le (d + r) FF
  unfold FF at *
  omega
theorem aro_fits {p q : P2} {r : Int} (hp : PB FF p) (hq : PB FF q) (h0 : 0 ≤ r) (h1 : r ≤ 8589934592) : Fits (aroundF p q r) := by
  rw [aro_cut hp hq h0 h1]
  obtain ⟨⟨p1, p2⟩, p3, p4⟩ := hp
  obtain ⟨⟨q1, q2⟩, q3, q4⟩ := hq
  have e1 := imin_le p.x q.x
  have e2 := imin_le p.y q.y
  have e3 := imax_ge p.x q.x
  have e4 := imax_ge p.y q.y
  generalize imin p.x q.x = a at *
  generalize imin p.y q.y = b at *
  generalize imax p.x q.x = c at *
  generalize imax p.y q.y = d at *
  have f1 := imax_ge (a - r) (-FF)
  have f2 := imax_ge (b - r) (-FF)
  have f3 := imin_le (c + r) FF
  have f4 := imin_le (d + r) FF
  unfold FF at *
  constructor <;> dsimp only <;> omega
/-- no point in common -/
def Off (U b : B4) : Prop := U.x1 < b.x0 ∨ b.x1 < U.x0 ∨ U.y1 < b.y0 ∨ b.y1 < U.y0
theorem aro_off {p q : P2} {b : B4} {r : Int} (hp : PB FF p) (hq : PB FF q) (h0 : 0 ≤ r) (h1 : r ≤ 8589934592) (hb : Fits b) (h : Off (aroundF p q r) b) : Off (aroI p q r) b := by
  rw [aro_cut hp hq h0 h1] at h
  obtain ⟨b1, b2, b3, b4, b5, b6⟩ := hb
  unfold Off aroI at *
  dsimp only at *
  generalize imin p.x q.x = a at *
  generalize imin p.y q.y = b' at *
  generalize imax p.x q.x = c at *
  generalize imax p.y q.y = d at *
  have f1 := imax_ge (a - r) (-FF)
  have f2 := imax_ge (b' - r) (-FF)
  have f3 := imin_le (c + r) FF
  have f4 := imin_le (d + r) FF
  unfold FF at *
  omega
theorem off_has {U b : B4} {z : P2} (h : Off U b) (hb : hasI b z) : ¬ hasI U z := by
  unfold Off hasI at *
  omega

/-! ### discs, strokes, bars -/
theorem dist_box {p c : P2} {r : Int} (h0 : 0 ≤ r) (h : distI p c ≤ r * r) : hasI (aroI c c r) p := by
  have s1 := sq_nn (p.x - c.x)
  have s2 := sq_nn (p.y - c.y)
  unfold distI at h
  have a1 := sq_le_abs (e := p.x - c.x) h0 (by omega)
  have a2 := sq_le_abs (e := p.y - c.y) h0 (by omega)
  have e1 := imin_le c.x c.x
  have e2 := imin_le c.y c.y
  have e3 := imax_ge c.x c.x
  have e4 := imax_ge c.y c.y
  unfold hasI aroI
  dsimp only
  omega
theorem seg_lo {n m px ax cx r lo : Int} (n0 : 0 < n) (m0 : 0 ≤ m) (mn : m ≤ n) (hr : 0 ≤ r) (he : (n * (px - ax) - m * (cx - ax)) * (n * (px - ax) - m * (cx - ax)) ≤ n * n * (r * r)) (h1 : lo ≤ ax) (h2 : lo ≤ cx) : lo - r ≤ px := by
  have e1 : n * n * (r * r) = (n * r) * (n * r) := by grind
  rw [e1] at he
  have a1 := (sq_le_abs (Int.mul_nonneg (by omega) hr) he).1
  have k1 : (n - m) * lo ≤ (n - m) * ax := Int.mul_le_mul_of_nonneg_left h1 (by omega)
  have k2 : m * lo ≤ m * cx := Int.mul_le_mul_of_nonneg_left h2 m0
  have e2 : n * (px - ax) - m * (cx - ax) = n * px - ((n - m) * ax + m * cx) := by grind
  have e3 : (n - m) * lo + m * lo = n * lo := by grind
  have e4 : n * (lo - r) = n * lo - n * r := by grind
  exact Int.le_of_mul_le_mul_left (show n * (lo - r) ≤ n * px by omega) n0
theorem seg_hi {n m px ax cx r hi : Int} (n0 : 0 < n) (m0 : 0 ≤ m) (mn : m ≤ n) (hr : 0 ≤ r) (he : (n * (px - ax) - m * (cx - ax)) * (n * (px - ax) - m * (cx - ax)) ≤ n * n * (r * r)) (h1 : ax ≤ hi) (h2 : cx ≤ hi) : px ≤ hi + r := by
  have := seg_lo (px := -px) (ax := -ax) (cx := -cx) (lo := -hi) n0 m0 mn hr (by
    have e : n * (-px - -ax) - m * (-cx - -ax) = -(n * (px - ax) - m * (cx - ax)) := by grind
    rw [e]
    have e2 : -(n * (px - ax) - m * (cx - ax)) * -(n * (px - ax) - m * (cx - ax)) = (n * (px - ax) - m * (cx - ax)) * (n * (px - ax) - m * (cx - ax)) := by grind
    rw [e2]; exact he) (by omega) (by omega)
  omega
theorem onS_box {p a c : P2} {r : Int} (h0 : 0 ≤ r) (h : OnS p a c (r * r)) : hasI (aroI a c r) p := by
  obtain ⟨m, n, n0, m0, mn, hd⟩ := h
  have s1 := sq_nn (n * (p.x - a.x) - m * (c.x - a.x))
  have s2 := sq_nn (n * (p.y - a.y) - m * (c.y - a.y))
  have e1 := imin_le a.x c.x
  have e2 := imin_le a.y c.y
  have e3 := imax_ge a.x c.x
  have e4 := imax_ge a.y c.y
  exact ⟨seg_lo n0 m0 mn h0 (by omega) e1.1 e1.2.1, seg_hi n0 m0 mn h0 (by omega) e3.1 e3.2.1, seg_lo n0 m0 mn h0 (by omega) e2.1 e2.2.1, seg_hi n0 m0 mn h0 (by omega) e4.1 e4.2.1⟩
theorem bar_line {p a c : P2} {r : Int} (h : barI p a c r = true) : lineI p a c r = true := by
  unfold barI at h
  simp only [Bool.and_eq_true, Bool.not_eq_true', decide_eq_true_eq, decide_eq_false_iff_not] at h
  obtain ⟨⟨⟨⟨hs, h1⟩, hc⟩, hd0⟩, hd1⟩ := h
  have hall : 0 < distI a c := by
    have := dist_nn a c
    have := (not_congr (dist_pos a c)).2 hs
    omega
  have l1 := lagrange a c p
  have l2 := lagrange2 a c p
  have hc' := hc
  unfold clear at hc
  rw [decide_eq_true_eq] at hc
  unfold lineI
  by_cases k : dotI a c p ≤ 0
  · rw [if_pos k, decide_eq_true_eq]
    have z : dotI a c p = 0 := by omega
    rw [z] at l1
    have e : r * r * distI a c = distI a c * (r * r) := by grind
    exact Int.le_of_mul_le_mul_left (show distI a c * distI p a ≤ distI a c * (r * r) by omega) hall
  · rw [if_neg k]
    by_cases k2 : dotI a c p ≥ distI a c
    · rw [if_pos k2, decide_eq_true_eq]
      have z : dotI a c p - distI a c = 0 := by omega
      rw [z] at l2
      have e : r * r * distI a c = distI a c * (r * r) := by grind
      exact Int.le_of_mul_le_mul_left (show distI a c * distI p c ≤ distI a c * (r * r) by omega) hall
    · rw [if_neg k2]; exact hc'
/-- the nearest point of a box that is off is off -/
theorem near_off {b : B4} {a c q : P2} {r : Int} (hx : b.x0 ≤ b.x1) (hy : b.y0 ≤ b.y1) (h0 : 0 ≤ r) (ho : Off (aroI a c r) b) (hq : q = a ∨ q = c) : r * r < nearI b q := by
  rcases Int.lt_or_le (r * r) (nearI b q) with k | k
  · exact k
  · rw [near_nearest hx hy] at k
    have hb : hasI b (nearest b q) := by
      unfold nearest hasI
      dsimp only
      omega
    have := dist_box h0 k
    refine absurd ?_ (off_has ho hb)
    have e1 := imin_le a.x c.x
    have e2 := imin_le a.y c.y
    have e3 := imax_ge a.x c.x
    have e4 := imax_ge a.y c.y
    have f1 := imin_le q.x q.x
    have f2 := imin_le q.y q.y
    have f3 := imax_ge q.x q.x
    have f4 := imax_ge q.y q.y
    unfold hasI aroI at *
    dsimp only at *
    rcases hq with rfl | rfl <;> omega
theorem line_off {b : B4} {a c : P2} {r : Int} (hx : b.x0 ≤ b.x1) (hy : b.y0 ≤ b.y1) (h0 : 0 ≤ r) (ho : Off (aroI a c r) b) : lineCl b a c r = 0 := by
  have none : ∀ k, isC b k → lineI k a c r = false := fun k hk => by
    cases h : lineI k a c r with
    | false => rfl
    | true => exact absurd (onS_box h0 (lineI_iff.1 h)) (off_has ho (isC_has hx hy hk))
  have c0 : lineI ⟨b.x0, b.y0⟩ a c r = false := none _ ⟨.inl rfl, .inl rfl⟩
  unfold lineCl
  have h4 : all4 (fun q => lineI q a c r) b = false := by
    unfold all4
    dsimp only
    rw [c0]; rfl
  have h5 : any4 (fun q => lineI q a c r) b = false := by
    rw [Bool.eq_false_iff]
    intro h
    obtain ⟨k, hk, h⟩ := any4_iff.1 h
    rw [none k hk] at h; cases h
  have h6 := near_off (q := a) hx hy h0 ho (.inl rfl)
  have h7 := near_off (q := c) hx hy h0 ho (.inr rfl)
  have h8 : meetsI b a c = false := by
    unfold meetsI sepI
    have e1 := imin_le a.x c.x
    have e2 := imin_le a.y c.y
    have e3 := imax_ge a.x c.x
    have e4 := imax_ge a.y c.y
    have : decide (max a.x c.x < b.x0) = true ∨ decide (min a.x c.x > b.x1) = true ∨ decide (max a.y c.y < b.y0) = true ∨ decide (min a.y c.y > b.y1) = true := by
      simp only [decide_eq_true_eq]
      unfold Off aroI at ho
      dsimp only at ho
      omega
    rcases this with h | h | h | h <;> rw [h] <;> simp
  rw [h4, h5, h8, decide_eq_false (by omega), decide_eq_false (by omega)]
  rfl
end Go.Proofs.Ythnenjodighlmaa

/-! ## Rio -/
namespace Go.Proofs.Ythnenjodighlmaa
open Go Go.RowKit Sym
set_option maxRecDepth 100000

/-- who is in the disc around a point of the circle is neither too near nor too far -/
theorem disc_ring {p c e : P2} {r : Int} (h : distI p e ≤ r * r) : outI (distI p c) (distI e c) r = true ∧ insI (distI p c) (distI e c) r = true := by
  have hp : ∃ px, px = p.x - c.x := ⟨_, rfl⟩
  have hp' : ∃ py, py = p.y - c.y := ⟨_, rfl⟩
  have hq : ∃ qx, qx = p.x - e.x := ⟨_, rfl⟩
  have hq' : ∃ qy, qy = p.y - e.y := ⟨_, rfl⟩
  obtain ⟨px, epx⟩ := hp; obtain ⟨py, epy⟩ := hp'; obtain ⟨qx, eqx⟩ := hq; obtain ⟨qy, eqy⟩ := hq'
  have d : distI p c = px * px + py * py := by unfold distI; rw [← epx, ← epy]
  have s : distI p e = qx * qx + qy * qy := by unfold distI; rw [← eqx, ← eqy]
  have rr : distI e c = (px - qx) * (px - qx) + (py - qy) * (py - qy) := by
    unfold distI
    have e1 : e.x - c.x = px - qx := by omega
    have e2 : e.y - c.y = py - qy := by omega
    rw [e1, e2]
  rw [s] at h
  rw [d, rr]
  clear d s rr epx epy eqx eqy
  have hs : 0 ≤ qx * qx + qy * qy := by have := sq_nn qx; have := sq_nn qy; omega
  -- the inequality of Cauchy
  have cs : ∀ u v : Int, (u * qx + v * qy) * (u * qx + v * qy) ≤ (u * u + v * v) * (r * r) := fun u v => by
    have a : (u * u + v * v) * (qx * qx + qy * qy) = (u * qx + v * qy) * (u * qx + v * qy) + (u * qy - v * qx) * (u * qy - v * qx) := by grind
    have b := sq_nn (u * qy - v * qx)
    have n : 0 ≤ u * u + v * v := by have := sq_nn u; have := sq_nn v; omega
    have m := Int.mul_le_mul_of_nonneg_left h n
    omega
  constructor
  · unfold outI; rw [decide_eq_true_eq]
    by_cases k : (px - qx) * (px - qx) + (py - qy) * (py - qy) - r * r - (px * px + py * py) ≤ 0
    · exact .inl k
    · refine .inr ?_
      have c1 := cs px py
      have l : (px - qx) * (px - qx) + (py - qy) * (py - qy) - r * r - (px * px + py * py) ≤ -2 * (px * qx + py * qy) := by
        have : (px - qx) * (px - qx) + (py - qy) * (py - qy) - (px * px + py * py) = -2 * (px * qx + py * qy) + (qx * qx + qy * qy) := by grind
        omega
      have q := sq_le (x := (px - qx) * (px - qx) + (py - qy) * (py - qy) - r * r - (px * px + py * py)) (y := -2 * (px * qx + py * qy)) (by omega) l
      have e1 : -2 * (px * qx + py * qy) * (-2 * (px * qx + py * qy)) = 4 * ((px * qx + py * qy) * (px * qx + py * qy)) := by grind
      have e2 : 4 * (px * px + py * py) * (r * r) = 4 * ((px * px + py * py) * (r * r)) := by grind
      omega
  · unfold insI; rw [decide_eq_true_eq]
    by_cases k : px * px + py * py - ((px - qx) * (px - qx) + (py - qy) * (py - qy)) - r * r ≤ 0
    · exact .inl k
    · refine .inr ?_
      have c1 := cs (px - qx) (py - qy)
      have l : px * px + py * py - ((px - qx) * (px - qx) + (py - qy) * (py - qy)) - r * r ≤ 2 * ((px - qx) * qx + (py - qy) * qy) := by
        have : px * px + py * py - ((px - qx) * (px - qx) + (py - qy) * (py - qy)) = 2 * ((px - qx) * qx + (py - qy) * qy) + (qx * qx + qy * qy) := by grind
        omega
      have q := sq_le (x := px * px + py * py - ((px - qx) * (px - qx) + (py - qy) * (py - qy)) - r * r) (y := 2 * ((px - qx) * qx + (py - qy) * qy)) (by omega) l
      have e1 : 2 * ((px - qx) * qx + (py - qy) * qy) * (2 * ((px - qx) * qx + (py - qy) * qy)) = 4 * (((px - qx) * qx + (py - qy) * qy) * ((px - qx) * qx + (py - qy) * qy)) := by grind
      have e2 : 4 * ((px - qx) * (px - qx) + (py - qy) * (py - qy)) * (r * r) = 4 * (((px - qx) * (px - qx) + (py - qy) * (py - qy)) * (r * r)) := by grind
      omega
end Go.Proofs.Ythnenjodighlmaa

/-! ## Bnc -/
namespace Go.Proofs.Ythnenjodighlmaa
open Go Go.RowKit Sym
set_option maxRecDepth 100000

/-! ### rings -/
theorem ins_le {d rr r R : Int} (hR : 0 ≤ R) (hr : 0 ≤ r) (h : rr ≤ R * R) (h0 : 0 ≤ rr) (k : insI d rr r = true) : d ≤ (R + r) * (R + r) := by
  unfold insI at k
  rw [decide_eq_true_eq] at k
  have e : (R + r) * (R + r) = R * R + 2 * (R * r) + r * r := by grind
  have n1 : 0 ≤ R * r := Int.mul_nonneg hR hr
  rcases k with k | k
  · omega
  · have m : 4 * rr * (r * r) ≤ (2 * (R * r)) * (2 * (R * r)) := by
      have e2 : (2 * (R * r)) * (2 * (R * r)) = 4 * (R * R) * (r * r) := by grind
      rw [e2]
      exact Int.mul_le_mul_of_nonneg_right (by omega) (Int.mul_nonneg hr hr)
    have := (sq_le_abs (e := d - rr - r * r) (s := 2 * (R * r)) (by omega) (by omega)).2
    omega
theorem ring_d {p c a e : P2} {r R : Int} (ok : okI c a e) (hR : 0 ≤ R) (hr : 0 ≤ r) (h : distI a c ≤ R * R) (k : ringI p c a e r = true) : distI p c ≤ (R + r) * (R + r) := by
  have h0 := dist_nn a c
  unfold ringI at k
  rw [Bool.or_eq_true, Bool.or_eq_true, decide_eq_true_eq, decide_eq_true_eq, Bool.and_eq_true] at k
  rcases k with (k | k) | k
  · exact ins_le hR hr h h0 (disc_ring k).2
  · exact ins_le hR hr h h0 (by rw [ok.2]; exact (disc_ring k).2)
  · exact ins_le hR hr h h0 k.2
theorem near_le2 {b : B4} {q c : P2} (hx : b.x0 ≤ b.x1) (hy : b.y0 ≤ b.y1) (h : hasI b q) : nearI b c ≤ distI q c := by
  obtain ⟨h1, h2, h3, h4⟩ := h
  have g : ∀ {v lo hi w : Int}, lo ≤ w → w ≤ hi → gapI v lo hi * gapI v lo hi ≤ (w - v) * (w - v) := fun {v lo hi w} a b => by
    unfold gapI
    split
    · exact Int.mul_le_mul (by omega) (by omega) (by omega) (by omega)
    · split
      · have e : (w - v) * (w - v) = (v - w) * (v - w) := by grind
        rw [e]
        exact Int.mul_le_mul (by omega) (by omega) (by omega) (by omega)
      · have := sq_nn (w - v); omega
  unfold nearI distI
  have := g (v := c.x) h1 h2
  have := g (v := c.y) h3 h4
  omega
theorem ring_off {b : B4} {c a e : P2} {r R : Int} (hx : b.x0 ≤ b.x1) (hy : b.y0 ≤ b.y1) (ok : okI c a e) (hR : 0 ≤ R) (hr : 0 ≤ r) (h : distI a c ≤ R * R) (ho : Off (aroI c c (R + r)) b) : ringCl b c a e r = 0 := by
  have h0 := dist_nn a c
  have far := near_off (q := c) hx hy (show 0 ≤ R + r by omega) ho (.inl rfl)
  have hm := near_most (b := b) (p := c) hx hy
  have i1 : insI (nearI b c) (distI a c) r = false := by
    cases k : insI (nearI b c) (distI a c) r with
    | false => rfl
    | true => have := ins_le hR hr h h0 k; omega
  have i2 : insI (mostI b c) (distI a c) r = false := by
    cases k : insI (mostI b c) (distI a c) r with
    | false => rfl
    | true => have := ins_le hR hr h h0 k; omega
  have n : ∀ q, distI q c = distI a c → r * r < nearI b q := fun q hq => by
    rcases Int.lt_or_le (r * r) (nearI b q) with k | k
    · exact k
    · rw [near_nearest hx hy] at k
      have hb : hasI b (nearest b q) := by
        unfold nearest hasI
        dsimp only
        omega
      have h1 := ins_le hR hr h h0 (hq ▸ (disc_ring k).2)
      have h2 := near_le2 (c := c) hx hy hb
      omega
  have n1 := n a rfl
  have n2 := n e ok.2.symm
  have m1 := near_most (b := b) (p := a) hx hy
  have m2 := near_most (b := b) (p := e) hx hy
  unfold ringCl
  rw [if_neg (by omega), i1, i2, if_neg (by simp), if_neg (by omega), if_pos (by simp)]

/-! ### contours -/
/-- all points of contours lie in a box -/
def InC (U : B4) (l : Ctr) : Prop := ∀ i, i < l.n → ∀ k, k < l.m i → hasI U (l.p i k)
theorem odd_none {l : Ctr} {p : P2} (h : ∀ i, i < l.n → ∀ k, k < l.m i → crossesI p (l.p i k) (l.p i (nxt (l.m i) k)) = false) : oddI p l = false := by
  unfold oddI
  rw [parN_congr (g := fun _ => false) fun i hi => ?_, parN_false]
  rw [parN_congr (f := edgeC l (crossesI p) i) (g := fun _ => false) fun k hk => h i hi k hk, parN_false]
theorem odd_ver {l : Ctr} {U : B4} {p : P2} (h : InC U l) (hp : p.y < U.y0 ∨ U.y1 ≤ p.y) : oddI p l = false := odd_none fun i hi k hk => by
  have a := h i hi k hk
  have e := h i hi _ (nxt_lt hk)
  unfold crossesI hasI at *
  rcases hp with hp | hp
  · rw [decide_eq_true (show (l.p i k).y > p.y by omega), decide_eq_true (show (l.p i (nxt (l.m i) k)).y > p.y by omega)]; rfl
  · rw [decide_eq_false (show ¬ (l.p i k).y > p.y by omega), decide_eq_false (show ¬ (l.p i (nxt (l.m i) k)).y > p.y by omega)]; rfl
theorem sep_off {b U : B4} {a e : P2} (h : Off U b) (ha : hasI U a) (he : hasI U e) : meetsI b a e = false := by
  unfold meetsI sepI
  have : decide (max a.x e.x < b.x0) = true ∨ decide (min a.x e.x > b.x1) = true ∨ decide (max a.y e.y < b.y0) = true ∨ decide (min a.y e.y > b.y1) = true := by
    simp only [decide_eq_true_eq]
    unfold Off hasI at *
    omega
  rcases this with h | h | h | h <;> rw [h] <;> simp
theorem touch_off {b U : B4} {l : Ctr} (h : Off U b) (hl : InC U l) : touchI b l = false := by
  rw [Bool.eq_false_iff]
  intro hq
  obtain ⟨i, hi, hq⟩ := anyN_iff.1 hq
  obtain ⟨k, hk, hq⟩ := anyN_iff.1 hq
  unfold edgeC at hq
  rw [sep_off h (hl i hi k hk) (hl i hi _ (nxt_lt hk))] at hq
  cases hq
theorem odd_off {l : Ctr} {U : B4} {p : P2} (h : InC U l) (hp : ¬ hasI U p) : oddI p l = false := by
  by_cases hy : p.y < U.y0 ∨ U.y1 ≤ p.y
  · exact odd_ver h hy
  · have hb : Off U ⟨p.x, p.y, p.x, U.y1⟩ := by
      unfold hasI at hp
      unfold Off
      dsimp only
      omega
    have e := odd_box (p := p) (q := ⟨p.x, U.y1⟩) (touch_off hb h) ⟨Int.le_refl _, Int.le_refl _, Int.le_refl _, by show p.y ≤ U.y1; omega⟩ ⟨Int.le_refl _, Int.le_refl _, by show p.y ≤ U.y1; omega, Int.le_refl _⟩
    rw [e]
    exact odd_ver h (.inr (Int.le_refl _))
theorem spot_off {U : B4} {p : P2} (hp : ¬ hasI U p) : Off U (spotB p) := by
  unfold Off spotB hasI at *
  dsimp only
  omega
theorem poly_has {l : Ctr} {U : B4} {p : P2} (hl : PRC l) (hp : PR p) (h : InC U l) (k : polyHasF p l = true) : hasI U p := by
  by_cases hn : hasI U p
  · exact hn
  · unfold polyHasF at k
    rw [touchF_eq (b := spotF p) ⟨hp.x, hp.y, hp.x, hp.y⟩ (Int.le_refl _) (Int.le_refl _) hl, oddF_eq hp hl, odd_off h hn, show touchI (spotF p) l = false from touch_off (spot_off hn) h] at k
    cases k
theorem poly_off {l : Ctr} {U b : B4} (hl : PRC l) (hb : BR b) (hx : b.x0 ≤ b.x1) (hy : b.y0 ≤ b.y1) (h : InC U l) (ho : Off U b) : polyClassF b l = 0 := by
  have hC : hasI b ⟨b.x0, b.y0⟩ := ⟨Int.le_refl _, hx, Int.le_refl _, hy⟩
  unfold polyClassF
  rw [touchF_eq hb hx hy hl, oddF_eq (PR_of_has hb hC) hl, touch_off ho h, odd_off h (off_has ho hC), (boxHas_eq b ⟨b.x0, b.y0⟩).2 hC]
  rfl
theorem poly_no {l : Ctr} {b : B4} (hl : PRC l) (hb : BR b) (hx : b.x0 ≤ b.x1) (hy : b.y0 ≤ b.y1) (h : ∀ i, i < l.n → l.m i = 0) : polyClassF b l = 0 :=
  poly_off (U := ⟨b.x1 + 1, b.y0, b.x1 + 1, b.y1⟩) hl hb hx hy (fun i hi k hk => by rw [h i hi] at hk; omega) (.inr (.inl (by dsimp only; omega)))

/-! ### bounds that are put together -/
structure In4 (a U : B4) : Prop where
  x0 : U.x0 ≤ a.x0
  y0 : U.y0 ≤ a.y0
  x1 : a.x1 ≤ U.x1
  y1 : a.y1 ≤ U.y1
theorem In4.has {a U : B4} {p : P2} (h : In4 a U) (k : hasI a p) : hasI U p := by
  obtain ⟨h1, h2, h3, h4⟩ := h
  unfold hasI at *
  omega
theorem tk_in (f : Bool) (a b : B4) : In4 b (tkF f a b) ∧ (f = true → In4 a (tkF f a b)) := by
  have e1 := imin_le a.x0 b.x0
  have e2 := imin_le a.y0 b.y0
  have e3 := imax_ge a.x1 b.x1
  have e4 := imax_ge a.y1 b.y1
  cases f with
  | false => exact ⟨⟨Int.le_refl _, Int.le_refl _, Int.le_refl _, Int.le_refl _⟩, fun h => by cases h⟩
  | true => exact ⟨⟨e1.2.1, e2.2.1, e3.2.1, e4.2.1⟩, fun _ => ⟨e1.1, e2.1, e3.1, e4.1⟩⟩
theorem tk_fits {f : Bool} {a b : B4} (hb : Fits b) (ha : f = true → Fits a) : Fits (tkF f a b) := by
  cases f with
  | false => exact ⟨hb.x0, hb.x, hb.x1, hb.y0, hb.y, hb.y1⟩
  | true =>
    obtain ⟨a1, a2, a3, a4, a5, a6⟩ := ha rfl
    obtain ⟨b1, b2, b3, b4, b5, b6⟩ := hb
    have e1 := imin_le a.x0 b.x0
    have e2 := imin_le a.y0 b.y0
    have e3 := imax_ge a.x1 b.x1
    have e4 := imax_ge a.y1 b.y1
    unfold tkF
    constructor <;> simp only [cond_true] <;> omega
/-- it has been told, and holds a box -/
def Cov (q : Bool × B4) (b : B4) : Prop := q.1 = true ∧ In4 b q.2
def Gd (q : Bool × B4) : Prop := q.1 = true → Fits q.2
theorem In4.trans {a b c : B4} (h : In4 a b) (k : In4 b c) : In4 a c := ⟨Int.le_trans k.x0 h.x0, Int.le_trans k.y0 h.y0, Int.le_trans h.x1 k.x1, Int.le_trans h.y1 k.y1⟩
theorem cov_tk {q : Bool × B4} (b : B4) : Cov (true, tkF q.1 q.2 b) b ∧ ∀ c, Cov q c → Cov (true, tkF q.1 q.2 b) c :=
  ⟨⟨rfl, (tk_in q.1 q.2 b).1⟩, fun c h => ⟨rfl, h.2.trans ((tk_in q.1 q.2 b).2 h.1)⟩⟩
theorem foldN_keep {g : Nat → Bool × B4 → Bool × B4} {n : Nat} (hg : ∀ i q c, i < n → Cov q c → Cov (g i q) c) {a : Bool × B4} {c : B4} (h : Cov a c) : Cov (foldN g a n) c := by
  induction n with
  | zero => exact h
  | succ n ih => exact hg n _ c (Nat.lt_succ_self n) (ih fun i q c hi => hg i q c (by omega))
theorem foldN_cov {g : Nat → Bool × B4 → Bool × B4} {n : Nat} (hg : ∀ i q c, i < n → Cov q c → Cov (g i q) c) {i : Nat} (hi : i < n) {b : B4} (h : ∀ q, Cov (g i q) b) (a : Bool × B4) : Cov (foldN g a n) b := by
  induction n with
  | zero => omega
  | succ n ih =>
    show Cov (g n (foldN g a n)) b
    by_cases e : i = n
    · subst e; exact h _
    · exact hg n _ b (Nat.lt_succ_self n) (ih (fun i q c hi => hg i q c (by omega)) (by omega))
theorem foldN_gd {g : Nat → Bool × B4 → Bool × B4} {n : Nat} (hg : ∀ i q, i < n → Gd q → Gd (g i q)) {a : Bool × B4} (h : Gd a) : Gd (foldN g a n) := by
  induction n with
  | zero => exact h
  | succ n ih => exact hg n _ (Nat.lt_succ_self n) (ih fun i q hi => hg i q (by omega))
theorem spot_aro {p : P2} (h : PB FF p) : hasI (aroundF p p 0) p := (aro_has h h (by omega) (by omega) h).2 (dist_box (by omega) (by unfold distI; grind))
end Go.Proofs.Ythnenjodighlmaa

/-! ## Bnd -/
namespace Go.Proofs.Ythnenjodighlmaa
open Go Go.RowKit Sym
set_option maxRecDepth 100000

theorem PB_F {B : Int} (hB : B ≤ FF) {p : P2} (h : PB B p) : PB FF p := by
  obtain ⟨⟨h1, h2⟩, h3, h4⟩ := h
  unfold FF at *
  exact ⟨⟨by omega, by omega⟩, by omega, by omega⟩
theorem PB_R {p : P2} (h : PB FF p) : PR p := near_PR (PB_near (Int.le_refl _) h)
theorem dist_far {a c : P2} (ha : PB FF a) (hc : PB FF c) : distI a c ≤ 2305843009213693952 := by
  obtain ⟨⟨a1, a2⟩, a3, a4⟩ := ha
  obtain ⟨⟨c1, c2⟩, c3, c4⟩ := hc
  unfold FF at *
  have g : ∀ x : Int, -1073741824 ≤ x → x ≤ 1073741824 → x * x ≤ 1152921504606846976 := fun x h1 h2 => by
    rcases Int.le_total 0 x with h | h
    · exact Int.mul_le_mul h2 h2 h (by decide)
    · have := Int.mul_le_mul (show -x ≤ 1073741824 by omega) (show -x ≤ 1073741824 by omega) (by omega) (by decide)
      have e : -x * -x = x * x := by grind
      omega
  have := g (a.x - c.x) (by omega) (by omega)
  have := g (a.y - c.y) (by omega) (by omega)
  unfold distI
  omega
theorem most_far2 {b : B4} {c : P2} (hb : Fits b) (hc : PB FF c) : mostI b c ≤ 4000000000000000000 := by
  rw [most_corner hb.x hb.y]
  obtain ⟨b1, b2, b3, b4, b5, b6⟩ := hb
  have g : ∀ q : P2, PB FF q → distI q c ≤ 2305843009213693952 := fun q hq => dist_far hq hc
  have k1 := g ⟨b.x0, b.y0⟩ ⟨⟨by unfold FF; dsimp only; omega, by unfold FF; dsimp only; omega⟩, by unfold FF; dsimp only; omega, by unfold FF; dsimp only; omega⟩
  have k2 := g ⟨b.x1, b.y0⟩ ⟨⟨by unfold FF; dsimp only; omega, by unfold FF; dsimp only; omega⟩, by unfold FF; dsimp only; omega, by unfold FF; dsimp only; omega⟩
  have k3 := g ⟨b.x0, b.y1⟩ ⟨⟨by unfold FF; dsimp only; omega, by unfold FF; dsimp only; omega⟩, by unfold FF; dsimp only; omega, by unfold FF; dsimp only; omega⟩
  have k4 := g ⟨b.x1, b.y1⟩ ⟨⟨by unfold FF; dsimp only; omega, by unfold FF; dsimp only; omega⟩, by unfold FF; dsimp only; omega, by unfold FF; dsimp only; omega⟩
  omega
theorem bdR_far {s : Sh} (ha : PB FF s.a) (hc : PB FF s.c) (hr : 1 ≤ s.r ∧ s.r ≤ FF) : bdR s = s.r + rupF (distI s.a s.c) := by
  have hd := dist_far ha hc
  have q := rupF_sq (v := distI s.a s.c) (by omega)
  obtain ⟨⟨a1, a2⟩, a3, a4⟩ := ha
  obtain ⟨⟨c1, c2⟩, c3, c4⟩ := hc
  unfold FF at *
  unfold bdR
  have s1 := sq_nn (s.a.x - s.c.x)
  have s2 := sq_nn (s.a.y - s.c.y)
  have e : (s.a.x - s.c.x) * (s.a.x - s.c.x) + (s.a.y - s.c.y) * (s.a.y - s.c.y) = distI s.a s.c := rfl
  rw [W_id (x := s.a.x - s.c.x) (by omega) (by omega), W_id (x := s.a.y - s.c.y) (by omega) (by omega), W_id (x := (s.a.x - s.c.x) * (s.a.x - s.c.x)) (by omega) (by omega), W_id (x := (s.a.y - s.c.y) * (s.a.y - s.c.y)) (by omega) (by omega), e, W_id (x := distI s.a s.c) (by omega) (by omega)]
  exact W_id (by omega) (by omega)
theorem hasN_true {g add : Nat → Bool} : ∀ {n : Nat}, foldN (hasN g add) false n = true → ∃ i, i < n ∧ g i = true ∧ add i = true
  | 0, h => by cases h
  | n + 1, h => by
    have h' : hasN g add n (foldN (hasN g add) false n) = true := h
    unfold hasN at h'
    cases hg : g n with
    | true => rw [hg] at h'; exact ⟨n, Nat.lt_succ_self n, hg, h'⟩
    | false =>
      rw [hg] at h'
      obtain ⟨i, hi, h1, h2⟩ := hasN_true (n := n) h'
      exact ⟨i, by omega, h1, h2⟩

/-! ### the points of contours, one box after the other -/
theorem ctr_keep {l : Ctr} {i : Nat} (q : Bool × B4) (c : B4) (h : Cov q c) : Cov (bdO l i q) c := foldN_keep (g := bdI l i) (fun k q c _ h => (cov_tk _).2 c h) h
theorem ctr_cov {l : Ctr} {P : P2 → Prop} (hP : ∀ p, P p → PB FF p) (h : FinC P l) : InC (foldN (bdO l) bdQ l.n).2 l ∧ ((∃ i k, i < l.n ∧ k < l.m i) → (foldN (bdO l) bdQ l.n).1 = true) := by
  have key : ∀ i k, i < l.n → k < l.m i → Cov (foldN (bdO l) bdQ l.n) (aroundF (l.p i k) (l.p i k) 0) := fun i k hi hk =>
    foldN_cov (g := bdO l) (fun i q c _ h => ctr_keep q c h) hi (fun q => foldN_cov (g := bdI l i) (fun k q c _ h => (cov_tk _).2 c h) hk (fun q => (cov_tk _).1) q) bdQ
  refine ⟨fun i hi k hk => (key i k hi hk).2.has (spot_aro (hP _ ((h.2 i hi).2 k hk))), fun ⟨i, k, hi, hk⟩ => (key i k hi hk).1⟩
theorem ctr_gd {l : Ctr} {P : P2 → Prop} (hP : ∀ p, P p → PB FF p) (h : FinC P l) : Gd (foldN (bdO l) bdQ l.n) :=
  foldN_gd (g := bdO l) (fun i q hi hq => foldN_gd (g := bdI l i) (fun k q hk hq _ => tk_fits (aro_fits (hP _ ((h.2 i hi).2 k hk)) (hP _ ((h.2 i hi).2 k hk)) (by omega) (by omega)) hq) hq) (fun h => by cases h)
theorem ctr_no {l : Ctr} {P : P2 → Prop} (hP : ∀ p, P p → PB FF p) (h : FinC P l) (k : (foldN (bdO l) bdQ l.n).1 = false) : ∀ i, i < l.n → l.m i = 0 := fun i hi => by
  rcases Nat.eq_zero_or_pos (l.m i) with z | z
  · exact z
  · rw [(ctr_cov hP h).2 ⟨i, 0, hi, z⟩] at k; cases k

theorem fine_bnd {B : Int} (hB : B ≤ FF) : ∀ (s : Shp) (d : Int), Fine (PB B) s d → (∀ p, PB FF p → hasF s p = true → (bndF s).2 = true ∧ hasI (bndF s).1 p) ∧ ((bndF s).2 = true → Fits (bndF s).1) := by
  intro s
  induction s with
  | nil => intro d h; exact h.elim
  | mk k a b c r l n add sub ih =>
    intro d h
    rcases h with ⟨rfl, rfl, rfl, rfl, rfl, ha, hr⟩ | ⟨rfl, rfl, rfl, rfl, ha, hb, hr⟩ | ⟨rfl, rfl, rfl, rfl, ha, hb, hr, hab⟩ | ⟨rfl, rfl, rfl, ha, hb, hc, hr, ok⟩ | ⟨rfl, rfl, rfl, rfl, rfl, rfl, hl⟩ | ⟨rfl, rfl, rfl, rfl, rfl, rfl, hd, hn, hs⟩
    · have ha := PB_F hB ha
      have hr := wid_bd hr
      refine ⟨fun p hp h => ⟨rfl, ?_⟩, fun _ => aro_fits ha ha (by omega) (by omega)⟩
      have h' : discHas p a r = true := h
      rw [discHas_eq (PB_R hp) (PB_R ha) hr.1 (by omega), decide_eq_true_eq] at h'
      exact (aro_has ha ha (by omega) (by omega) hp).2 (dist_box (by omega) h')
    · have ha := PB_F hB ha
      have hb := PB_F hB hb
      have hr := wid_bd hr
      refine ⟨fun p hp h => ⟨rfl, ?_⟩, fun _ => aro_fits ha hb (by omega) (by omega)⟩
      have h' : lineHas p a b r = true := h
      rw [lineHas_eq (PB_R hp) (PB_R ha) (PB_R hb) hr.1 (by omega)] at h'
      exact (aro_has ha hb (by omega) (by omega) hp).2 (onS_box (by omega) (lineI_iff.1 h'))
    · have ha := PB_F hB ha
      have hb := PB_F hB hb
      have hr := wid_bd hr
      refine ⟨fun p hp h => ⟨rfl, ?_⟩, fun _ => aro_fits ha hb (by omega) (by omega)⟩
      have h' : barHas p a b r = true := h
      rw [barHas_eq (PB_R hp) (PB_R ha) (PB_R hb) (by omega)] at h'
      exact (aro_has ha hb (by omega) (by omega) hp).2 (onS_box (by omega) (lineI_iff.1 (bar_line h')))
    · have ha := PB_F hB ha
      have hb := PB_F hB hb
      have hc := PB_F hB hc
      have hr := wid_bd hr
      have hd := dist_far ha hc
      have q := rupF_sq (v := distI a c) (by omega)
      have e : (bndF (.mk 5 a b c r zeC 0 add sub)).1 = aroundF c c (r + rupF (distI a c)) := by
        show aroundF c c (bdR ⟨5, a, b, c, r, zeC, 0, noF⟩) = _
        rw [bdR_far (s := ⟨5, a, b, c, r, zeC, 0, noF⟩) ha hc hr]
      rw [e]
      refine ⟨fun p hp h => ⟨rfl, ?_⟩, fun _ => aro_fits hc hc (by omega) (by omega)⟩
      have h' : ringHas p c a b r = true := h
      rw [ringHas_eq (PB_R hp) (PB_R hc) (PB_R ha) (PB_R hb) ok hr.1 (by omega) (by have := dist_far hp hc; omega) (by omega)] at h'
      have := ring_d ok q.1 (by omega) q.2.2 h'
      rw [Int.add_comm] at this
      exact (aro_has hc hc (by omega) (by omega) hp).2 (dist_box (by omega) this)
    · have hP : ∀ p, PB B p → PB FF p := fun p h => PB_F hB h
      have cv := ctr_cov hP hl
      refine ⟨fun p hp h => ?_, fun h => ctr_gd hP hl h⟩
      have h' : polyHasF p l = true := h
      have hC : PRC l := ⟨fun i hi k hk => PB_R (hP _ ((hl.2 i hi).2 k hk))⟩
      refine ⟨?_, poly_has hC (PB_R hp) cv.1 h'⟩
      show (foldN (bdO l) bdQ l.n).1 = true
      cases k : (foldN (bdO l) bdQ l.n).1 with
      | true => rfl
      | false =>
        have z := ctr_no hP hl k
        have := poly_has (U := ⟨p.x + 1, p.y, p.x, p.y⟩) hC (PB_R hp) (fun i hi k hk => by rw [z i hi] at hk; omega) h'
        unfold hasI at this
        dsimp only at this
        omega
    · have keep : ∀ (i : Nat) (q : Bool × B4) (c : B4), i < n → Cov q c → Cov (bif !(add i) then q else bif (bndF (sub i)).2 then (true, tkF q.1 q.2 (bndF (sub i)).1) else q) c := fun i q c _ h => by
        cases add i with
        | false => exact h
        | true =>
          cases (bndF (sub i)).2 with
          | false => exact h
          | true => exact (cov_tk _).2 c h
      refine ⟨fun p hp h => ?_, fun h => ?_⟩
      · have h' : (runN (fun t (_ : Bool) => bif hasF (sub (n - 1 - t)) p then (false, add (n - 1 - t)) else (true, false)) false n).2 = true := h
        rw [has_fold (fun i => hasF (sub i) p) add n] at h'
        obtain ⟨i, hi, h1, h2⟩ := hasN_true h'
        have hi' := (ih i (d + 1) (hs i hi)).1 p hp h1
        have cv := foldN_cov (g := fun i (q : Bool × B4) => bif !(add i) then q else bif (bndF (sub i)).2 then (true, tkF q.1 q.2 (bndF (sub i)).1) else q) keep hi (b := (bndF (sub i)).1) (fun q => by
          rw [h2, hi'.1]
          exact (cov_tk _).1) bdQ
        exact ⟨cv.1, cv.2.has hi'.2⟩
      · refine foldN_gd (g := fun i (q : Bool × B4) => bif !(add i) then q else bif (bndF (sub i)).2 then (true, tkF q.1 q.2 (bndF (sub i)).1) else q) (n := n) (a := bdQ) (fun i q hi hq => ?_) (fun h => by cases h) h
        cases add i with
        | false => exact hq
        | true =>
          cases hk : (bndF (sub i)).2 with
          | false => exact hq
          | true => exact fun _ => tk_fits ((ih i (d + 1) (hs i hi)).2 hk) hq

def kindS : Shp → Int
  | .nil => 0
  | .mk k _ _ _ _ _ _ _ _ => k
theorem Fits_BR {b : B4} (h : Fits b) : BR b := by
  obtain ⟨b1, b2, b3, b4, b5, b6⟩ := h
  exact ⟨⟨by omega, by omega⟩, ⟨by omega, by omega⟩, ⟨by omega, by omega⟩, ⟨by omega, by omega⟩⟩
theorem fine_off {B : Int} (hB : B ≤ FF) {b : B4} (hb : Fits b) : ∀ (s : Shp) (d : Int), Fine (PB B) s d → kindS s ≠ 4 → kindS s ≠ 6 → ((bndF s).2 = true → Off (bndF s).1 b) → classF s b = 0 := by
  intro s d h h4 h6 ho
  cases s with
  | nil => exact h.elim
  | mk k a b' c r l n add sub =>
    have R := Fits_BR hb
    rcases h with ⟨rfl, rfl, rfl, rfl, rfl, ha, hr⟩ | ⟨rfl, rfl, rfl, rfl, ha, hb', hr⟩ | ⟨rfl, rfl, rfl, rfl, ha, hb', hr, hab⟩ | ⟨rfl, rfl, rfl, ha, hb', hc, hr, ok⟩ | ⟨rfl, rfl, rfl, rfl, rfl, rfl, hl⟩ | ⟨rfl, rfl, rfl, rfl, rfl, rfl, hd, hn, hs⟩
    · have ha := PB_F hB ha
      have hr := wid_bd hr
      have o := aro_off ha ha (by omega) (by omega) hb (ho rfl)
      show discClass b a r = 0
      rw [discClass_eq R (PB_R ha) hb.x hb.y hr.1 (by omega), if_pos (near_off hb.x hb.y (by omega) o (.inl rfl))]
    · have ha := PB_F hB ha
      have hb' := PB_F hB hb'
      have hr := wid_bd hr
      have o := aro_off ha hb' (by omega) (by omega) hb (ho rfl)
      show lineClass b a b' r = 0
      rw [lineClass_eq R (PB_R ha) (PB_R hb') hb.x hb.y hr.1 (by omega)]
      exact line_off hb.x hb.y (by omega) o
    · exact absurd rfl h4
    · have ha := PB_F hB ha
      have hb' := PB_F hB hb'
      have hc := PB_F hB hc
      have hr := wid_bd hr
      have hd := dist_far ha hc
      have q := rupF_sq (v := distI a c) (by omega)
      have e : (bndF (.mk 5 a b' c r zeC 0 add sub)).1 = aroundF c c (r + rupF (distI a c)) := by
        show aroundF c c (bdR ⟨5, a, b', c, r, zeC, 0, noF⟩) = _
        rw [bdR_far (s := ⟨5, a, b', c, r, zeC, 0, noF⟩) ha hc hr]
      have ho' := ho rfl
      rw [e] at ho'
      have o := aro_off hc hc (by omega) (by omega) hb ho'
      rw [Int.add_comm] at o
      show ringClass b c a b' r = 0
      rw [ringClass_eq R (PB_R hc) (PB_R ha) (PB_R hb') ok hb.x hb.y hr.1 (by omega) (most_far2 hb hc) (by omega)]
      exact ring_off hb.x hb.y ok q.1 (by omega) q.2.2 o
    · have hP : ∀ p, PB B p → PB FF p := fun p h => PB_F hB h
      have cv := ctr_cov hP hl
      have hC : PRC l := ⟨fun i hi k hk => PB_R (hP _ ((hl.2 i hi).2 k hk))⟩
      show polyClassF b l = 0
      cases k : (foldN (bdO l) bdQ l.n).1 with
      | true => exact poly_off hC R hb.x hb.y cv.1 (ho k)
      | false => exact poly_no hC R hb.x hb.y (ctr_no hP hl k)
    · exact absurd rfl h6
end Go.Proofs.Ythnenjodighlmaa

/-! ## Rpo -/
namespace Go.Proofs.Ythnenjodighlmaa
open Go Go.RowKit Sym
set_option maxRecDepth 100000

theorem Off.sub {a U b : B4} (h : In4 a U) (k : Off U b) : Off a b := by
  obtain ⟨h1, h2, h3, h4⟩ := h
  unfold Off at *
  omega
/-- a class -/
def R3 (x : Int) : Prop := 0 ≤ x ∧ x ≤ 2
theorem r0 : R3 0 := by unfold R3; omega
theorem r1 : R3 1 := by unfold R3; omega
theorem r2 : R3 2 := by unfold R3; omega
theorem b3 {c : Bool} {x y : Int} (hx : R3 x) (hy : R3 y) : R3 (bif c then x else y) := by
  cases c
  · exact hy
  · exact hx
theorem R3.cases {x : Int} (h : R3 x) : x = 0 ∨ x = 1 ∨ x = 2 := by unfold R3 at h; omega
theorem fold3 {was cls : Int} {add : Bool} (h : R3 was) : R3 (foldF was cls add) := b3 r1 (b3 h (b3 r2 (b3 r0 (b3 r2 (b3 r0 r1)))))
theorem folds3 (c : Nat → Int) (add : Nat → Bool) : ∀ n, R3 (foldN (fun i acc => foldF acc (c i) (add i)) 0 n)
  | 0 => r0
  | n + 1 => fold3 (folds3 c add n)
theorem disc3 (b : B4) (c : P2) (r : Int) : R3 (discClass b c r) := b3 r0 (b3 r0 (b3 r2 r1))
theorem line3 (b : B4) (a c : P2) (r : Int) : R3 (lineClass b a c r) := b3 r0 (b3 r2 (b3 r1 r0))
theorem bar3 (b : B4) (a c : P2) (r : Int) : R3 (barClass b a c r) := b3 r0 (b3 r2 (b3 r2 (b3 r0 r1)))
theorem ring3 (b : B4) (c a e : P2) (r : Int) : R3 (ringClass b c a e r) := b3 r0 (b3 r2 (b3 r2 (b3 r2 (b3 r1 (b3 r0 r1)))))
theorem poly3 (b : B4) (l : Ctr) : R3 (polyClassF b l) := b3 r1 (b3 r2 r0)
theorem cls3 (b : B4) (s : Shp) : R3 (classF s b) := by
  cases s with
  | nil => exact r0
  | mk k a b' c r l n add sub => exact b3 (disc3 _ _ _) (b3 (poly3 _ _) (b3 (line3 _ _ _ _) (b3 (bar3 _ _ _ _) (b3 (ring3 _ _ _ _ _) (folds3 _ _ _)))))
theorem pile3 (s : Shp) (b : B4) : R3 (pClassC s b) := folds3 _ _ _
theorem foldF_0 {c : Int} (h : R3 c) (add : Bool) : foldF c 0 add = c := by rcases h.cases with rfl | rfl | rfl <;> cases add <;> rfl
theorem foldF_out {c : Int} (h : R3 c) : foldF 0 c false = 0 := by rcases h.cases with rfl | rfl | rfl <;> rfl
theorem cls_zero {n : Nat} {add : Nat → Bool} {c : Nat → Int} (hc : ∀ i, R3 (c i)) (h : ∀ i, i < n → add i = true → c i = 0) : foldN (fun i acc => foldF acc (c i) (add i)) 0 n = 0 := by
  induction n with
  | zero => rfl
  | succ n ih =>
    show foldF (foldN (fun i acc => foldF acc (c i) (add i)) 0 n) (c n) (add n) = 0
    rw [ih fun i hi => h i (by omega)]
    cases ha : add n with
    | false => exact foldF_out (hc n)
    | true => rw [h n (by omega) ha]; rfl
theorem hb6 {n : Nat} {a b c : P2} {r : Int} {l : Ctr} {add : Nat → Bool} {sub : Nat → Shp} (h : hbF (.mk 6 a b c r l n add sub) = false) : ∀ i, i < n → hbF (sub i) = false := fun i hi => by
  have h' : (!((runN (fun i (_ : Unit) => (!(hbF (sub i)), ())) () n).1)) = false := h
  have h2 : (runN (fun i (_ : Unit) => (!(hbF (sub i)), ())) () n).1 = true := by simpa using h'
  obtain ⟨_, _, k⟩ := runN_all h2 i hi
  simpa using k
def bnG (add : Nat → Bool) (sub : Nat → Shp) (i : Nat) (q : Bool × B4) : Bool × B4 := bif !(add i) then q else bif (bndF (sub i)).2 then (true, tkF q.1 q.2 (bndF (sub i)).1) else q
theorem bn6 (a b c : P2) (r : Int) (l : Ctr) (n : Nat) (add : Nat → Bool) (sub : Nat → Shp) : bndF (.mk 6 a b c r l n add sub) = ((foldN (bnG add sub) (foldN (bdO l) bdQ l.n) n).2, (foldN (bnG add sub) (foldN (bdO l) bdQ l.n) n).1) := rfl
theorem bn_cov {a b c : P2} {r : Int} {l : Ctr} {n : Nat} {add : Nat → Bool} {sub : Nat → Shp} {i : Nat} (hi : i < n) (ha : add i = true) (hb : (bndF (sub i)).2 = true) : (bndF (.mk 6 a b c r l n add sub)).2 = true ∧ In4 (bndF (sub i)).1 (bndF (.mk 6 a b c r l n add sub)).1 := by
  rw [bn6]
  exact foldN_cov (g := bnG add sub) (fun j q c' _ hc => by
    unfold bnG
    cases add j with
    | false => exact hc
    | true =>
      cases hk : (bndF (sub j)).2 with
      | false => exact hc
      | true => exact (cov_tk _).2 c' hc) hi (fun q => by
    unfold bnG
    rw [ha, hb]
    exact (cov_tk _).1) _
theorem fine6 {P : P2 → Prop} {a b c : P2} {r : Int} {l : Ctr} {n : Nat} {add : Nat → Bool} {sub : Nat → Shp} {d : Int} (h : Fine P (.mk 6 a b c r l n add sub) d) : ∀ i, i < n → Fine P (sub i) (d + 1) := by
  rcases h with ⟨h, _⟩ | ⟨h, _⟩ | ⟨h, _⟩ | ⟨h, _⟩ | ⟨h, _⟩ | ⟨_, _, _, _, _, _, _, _, hs⟩
  · cases h
  · cases h
  · cases h
  · cases h
  · cases h
  · exact hs
/-- without bars, off its bounds: Out -/
theorem free_off {B : Int} (hB : B ≤ FF) {b : B4} (hb : Fits b) : ∀ (s : Shp) (d : Int), Fine (PB B) s d → hbF s = false → ((bndF s).2 = true → Off (bndF s).1 b) → classF s b = 0 := by
  intro s
  induction s with
  | nil => intro d h; exact h.elim
  | mk k a b' c r l n add sub ih =>
    intro d h hh ho
    by_cases h4 : k = 4
    · subst h4; cases hh
    · by_cases h6 : k = 6
      · subst h6
        have hs := fine6 h
        have h6 := hb6 hh
        show foldN (fun i acc => foldF acc (classF (sub i) b) (add i)) 0 n = 0
        exact cls_zero (fun i => cls3 b (sub i)) fun i hi ha => ih i (d + 1) (hs i hi) (h6 i hi) fun h2 => by
          have := bn_cov (a := a) (b := b') (c := c) (r := r) (l := l) (n := n) hi ha h2
          exact (ho this.1).sub this.2
      · exact fine_off hB hb _ d h h4 h6 ho
/-- without bounds: Out everywhere -/
theorem none_off {B : Int} (hB : B ≤ FF) {b : B4} (hb : Fits b) : ∀ (s : Shp) (d : Int), Fine (PB B) s d → (bndF s).2 = false → classF s b = 0 := by
  intro s
  induction s with
  | nil => intro d h; exact h.elim
  | mk k a b' c r l n add sub ih =>
    intro d h ho
    by_cases h4 : k = 4
    · subst h4; cases ho
    · by_cases h6 : k = 6
      · subst h6
        have hs := fine6 h
        show foldN (fun i acc => foldF acc (classF (sub i) b) (add i)) 0 n = 0
        exact cls_zero (fun i => cls3 b (sub i)) fun i hi ha => ih i (d + 1) (hs i hi) (by
          cases h2 : (bndF (sub i)).2 with
          | false => rfl
          | true => rw [(bn_cov (a := a) (b := b') (c := c) (r := r) (l := l) (n := n) hi ha h2).1] at ho; cases ho)
      · exact fine_off hB hb _ d h h4 h6 fun h => by rw [h] at ho; cases ho
/-- objects such as may be -/
structure GoodO (s : Shp) : Prop where
  ref : ∀ i, i < nuO s → ∀ b q, Sb q b → Fits b → Fits q → Ref (figClassC (suO s i) b) (figClassC (suO s i) q)
  rch : ∀ i, i < nuO s → (figBndC (suO s i)).2 = false → ∀ b, Fits b → figClassC (suO s i) b = 0
  near : ∀ i, i < nuO s → hbF (suO s i) = false → ∀ b, Fits b → apart (figBndC (suO s i)).1 b = true → ∀ q, Sb q b → Fits q → figClassC (suO s i) q = 0
theorem GoodO.fil {s : Shp} (h : GoodO s) (keep : Nat → Bool) : GoodO (filL keep s) :=
  ⟨fun _ hi => h.ref _ (kIx_lt keep hi).1, fun _ hi => h.rch _ (kIx_lt keep hi).1, fun _ hi => h.near _ (kIx_lt keep hi).1⟩
theorem fold_drop {n : Nat} {keep add : Nat → Bool} {c : Nat → Int} (h : ∀ i, i < n → keep i = false → c i = 0) : foldN (fun i acc => bif keep i then foldF acc (c i) (add i) else acc) 0 n = foldN (fun i acc => foldF acc (c i) (add i)) 0 n := by
  induction n with
  | zero => rfl
  | succ n ih =>
    show (bif keep n then foldF (foldN (fun i acc => bif keep i then foldF acc (c i) (add i) else acc) 0 n) (c n) (add n) else foldN (fun i acc => bif keep i then foldF acc (c i) (add i) else acc) 0 n) = foldF (foldN (fun i acc => foldF acc (c i) (add i)) 0 n) (c n) (add n)
    rw [ih fun i hi => h i (by omega)]
    cases hk : keep n with
    | true => rfl
    | false => rw [h n (by omega) hk, foldF_0 (folds3 c add n)]; rfl
theorem reach_cls {s : Shp} (h : GoodO s) {b : B4} (hb : Fits b) : pClassC (reachF s) b = pClassC s b := by
  unfold reachF
  rw [pClass_fil]
  exact fold_drop fun i hi hk => h.rch i hi hk b hb
theorem near_cls {s : Shp} (h : GoodO s) {b q : B4} (hb : Fits b) (hq : Fits q) (hs : Sb q b) : pClassC (nearG s b) q = pClassC s q := by
  unfold nearG
  rw [pClass_fil]
  exact fold_drop fun i hi hk => by
    unfold nearK at hk
    cases hh : hbF (suO s i) with
    | true => rw [hh] at hk; cases hk
    | false =>
      rw [hh] at hk
      exact h.near i hi hh b hb (by simpa using hk) q hs hq
theorem pile_ref2 {s : Shp} (h : GoodO s) {b q : B4} (hs : Sb q b) (hb : Fits b) (hq : Fits q) : Ref (pClassC s b) (pClassC s q) :=
  ref_fold (fun i => figClassC (suO s i) b) (fun i => figClassC (suO s i) q) (adO s) _ fun i hi => h.ref i hi b q hs hb hq
theorem apart_off {U b : B4} (hU : Fits U) (hb : Fits b) (h : apart U b = true) : Off U b := by
  have e1 : emptyBx U = false := by
    unfold emptyBx; rw [decide_eq_false (by have := hU.x; omega), decide_eq_false (by have := hU.y; omega)]; rfl
  have e2 : emptyBx b = false := by
    unfold emptyBx; rw [decide_eq_false (by have := hb.x; omega), decide_eq_false (by have := hb.y; omega)]; rfl
  unfold apart at h
  rw [e1, e2] at h
  unfold Off
  by_cases h1 : U.x1 < b.x0
  · exact .inl h1
  · by_cases h2 : b.x1 < U.x0
    · exact .inr (.inl h2)
    · by_cases h3 : U.y1 < b.y0
      · exact .inr (.inr (.inl h3))
      · by_cases h4 : b.y1 < U.y0
        · exact .inr (.inr (.inr h4))
        · rw [decide_eq_false h1, decide_eq_false h2, decide_eq_false h3, decide_eq_false h4] at h
          cases h
theorem Off.box {U b q : B4} (h : Sb q b) (k : Off U b) : Off U q := by
  obtain ⟨h1, h2, h3, h4, h5, h6⟩ := h
  unfold Off at *
  omega
theorem tame_good (s : Shp) (sm : Bool) (hB : ShB s) : GoodO (tame21 s sm) := by
  cases s with
  | nil => exact hB.elim
  | mk k a b c r l n add sub =>
    have hi' : ∀ i, i < min n 12 → i < n := fun i hi => by omega
    have ok : ∀ i, i < min n 12 → okS (tameS (sub i) sm 2) = true := fun i hi => by
      have e := tame2_ok sm (sub i) (hB.2.2 i (hi' i hi))
      rwa [okE_S] at e
    have fin : ∀ i, i < min n 12 → Fine (PB (tmX sm)) (tameS (sub i) sm 2) 2 := fun i hi => tame_fine sm (sub i) 2 (hB.2.2 i (hi' i hi)) (by decide) (by decide)
    have eC : ∀ i, i < min n 12 → ∀ b, figClassC (tameS (sub i) sm 2) b = classF (tameS (sub i) sm 2) b := fun i hi b => by unfold figClassC; rw [ok i hi]; rfl
    have eB : ∀ i, i < min n 12 → figBndC (tameS (sub i) sm 2) = bndF (tameS (sub i) sm 2) := fun i hi => by unfold figBndC; rw [ok i hi]; rfl
    refine ⟨fun i hi b q hs hb hq => ?_, fun i hi h0 b hb => ?_, fun i hi hh b hb ha q hs hq => ?_⟩
    · have hi : i < min n 12 := hi
      show Ref (figClassC (tameS (sub i) sm 2) b) (figClassC (tameS (sub i) sm 2) q)
      rw [eC i hi, eC i hi]
      exact ref_shape sm hs hb hq (sub i) 2
    · have hi : i < min n 12 := hi
      have h0 : (figBndC (tameS (sub i) sm 2)).2 = false := h0
      show figClassC (tameS (sub i) sm 2) b = 0
      rw [eB i hi] at h0
      rw [eC i hi]
      exact none_off (tmX_le sm) hb _ _ (fin i hi) h0
    · have hi : i < min n 12 := hi
      have hh : hbF (tameS (sub i) sm 2) = false := hh
      have ha : apart (figBndC (tameS (sub i) sm 2)).1 b = true := ha
      show figClassC (tameS (sub i) sm 2) q = 0
      rw [eB i hi] at ha
      rw [eC i hi]
      exact free_off (tmX_le sm) hq _ _ (fin i hi) hh fun h2 => Off.box hs (apart_off ((fine_bnd (tmX_le sm) _ _ (fin i hi)).2 h2) hb ha)
end Go.Proofs.Ythnenjodighlmaa

/-! ## Rpq -/
namespace Go.Proofs.Ythnenjodighlmaa
open Go Go.RowKit Sym
set_option maxRecDepth 100000

def add4 (f : Nat → Int × Int) : Int × Int := ((f 0).1 + (f 1).1 + (f 2).1 + (f 3).1, (f 0).2 + (f 1).2 + (f 2).2 + (f 3).2)
def cnN (C : B4 → Int) : Nat → B4 → Int × Int
  | 0, b => bif C b == 0 then (0, 0) else bif C b == 2 then (cellsN 0, cellsN 0) else (0, 1)
  | d + 1, b => bif C b == 0 then (0, 0) else bif C b == 2 then (cellsN (d + 1), cellsN (d + 1)) else add4 fun i => cnN C d (spB b i)
theorem cells_step (d : Nat) : cellsN (d + 1) = 4 * cellsN d := by
  unfold cellsN
  rw [Nat.pow_succ]; omega
theorem cells_pos : ∀ d, 1 ≤ cellsN d
  | 0 => by decide
  | d + 1 => by have := cells_pos d; rw [cells_step]; omega
theorem cn_bd (C : B4 → Int) : ∀ d b, 0 ≤ (cnN C d b).1 ∧ (cnN C d b).1 ≤ (cnN C d b).2 ∧ (cnN C d b).2 ≤ cellsN d
  | 0, b => by
    unfold cnN
    cases C b == 0 <;> cases C b == 2 <;> exact ⟨by decide, by decide, by decide⟩
  | d + 1, b => by
    have p := cells_pos (d + 1)
    have p0 := cells_pos d
    have e := cells_step d
    unfold cnN
    cases C b == 0
    · cases C b == 2
      · have h0 := cn_bd C d (spB b 0)
        have h1 := cn_bd C d (spB b 1)
        have h2 := cn_bd C d (spB b 2)
        have h3 := cn_bd C d (spB b 3)
        simp only [cond_false, add4]
        omega
      · show 0 ≤ cellsN (d + 1) ∧ cellsN (d + 1) ≤ cellsN (d + 1) ∧ cellsN (d + 1) ≤ cellsN (d + 1)
        omega
    · show 0 ≤ (0 : Int) ∧ (0 : Int) ≤ 0 ∧ (0 : Int) ≤ cellsN (d + 1)
      omega
/-- a box that may be split so often -/
def Dv (d : Nat) (b : B4) : Prop := Fits b ∧ ∃ w h : Int, 1 ≤ w ∧ 1 ≤ h ∧ b.x1 - b.x0 = w * ((2 ^ d : Nat) : Int) ∧ b.y1 - b.y0 = h * ((2 ^ d : Nat) : Int)
theorem two_step (d : Nat) (w : Int) : w * ((2 ^ (d + 1) : Nat) : Int) = 2 * (w * ((2 ^ d : Nat) : Int)) := by
  rw [Nat.pow_succ, Int.natCast_mul]
  show w * (((2 ^ d : Nat) : Int) * 2) = _
  rw [← Int.mul_assoc, Int.mul_comm]
theorem two_pos (d : Nat) {w : Int} (h : 1 ≤ w) : 1 ≤ w * ((2 ^ d : Nat) : Int) := by
  have : 1 ≤ ((2 ^ d : Nat) : Int) := by have := Nat.two_pow_pos d; omega
  have := Int.mul_le_mul h this (by omega) (by omega)
  omega
theorem Dv.ok {d : Nat} {b : B4} (h : Dv (d + 1) b) : splOk b = true := by
  obtain ⟨hf, w, k, hw, hk, e1, e2⟩ := h
  rw [two_step] at e1 e2
  have p1 := two_pos d hw
  have p2 := two_pos d hk
  generalize w * ((2 ^ d : Nat) : Int) = u at *
  generalize k * ((2 ^ d : Nat) : Int) = v at *
  have := hf.x0; have := hf.x1; have := hf.y0; have := hf.y1
  unfold splOk
  rw [(boxOk_iff b).2 hf, W_id (x := b.x1 - b.x0) (by omega) (by omega), W_id (x := b.y1 - b.y0) (by omega) (by omega), e1, e2]
  rw [show (2 * u == 0) = false by simp; omega, show (2 * v == 0) = false by simp; omega, show ((2 * u).tmod 2 != 0) = false by rw [Int.tmod_eq_emod_of_nonneg (by omega)]; simp, show ((2 * v).tmod 2 != 0) = false by rw [Int.tmod_eq_emod_of_nonneg (by omega)]; simp]
  rfl
theorem Dv.half {d : Nat} {b : B4} (h : Dv (d + 1) b) : ∃ mx my : Int, (b.x0 < mx ∧ 2 * mx = b.x0 + b.x1) ∧ (b.y0 < my ∧ 2 * my = b.y0 + b.y1) ∧ spB b 0 = ⟨b.x0, b.y0, mx, my⟩ ∧ spB b 1 = ⟨mx, b.y0, b.x1, my⟩ ∧ spB b 2 = ⟨b.x0, my, mx, b.y1⟩ ∧ ∀ i, spB b (i + 3) = ⟨mx, my, b.x1, b.y1⟩ := by
  obtain ⟨h1, h2, h3, h4, h5⟩ := spl_of h.1 h.ok
  refine ⟨midX b, midY b, ⟨h2, h4⟩, ⟨h3, h5⟩, ?_, ?_, ?_, fun i => ?_⟩
  · show (⟨spl b 0 b.x0, spl b 0 b.y0, spl b 0 (midX b), spl b 0 (midY b)⟩ : B4) = _
    simp only [h1]
  · show (⟨spl b 0 (midX b), spl b 0 b.y0, spl b 0 b.x1, spl b 0 (midY b)⟩ : B4) = _
    simp only [h1]
  · show (⟨spl b 0 b.x0, spl b 0 (midY b), spl b 0 (midX b), spl b 0 b.y1⟩ : B4) = _
    simp only [h1]
  · show (⟨spl b 0 (midX b), spl b 0 (midY b), spl b 0 b.x1, spl b 0 b.y1⟩ : B4) = _
    simp only [h1]
theorem Dv.sub {d : Nat} {b : B4} (h : Dv (d + 1) b) (i : Nat) : Dv d (spB b i) ∧ Sb (spB b i) b := by
  obtain ⟨mx, my, ⟨x1, x2⟩, ⟨y1, y2⟩, e0, e1, e2, e3⟩ := h.half
  obtain ⟨hf, w, k, hw, hk, g1, g2⟩ := h
  rw [two_step] at g1 g2
  have f1 := hf.x0; have f2 := hf.x; have f3 := hf.x1; have f4 := hf.y0; have f5 := hf.y; have f6 := hf.y1
  match i with
  | 0 => rw [e0]; exact ⟨⟨⟨f1, by dsimp only; omega, by dsimp only; omega, f4, by dsimp only; omega, by dsimp only; omega⟩, w, k, hw, hk, by dsimp only; omega, by dsimp only; omega⟩, ⟨by dsimp only; omega, by dsimp only; omega, by dsimp only; omega, by dsimp only; omega, by dsimp only; omega, by dsimp only; omega⟩⟩
  | 1 => rw [e1]; exact ⟨⟨⟨by dsimp only; omega, by dsimp only; omega, f3, f4, by dsimp only; omega, by dsimp only; omega⟩, w, k, hw, hk, by dsimp only; omega, by dsimp only; omega⟩, ⟨by dsimp only; omega, by dsimp only; omega, by dsimp only; omega, by dsimp only; omega, by dsimp only; omega, by dsimp only; omega⟩⟩
  | 2 => rw [e2]; exact ⟨⟨⟨f1, by dsimp only; omega, by dsimp only; omega, by dsimp only; omega, by dsimp only; omega, f6⟩, w, k, hw, hk, by dsimp only; omega, by dsimp only; omega⟩, ⟨by dsimp only; omega, by dsimp only; omega, by dsimp only; omega, by dsimp only; omega, by dsimp only; omega, by dsimp only; omega⟩⟩
  | i + 3 => rw [e3]; exact ⟨⟨⟨by dsimp only; omega, by dsimp only; omega, f3, by dsimp only; omega, by dsimp only; omega, f6⟩, w, k, hw, hk, by dsimp only; omega, by dsimp only; omega⟩, ⟨by dsimp only; omega, by dsimp only; omega, by dsimp only; omega, by dsimp only; omega, by dsimp only; omega, by dsimp only; omega⟩⟩
theorem Sb.trans {a b c : B4} (h : Sb a b) (k : Sb b c) : Sb a c := by
  obtain ⟨h1, h2, h3, h4, h5, h6⟩ := h
  obtain ⟨k1, k2, k3, k4, k5, k6⟩ := k
  exact ⟨by omega, h2, by omega, by omega, h5, by omega⟩
theorem Sb.self {b : B4} (h : Fits b) : Sb b b := ⟨Int.le_refl _, h.x, Int.le_refl _, Int.le_refl _, h.y, Int.le_refl _⟩
/-- classes of the same boxes, the same count -/
theorem cn_congr {C C' : B4 → Int} : ∀ d b, Dv d b → (∀ q, Sb q b → Fits q → C q = C' q) → cnN C d b = cnN C' d b
  | 0, b, h, hc => by
    unfold cnN
    rw [hc b (Sb.self h.1) h.1]
  | d + 1, b, h, hc => by
    have ih : ∀ i, cnN C d (spB b i) = cnN C' d (spB b i) := fun i => cn_congr d _ (h.sub i).1 fun q hq hf => hc q (hq.trans (h.sub i).2) hf
    unfold cnN
    rw [hc b (Sb.self h.1) h.1]
    simp only [ih]
def stN : Nat → Int
  | 0 => 1
  | d + 1 => 1 + 4 * stN d
theorem st_pos : ∀ d, 1 ≤ stN d
  | 0 => by decide
  | d + 1 => by have := st_pos d; unfold stN; omega
/-- a result of so many looks at most -/
structure ExOk (r : ExR) (c : Int × Int) (a n : Int) : Prop where
  lo : r.lo = c.1
  hi : r.hi = c.2
  e : r.e = 0
  a1 : a + 1 ≤ r.a
  a2 : r.a ≤ a + n
theorem exQ_ok {f : B4 → Int → ExR} {b : B4} {a n M : Int} {cs : Nat → Int × Int} (hn : 1 ≤ n) (h : ∀ i a', i < 4 → a ≤ a' → a' ≤ a + 3 * n → ExOk (f (spB b i) a') (cs i) a' n) (hb : ∀ i, 0 ≤ (cs i).1 ∧ (cs i).1 ≤ (cs i).2 ∧ (cs i).2 ≤ M) (hM : M ≤ 1000000000) : ExOk (exQ f b a) (add4 cs) a (4 * n) := by
  have h0 := h 0 a (by omega) (by omega) (by omega)
  have h1 := h 1 _ (by omega) (show a ≤ (f (spB b 0) a).a by have := h0.a1; omega) (by have := h0.a2; omega)
  have h2 := h 2 _ (by omega) (show a ≤ (f (spB b 1) (f (spB b 0) a).a).a by have := h0.a1; have := h1.a1; omega) (by have := h0.a2; have := h1.a2; omega)
  have h3 := h 3 _ (by omega) (show a ≤ (f (spB b 2) (f (spB b 1) (f (spB b 0) a).a).a).a by have := h0.a1; have := h1.a1; have := h2.a1; omega) (by have := h0.a2; have := h1.a2; have := h2.a2; omega)
  have b0 := hb 0; have b1 := hb 1; have b2 := hb 2; have b3 := hb 3
  unfold exQ
  rw [h0.e, h1.e, h2.e, h3.e, h0.lo, h1.lo, h2.lo, h3.lo, h0.hi, h1.hi, h2.hi, h3.hi]
  have g0 := h0.a1; have g1 := h1.a1; have g2 := h2.a1; have g3 := h3.a1
  have k0 := h0.a2; have k1 := h1.a2; have k2 := h2.a2; have k3 := h3.a2
  generalize (f (spB b 3) (f (spB b 2) (f (spB b 1) (f (spB b 0) a).a).a).a).a = a4 at *
  generalize (f (spB b 2) (f (spB b 1) (f (spB b 0) a).a).a).a = a3 at *
  generalize (f (spB b 1) (f (spB b 0) a).a).a = a2 at *
  generalize (f (spB b 0) a).a = a1 at *
  show ExOk ⟨W (W (W (W (0 + (cs 0).1) + (cs 1).1) + (cs 2).1) + (cs 3).1), W (W (W (W (0 + (cs 0).2) + (cs 1).2) + (cs 2).2) + (cs 3).2), 0, a4⟩ _ _ _
  rw [W_id (x := 0 + (cs 0).1) (by omega) (by omega), W_id (x := 0 + (cs 0).1 + (cs 1).1) (by omega) (by omega), W_id (x := 0 + (cs 0).1 + (cs 1).1 + (cs 2).1) (by omega) (by omega), W_id (x := 0 + (cs 0).1 + (cs 1).1 + (cs 2).1 + (cs 3).1) (by omega) (by omega),
    W_id (x := 0 + (cs 0).2) (by omega) (by omega), W_id (x := 0 + (cs 0).2 + (cs 1).2) (by omega) (by omega), W_id (x := 0 + (cs 0).2 + (cs 1).2 + (cs 2).2) (by omega) (by omega), W_id (x := 0 + (cs 0).2 + (cs 1).2 + (cs 2).2 + (cs 3).2) (by omega) (by omega)]
  unfold add4
  exact ⟨by dsimp only; omega, by dsimp only; omega, rfl, by dsimp only; omega, by dsimp only; omega⟩
theorem cells_le : ∀ d, d ≤ 14 → cellsN d ≤ 1000000000 := fun d hd => by
  unfold cellsN
  have : 4 ^ d ≤ 4 ^ 14 := Nat.pow_le_pow_right (by decide) hd
  have e : 4 ^ 14 = 268435456 := by decide
  omega
theorem exF_ok {most : Int} (h2 : most ≤ 100000000) : ∀ d, d ≤ 14 → ∀ s b a, GoodO s → Dv d b → 0 ≤ a → a + stN d ≤ most → ExOk (exF most d s b a) (cnN (pClassC s) d b) a (stN d)
  | 0, _, s, b, a, hg, hd, h0, h1 => by
    unfold stN at h1
    unfold exF cnN stN exT
    rw [W_id (x := a + 1) (by omega) (by omega), decide_eq_true (show a + 1 ≤ most by omega)]
    cases pClassC s b == 0
    · cases pClassC s b == 2
      · exact ⟨rfl, rfl, rfl, by show a + 1 ≤ a + 1; omega, by show a + 1 ≤ a + 1; omega⟩
      · exact ⟨rfl, rfl, rfl, by show a + 1 ≤ a + 1; omega, by show a + 1 ≤ a + 1; omega⟩
    · exact ⟨rfl, rfl, rfl, by show a + 1 ≤ a + 1; omega, by show a + 1 ≤ a + 1; omega⟩
  | d + 1, hd14, s, b, a, hg, hd, h0, h1 => by
    have sp := st_pos d
    have es : stN (d + 1) = 1 + 4 * stN d := rfl
    rw [es] at h1 ⊢
    have e : ∀ i, cnN (pClassC (nearG s (spB b i))) d (spB b i) = cnN (pClassC s) d (spB b i) := fun i =>
      cn_congr d _ (hd.sub i).1 fun q hq hf => near_cls hg (hd.sub i).1.1 hf hq
    have key : ExOk (exQ (fun q a => exF most d (nearG s q) q a) b (a + 1)) (add4 fun i => cnN (pClassC s) d (spB b i)) (a + 1) (4 * stN d) :=
      exQ_ok (M := cellsN d) (by omega) (fun i a' hi l1 l2 => by
        have := exF_ok h2 d (by omega) (nearG s (spB b i)) (spB b i) a' (hg.fil _) (hd.sub i).1 (by omega) (by omega)
        rwa [e i] at this) (fun i => cn_bd _ d _) (cells_le d (by omega))
    unfold exF cnN exT
    rw [W_id (x := a + 1) (by omega) (by omega), decide_eq_true (show a + 1 ≤ most by omega)]
    cases pClassC s b == 0
    · cases pClassC s b == 2
      · obtain ⟨k1, k2, k3, k4, k5⟩ := key
        refine ⟨k1, k2, k3, ?_, ?_⟩
        · show a + 1 ≤ (exQ (fun q a => exF most d (nearG s q) q a) b (a + 1)).a
          omega
        · show (exQ (fun q a => exF most d (nearG s q) q a) b (a + 1)).a ≤ a + (1 + 4 * stN d)
          omega
      · exact ⟨rfl, rfl, rfl, by show a + 1 ≤ a + 1; omega, by show a + 1 ≤ a + (1 + 4 * stN d); omega⟩
    · exact ⟨rfl, rfl, rfl, by show a + 1 ≤ a + 1; omega, by show a + 1 ≤ a + (1 + 4 * stN d); omega⟩
/-! ### finer cells -/
theorem cn_finer (C : B4 → Int) : ∀ d b, 4 * (cnN C d b).1 ≤ (cnN C (d + 1) b).1 ∧ (cnN C (d + 1) b).2 ≤ 4 * (cnN C d b).2
  | 0, b => by
    have h0 := cn_bd C 0 (spB b 0); have h1 := cn_bd C 0 (spB b 1); have h2 := cn_bd C 0 (spB b 2); have h3 := cn_bd C 0 (spB b 3)
    have c0 : cellsN 0 = 1 := rfl
    have c1 : cellsN 1 = 4 := rfl
    show 4 * (cnN C 0 b).1 ≤ (bif C b == 0 then (0, 0) else bif C b == 2 then (cellsN 1, cellsN 1) else add4 fun i => cnN C 0 (spB b i)).1 ∧ (bif C b == 0 then (0, 0) else bif C b == 2 then (cellsN 1, cellsN 1) else add4 fun i => cnN C 0 (spB b i)).2 ≤ 4 * (cnN C 0 b).2
    rw [show cnN C 0 b = bif C b == 0 then (0, 0) else bif C b == 2 then (cellsN 0, cellsN 0) else (0, 1) from rfl]
    cases C b == 0
    · cases C b == 2
      · simp only [cond_false, add4]
        omega
      · show 4 * cellsN 0 ≤ cellsN 1 ∧ cellsN 1 ≤ 4 * cellsN 0
        omega
    · simp only [cond_true]; omega
  | d + 1, b => by
    have h0 := cn_finer C d (spB b 0); have h1 := cn_finer C d (spB b 1); have h2 := cn_finer C d (spB b 2); have h3 := cn_finer C d (spB b 3)
    have e := cells_step (d + 1)
    rw [show cnN C (d + 1) b = bif C b == 0 then (0, 0) else bif C b == 2 then (cellsN (d + 1), cellsN (d + 1)) else add4 fun i => cnN C d (spB b i) from rfl,
      show cnN C (d + 1 + 1) b = bif C b == 0 then (0, 0) else bif C b == 2 then (cellsN (d + 1 + 1), cellsN (d + 1 + 1)) else add4 fun i => cnN C (d + 1) (spB b i) from rfl]
    cases C b == 0
    · cases C b == 2
      · simp only [cond_false, add4]
        omega
      · show 4 * cellsN (d + 1) ≤ cellsN (d + 1 + 1) ∧ cellsN (d + 1 + 1) ≤ 4 * cellsN (d + 1)
        omega
    · simp only [cond_true]; omega
theorem cn_all {C : B4 → Int} {v : Int} (hv : v = 0 ∨ v = 2) : ∀ d b, C b = v → cnN C d b = bif v == 0 then (0, 0) else (cellsN d, cellsN d)
  | 0, b, h => by unfold cnN; rw [h]; rcases hv with rfl | rfl <;> rfl
  | d + 1, b, h => by unfold cnN; rw [h]; rcases hv with rfl | rfl <;> rfl
/-- the quarters have together what the whole has -/
theorem cn_quarters {C : B4 → Int} {d : Nat} {b : B4} (hd : Dv (d + 1) b) (hr : ∀ q, Sb q b → Fits q → C b ≠ 1 → C q = C b) (h3 : R3 (C b)) : cnN C (d + 1) b = add4 fun i => cnN C d (spB b i) := by
  have e := cells_step d
  rcases h3.cases with h | h | h
  · have k : ∀ i, cnN C d (spB b i) = (0, 0) := fun i => by
      rw [cn_all (v := 0) (.inl rfl) d _ (by rw [hr _ (hd.sub i).2 (hd.sub i).1.1 (by omega), h])]; rfl
    simp only [k]
    unfold cnN
    rw [h]; rfl
  · rw [show cnN C (d + 1) b = bif C b == 0 then (0, 0) else bif C b == 2 then (cellsN (d + 1), cellsN (d + 1)) else add4 fun i => cnN C d (spB b i) from rfl, h]
    rfl
  · have k : ∀ i, cnN C d (spB b i) = (cellsN d, cellsN d) := fun i => by
      rw [cn_all (v := 2) (.inr rfl) d _ (by rw [hr _ (hd.sub i).2 (hd.sub i).1.1 (by omega), h])]; rfl
    simp only [k]
    unfold cnN
    rw [h]
    show (cellsN (d + 1), cellsN (d + 1)) = _
    unfold add4
    exact Prod.ext (by dsimp only; omega) (by dsimp only; omega)
end Go.Proofs.Ythnenjodighlmaa

/-! ## Rgk -/
namespace Go.Proofs.Ythnenjodighlmaa
open Go Go.RowKit Sym
set_option maxRecDepth 100000

theorem shl_eq {v : Int} {D : Nat} (hD : D ≤ 6) (h0 : 0 ≤ v) (h1 : v ≤ 1000000) : shlI v (D : Int) = v * ((2 ^ D : Nat) : Int) := by
  unfold shlI
  have e1 : IntKind.u64.wrap (D : Int) = (D : Int) := by
    show (D : Int) % 18446744073709551616 = D
    omega
  rw [e1, show min (D : Int).toNat 64 = D by omega]
  have e : D = 0 ∨ D = 1 ∨ D = 2 ∨ D = 3 ∨ D = 4 ∨ D = 5 ∨ D = 6 := by omega
  rcases e with rfl | rfl | rfl | rfl | rfl | rfl | rfl <;> (simp only [Int.reducePow, Nat.reducePow, Int.cast_ofNat_Int, Int.natCast_one]; rw [W_id (by omega) (by omega)]; try omega)
theorem sdK_eq (w : Int) {D : Nat} (hD : D ≤ 6) (s : Bool) : ∃ k : Int, 1 ≤ k ∧ k ≤ 1000000 ∧ (s = true → k ≤ 4) ∧ sdK w D s = k * ((2 ^ D : Nat) : Int) := by
  unfold sdK
  cases s with
  | true =>
    have hb : 0 ≤ band w 3 ∧ band w 3 ≤ 3 := bandLe w 3 (by decide)
    have e : W (band w 3 + 1) = band w 3 + 1 := W_id (by omega) (by omega)
    refine ⟨band w 3 + 1, by omega, by omega, fun _ => by omega, ?_⟩
    show shlI (W (band w 3 + 1)) D = _
    rw [e]
    exact shl_eq hD (by omega) (by omega)
  | false =>
    have h0 := u64_pos w
    have h1 : 0 ≤ (IntKind.u64.wrap w).tmod 1000000 ∧ (IntKind.u64.wrap w).tmod 1000000 < 1000000 := by
      rw [Int.tmod_eq_emod_of_nonneg h0]; omega
    refine ⟨(IntKind.u64.wrap w).tmod 1000000 + 1, by omega, by omega, fun h => (by cases h), ?_⟩
    show shlI (W (W ((IntKind.u64.wrap w).tmod 1000000) + 1)) D = _
    rw [W_id (x := (IntKind.u64.wrap w).tmod 1000000) (by omega) (by omega), W_id (x := (IntKind.u64.wrap w).tmod 1000000 + 1) (by omega) (by omega)]
    exact shl_eq hD (by omega) (by omega)
theorem pow_bd {D : Nat} (hD : D ≤ 6) : 1 ≤ ((2 ^ D : Nat) : Int) ∧ ((2 ^ D : Nat) : Int) ≤ 64 := by
  have e : D = 0 ∨ D = 1 ∨ D = 2 ∨ D = 3 ∨ D = 4 ∨ D = 5 ∨ D = 6 := by omega
  rcases e with rfl | rfl | rfl | rfl | rfl | rfl | rfl <;> decide
theorem mulB {k q m : Int} (h0 : 1 ≤ k) (h1 : k ≤ m) (hq0 : 1 ≤ q) (hq : q ≤ 64) : 1 ≤ k * q ∧ k * q ≤ m * 64 := by
  constructor
  · have := Int.mul_le_mul h0 hq0 (by omega) (by omega); omega
  · exact Int.mul_le_mul h1 hq (by omega) (by omega)
/-- what side gives -/
theorem side_dv (x y w : Int) {D : Nat} (hD : D ≤ 6) (s : Bool) : Dv D (sideF x y w D s) ∧ (s = true → (-25 ≤ (sideF x y w D s).x0 ∧ (sideF x y w D s).x1 ≤ 281) ∧ (-25 ≤ (sideF x y w D s).y0 ∧ (sideF x y w D s).y1 ≤ 281)) := by
  obtain ⟨k, k1, k2, k3, ek⟩ := sdK_eq w hD s
  have pw := pow_bd hD
  have mb := mulB k1 k2 pw.1 pw.2
  have hp : (-400000000 ≤ (sdP x y s).x ∧ (sdP x y s).x ≤ 400000000) ∧ (-400000000 ≤ (sdP x y s).y ∧ (sdP x y s).y ≤ 400000000) := by
    cases s with
    | true =>
      have h := lClose_r (lClose ⟨x, y⟩ 400000000) (n := 25) (by decide) (by decide)
      have h' : (-25 ≤ (sdP x y true).x ∧ (sdP x y true).x ≤ 25) ∧ (-25 ≤ (sdP x y true).y ∧ (sdP x y true).y ≤ 25) := h
      omega
    | false => exact lClose_r ⟨x, y⟩ (n := 400000000) (by decide) (by decide)
  have e : sideF x y w D s = ⟨(sdP x y s).x, (sdP x y s).y, (sdP x y s).x + k * ((2 ^ D : Nat) : Int), (sdP x y s).y + k * ((2 ^ D : Nat) : Int)⟩ := by
    unfold sideF
    rw [ek, W_id (x := (sdP x y s).x + k * ((2 ^ D : Nat) : Int)) (by omega) (by omega), W_id (x := (sdP x y s).y + k * ((2 ^ D : Nat) : Int)) (by omega) (by omega)]
  rw [e]
  refine ⟨⟨⟨by dsimp only; omega, by dsimp only; omega, by dsimp only; omega, by dsimp only; omega, by dsimp only; omega, by dsimp only; omega⟩, k, k, k1, k1, by dsimp only; omega, by dsimp only; omega⟩, fun hs => ?_⟩
  subst hs
  have mb4 := mulB k1 (k3 rfl) pw.1 pw.2
  have h := lClose_r (lClose ⟨x, y⟩ 400000000) (n := 25) (by decide) (by decide)
  have h' : (-25 ≤ (sdP x y true).x ∧ (sdP x y true).x ≤ 25) ∧ (-25 ≤ (sdP x y true).y ∧ (sdP x y true).y ≤ 25) := h
  dsimp only
  omega
/-- a box that may be split so often is taken by Cover -/
theorem cvM_eq {D : Nat} (hD : D ≤ 6) : cvM D = ((2 ^ D : Nat) : Int) := by
  have e : D = 0 ∨ D = 1 ∨ D = 2 ∨ D = 3 ∨ D = 4 ∨ D = 5 ∨ D = 6 := by omega
  rcases e with rfl | rfl | rfl | rfl | rfl | rfl | rfl <;> decide
theorem cv_no {D : Nat} (hD : D ≤ 6) {u w : Int} (h0 : 1 ≤ w) (hu : u = w * ((2 ^ D : Nat) : Int)) (hb : u ≤ 2000000000) : cvBad D u = false := by
  have pw := pow_bd hD
  have := two_pos D h0
  unfold cvBad
  rw [W_id (by omega) (by omega), cvM_eq hD, hu, Int.mul_tmod_left]
  rw [show (w * ((2 ^ D : Nat) : Int) == 0) = false by rw [beq_eq_false_iff_ne]; omega]
  rfl
theorem coverF_dv {most : Int} {D : Nat} (hD : D ≤ 6) {s : Shp} {b : B4} (h : Dv D b) (a : Int) : coverF most D s b a = exF most D (nearG (reachF s) b) b a := by
  obtain ⟨hf, w, k, hw, hk, e1, e2⟩ := h
  have := hf.x0; have := hf.x1; have := hf.y0; have := hf.y1
  unfold coverF
  rw [cv_no hD hw e1 (by omega), cv_no hD hk e2 (by omega)]
  rw [show cvArg D b = false by
    unfold cvArg
    rw [(boxOk_iff b).2 hf, decide_eq_false (by omega), decide_eq_false (by omega)]; rfl]
  rfl
theorem st_bd : ∀ D, D ≤ 6 → stN D ≤ 5461 := fun D hD => by
  have e : D = 0 ∨ D = 1 ∨ D = 2 ∨ D = 3 ∨ D = 4 ∨ D = 5 ∨ D = 6 := by omega
  rcases e with rfl | rfl | rfl | rfl | rfl | rfl | rfl <;> decide
theorem coverF_ok {most : Int} {D : Nat} (hD : D ≤ 6) (hm : most ≤ 100000000) {s : Shp} (hg : GoodO s) {b : B4} (h : Dv D b) (hst : stN D ≤ most) : ExOk (coverF most D s b 0) (cnN (pClassC s) D b) 0 (stN D) := by
  rw [coverF_dv hD h]
  have k := exF_ok hm D (by omega) (nearG (reachF s) b) b 0 ((hg.fil _).fil _) h (by omega) (by omega)
  rwa [cn_congr D b h (C := pClassC (nearG (reachF s) b)) (C' := pClassC s) fun q hq hf => by
    rw [near_cls (s := reachF s) (hg.fil _) h.1 hf hq, reach_cls hg hf]] at k
end Go.Proofs.Ythnenjodighlmaa

/-! ## Rgj -/
namespace Go.Proofs.Ythnenjodighlmaa
open Go Go.RowKit Sym
set_option maxRecDepth 100000

/-! ### a disc around (0, 0), as a program writes it -/
def enSide : List Dyn.DV → Option (Dyn.RV × List Prop)
  | [.one (.p (.int .i64 x)), .one (.p (.int .i64 y)), .one (.p (.int .i64 w)), .one (.p (.int .i64 d)), .one (.p (.bool s))] => some (.val (dvX (sideF x y w d s)), [])
  | _ => none
theorem enSide_ok : Dyn.EntryDOk Try.prog (30, enSide) := fun args r ps h hp => by
  dsimp only at h
  unfold enSide at h
  split at h
  · simp only [Option.some.injEq, Prod.mk.injEq] at h
    obtain ⟨rfl, rfl⟩ := h
    exact side_ok _ _ _ _ _
  · cases h
/-! ### plain -/
end Go.Proofs.Ythnenjodighlmaa
