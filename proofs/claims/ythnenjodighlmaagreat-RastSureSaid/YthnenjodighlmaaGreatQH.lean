/-
  OWN WORK. Joined by merge.py: Pib Pic Fin Fio Poi Pos Pou Fis Pid Ctt Fip Tuc Fiq Fit Dla Dle Bou Awt.
-/
import Derived.Test.YthnenjodighlmaaGreatQE
import Derived.RangeFuncNested
import Derived.RangeFuncBound
import Derived.RangeFuncCalls
import Derived.RangeFuncLeaves
import Derived.RangeFuncBox
import Derived.Shelf.Abstract
import Derived.Shelf.RegionOpen
import Derived.WalkKit
import Derived.OwnWalkIn
import Derived.TacticsInMore
import Derived.LoopNIn
import Derived.LoopIn
import Derived.Deep.WholeRow
import Derived.Test.YthnenjodighlmaaGreatQF
/-! ## Pib -/
namespace Go.Proofs.YthnenjodighlmaaGreat
open Go Go.RowKit Go.Shelf
set_option maxRecDepth 100000

attribute [local go_sem] Oper.semAt_some

def Objs (n₀ : Nat) (W : World) (oa : Option Addr) (len : Nat) (g : Nat → Nat → Value) : Prop :=
  len = 0 ∨ ∃ b off, oa = some ⟨b, off, none⟩ ∧ b < n₀ ∧ ∀ i, i < len → ∀ j, j < 11 → W.cell? ⟨b, off + i * 11 + j, none⟩ = some (g i j)
theorem Objs.below {n₀ : Nat} {A B : World} (h : Below n₀ A B) {oa : Option Addr} {len : Nat} {g : Nat → Nat → Value} : Objs n₀ A oa len g → Objs n₀ B oa len g
  | .inl e => .inl e
  | .inr ⟨b, off, e, hb, hc⟩ => .inr ⟨b, off, e, hb, fun i hi j hj => (h.cell (p := ⟨b, off + i * 11 + j, none⟩) hb).trans (hc i hi j hj)⟩
theorem Objs.up {n₀ n₁ : Nat} (h : n₀ ≤ n₁) {W : World} {oa : Option Addr} {len : Nat} {g : Nat → Nat → Value} : Objs n₀ W oa len g → Objs n₁ W oa len g
  | .inl e => .inl e
  | .inr ⟨b, off, e, hb, hc⟩ => .inr ⟨b, off, e, by omega, hc⟩
end Go.Proofs.YthnenjodighlmaaGreat

/-! ## Pic -/
namespace Go.Proofs.YthnenjodighlmaaGreat
open Go Go.RowKit Go.Shelf
set_option maxRecDepth 100000

attribute [local go_sem] Oper.semAt_some

def PilRes (len : Nat) (hasV addV : Nat → Bool) (r : Bool) : Prop := (r = false ∧ ∀ j, j < len → hasV j = false) ∨ ∃ k, k < len ∧ r = addV (len - 1 - k) ∧ hasV (len - 1 - k) = true ∧ ∀ j, j < k → hasV (len - 1 - j) = false
end Go.Proofs.YthnenjodighlmaaGreat

/-! ## Fin -/
namespace Go.Proofs.YthnenjodighlmaaGreat
open Go Go.RowKit Sym
set_option maxRecDepth 100000

/-! ### fine shapes -/
def FinC (P : P2 → Prop) (l : Ctr) : Prop := l.n ≤ 4 ∧ ∀ i, i < l.n → l.m i ≤ 12 ∧ ∀ k, k < l.m i → P (l.p i k)
def Fine (P : P2 → Prop) : Shp → Int → Prop
  | .nil, _ => False
  | .mk k a b c r l n _ sub, d =>
    (k = 1 ∧ b = ze ∧ c = ze ∧ l = zeC ∧ n = 0 ∧ P a ∧ widF r = true) ∨
    (k = 3 ∧ c = ze ∧ l = zeC ∧ n = 0 ∧ P a ∧ P b ∧ widF r = true) ∨
    (k = 4 ∧ c = ze ∧ l = zeC ∧ n = 0 ∧ P a ∧ P b ∧ widF r = true ∧ a ≠ b) ∨
    (k = 5 ∧ l = zeC ∧ n = 0 ∧ P a ∧ P b ∧ P c ∧ widF r = true ∧ okI c a b) ∨
    (k = 2 ∧ a = ze ∧ b = ze ∧ c = ze ∧ r = 0 ∧ n = 0 ∧ FinC P l) ∨
    (k = 6 ∧ a = ze ∧ b = ze ∧ c = ze ∧ r = 0 ∧ l = zeC ∧ d ≤ 5 ∧ ((n : Int) ≤ 4 - d ∨ n ≤ 1) ∧ ∀ i, i < n → Fine P (sub i) (d + 1))
/-- how many shapes there are at most, from depth d on -/
def Nd (d : Int) : Int := if d ≥ 6 then 1 else if d = 5 then 2 else if d = 4 then 3 else if d = 3 then 4 else if d = 2 then 9 else if d = 1 then 28 else 113
theorem Nd_one (d : Int) : 1 ≤ Nd d ∧ Nd d ≤ 113 := by unfold Nd; repeat' split <;> first | omega | (constructor <;> omega)
theorem Nd_step {d m : Int} (h0 : 0 ≤ d) (h5 : d ≤ 5) (h1 : 0 ≤ m) (h2 : m ≤ 4 - d ∨ m ≤ 1) : 1 + m * Nd (d + 1) ≤ Nd d := by
  have : d = 0 ∨ d = 1 ∨ d = 2 ∨ d = 3 ∨ d = 4 ∨ d = 5 := by omega
  rcases this with rfl | rfl | rfl | rfl | rfl | rfl
  · rw [show Nd (0 + 1) = 28 by decide, show Nd 0 = 113 by decide]; omega
  · rw [show Nd (1 + 1) = 9 by decide, show Nd 1 = 28 by decide]; omega
  · rw [show Nd (2 + 1) = 4 by decide, show Nd 2 = 9 by decide]; omega
  · rw [show Nd (3 + 1) = 3 by decide, show Nd 3 = 4 by decide]; omega
  · rw [show Nd (4 + 1) = 2 by decide, show Nd 4 = 3 by decide]; omega
  · rw [show Nd (5 + 1) = 1 by decide, show Nd 5 = 2 by decide]; omega
theorem runN_inv {α : Type} {g : Nat → α → Bool × α} (I : Nat → α → Prop) {a : α} (h0 : I 0 a) : ∀ n, (∀ i x, i < n → I i x → (g i x).1 = true ∧ I (i + 1) (g i x).2) → (runN g a n).1 = true ∧ I n (runN g a n).2
  | 0, _ => ⟨rfl, h0⟩
  | n + 1, h => by
    have k := runN_inv I h0 n (fun i x hi => h i x (by omega))
    have e : runN g a n = (true, (runN g a n).2) := Prod.ext k.1 rfl
    rw [runN_go e]
    exact h n _ (by omega) k.2
theorem ctg_fine {P : P2 → Prop} (hP : ∀ p, P p → nearF p = true) {l : Ctr} (h : FinC P l) : contoursF l = true := by
  unfold contoursF
  refine (runN_inv (fun i (left : Int) => 1000 - 12 * (i : Int) ≤ left ∧ left ≤ 1000) ⟨by omega, by omega⟩ l.n (fun i x hi hx => ?_)).1
  have hm := h.2 i hi
  have hn := h.1
  unfold ctgO
  rw [decide_eq_false (show ¬ (l.m i : Int) > x by omega)]
  refine ⟨?_, ?_⟩
  · show (runN (ctgI l i) () (l.m i)).1 = true
    exact (runN_inv (fun _ _ => True) trivial (l.m i) (fun k _ hk _ => ⟨hP _ (hm.2 k hk), trivial⟩)).1
  · show 1000 - 12 * ((i + 1 : Nat) : Int) ≤ W (x - l.m i) ∧ W (x - l.m i) ≤ 1000
    rw [W_id (by omega) (by omega)]; omega
theorem near_PR {p : P2} (h : nearF p = true) : PR p := by
  unfold nearF at h
  rw [andB_eq, andB_eq, andB_eq, Bool.and_eq_true, Bool.and_eq_true, Bool.and_eq_true, decide_eq_true_eq, decide_eq_true_eq, decide_eq_true_eq, decide_eq_true_eq] at h
  exact ⟨⟨by omega, by omega⟩, ⟨by omega, by omega⟩⟩
theorem eqP_iff {a b : P2} : (bif a.x == b.x then bif a.y == b.y then true else false else false) = true ↔ a = b := by
  obtain ⟨x, y⟩ := a
  obtain ⟨x', y'⟩ := b
  by_cases h : x = x'
  · by_cases k : y = y'
    · subst h; subst k; simp
    · simp [h, k]
  · simp [h]
theorem bare_1 (a : P2) (r : Int) (add : Nat → Bool) (sub : Nat → Shp) : bareF (toSh (.mk 1 a ze ze r zeC 0 add sub)) = true := by kernel_rfl
theorem bare_3 (a b : P2) (r : Int) (add : Nat → Bool) (sub : Nat → Shp) : bareF (toSh (.mk 3 a b ze r zeC 0 add sub)) = true := by kernel_rfl
theorem bare_4 (a b : P2) (r : Int) (add : Nat → Bool) (sub : Nat → Shp) : bareF (toSh (.mk 4 a b ze r zeC 0 add sub)) = true := by kernel_rfl
theorem bare_5 (a b c : P2) (r : Int) (add : Nat → Bool) (sub : Nat → Shp) : bareF (toSh (.mk 5 a b c r zeC 0 add sub)) = true := by kernel_rfl
theorem bare_2 (l : Ctr) (add : Nat → Bool) (sub : Nat → Shp) : bareF (toSh (.mk 2 ze ze ze 0 l 0 add sub)) = true := by kernel_rfl
theorem bare_6 (n : Nat) (add : Nat → Bool) (sub : Nat → Shp) : bareF (toSh (.mk 6 ze ze ze 0 zeC n add sub)) = true := by kernel_rfl
theorem fine_valid {P : P2 → Prop} (hP : ∀ p, P p → nearF p = true) : ∀ (s : Shp) (d forms left : Int), Fine P s d → 0 ≤ d → 0 ≤ forms → forms ≤ d → Nd d ≤ left → left ≤ 1000 →
    (validF s forms left).1 = true ∧ left - Nd d ≤ (validF s forms left).2 ∧ (validF s forms left).2 ≤ left := by
  intro s
  induction s with
  | nil => intro d forms left h; exact h.elim
  | mk k a b c r l n add sub ih =>
    intro d forms left h h0 hf hfd hl h1
    have nd := Nd_one d
    have nn := Nd_one (d + 1)
    have e1 : decide (left < 1) = false := decide_eq_false (by omega)
    have e2 : W (left - 1) = left - 1 := W_id (by omega) (by omega)
    have fin : ∀ v : Bool × Int, v = (true, left - 1) → v.1 = true ∧ left - Nd d ≤ v.2 ∧ v.2 ≤ left := fun v hv => by subst hv; exact ⟨rfl, by dsimp only; omega, by dsimp only; omega⟩
    rcases h with ⟨rfl, rfl, rfl, rfl, rfl, ha, hr⟩ | ⟨rfl, rfl, rfl, rfl, ha, hb, hr⟩ | ⟨rfl, rfl, rfl, rfl, ha, hb, hr, hn⟩ | ⟨rfl, rfl, rfl, ha, hb, hc, hr, ho⟩ | ⟨rfl, rfl, rfl, rfl, rfl, rfl, hc⟩ | ⟨rfl, rfl, rfl, rfl, rfl, rfl, h5, hm, hs⟩
    · refine fin _ ?_
      simp only [validF]
      rw [e1, bare_1, e2, hP a ha, hr]; rfl
    · refine fin _ ?_
      simp only [validF]
      rw [e1, bare_3, e2, hP a ha, hP b hb, hr]; rfl
    · refine fin _ ?_
      simp only [validF]
      rw [e1, bare_4, e2, hP a ha, hP b hb, hr, show (bif a.x == b.x then bif a.y == b.y then true else false else false) = false by rw [Bool.eq_false_iff]; exact fun q => hn (eqP_iff.1 q)]; rfl
    · refine fin _ ?_
      simp only [validF]
      rw [e1, bare_5, e2, hP a ha, hP b hb, hP c hc, hr, (ringOk_eq (near_PR (hP c hc)) (near_PR (hP a ha)) (near_PR (hP b hb))).2 ho]; rfl
    · refine fin _ ?_
      simp only [validF]
      rw [e1, bare_2, e2, ctg_fine hP hc]; rfl
    · have st := Nd_step h0 h5 (show 0 ≤ (n : Int) by omega) (by omega)
      have key := runN_inv (g := fun i lf => validF (sub i) (W (forms + 1)) lf) (a := left - 1) (fun i (lf : Int) => left - 1 - (i : Int) * Nd (d + 1) ≤ lf ∧ lf ≤ left - 1) ⟨by omega, by omega⟩ n (fun i x hi hx => by
        have a1 : ((i + 1 : Nat) : Int) * Nd (d + 1) ≤ (n : Int) * Nd (d + 1) := Int.mul_le_mul_of_nonneg_right (by omega) (by omega)
        have a2 : ((i + 1 : Nat) : Int) * Nd (d + 1) = (i : Int) * Nd (d + 1) + Nd (d + 1) := by rw [show ((i + 1 : Nat) : Int) = (i : Int) + 1 by omega, Int.add_mul, Int.one_mul]
        have w : W (forms + 1) = forms + 1 := W_id (by omega) (by omega)
        have q := ih i (d + 1) (forms + 1) x (hs i hi) (by omega) (by omega) (by omega) (by omega) (by omega)
        rw [w]
        refine ⟨q.1, ?_, ?_⟩
        · omega
        · omega)
      have ev : validF (.mk 6 ze ze ze 0 zeC n add sub) forms left = runN (fun i lf => validF (sub i) (W (forms + 1)) lf) (left - 1) n := by
        simp only [validF]
        rw [e1, bare_6, e2, decide_eq_false (show ¬ forms ≥ 8 by omega)]; rfl
      rw [ev]
      exact ⟨key.1, by omega, by omega⟩
end Go.Proofs.YthnenjodighlmaaGreat

/-! ## Fio -/
namespace Go.Proofs.YthnenjodighlmaaGreat
open Go Go.RowKit Sym
set_option maxRecDepth 100000

/-- no farther out than B -/
def PB (B : Int) (p : P2) : Prop := (-B ≤ p.x ∧ p.x ≤ B) ∧ (-B ≤ p.y ∧ p.y ≤ B)
theorem PB_near {B : Int} (h : B ≤ 536870912) {p : P2} (k : PB B p) : nearF p = true := by
  unfold nearF
  rw [decide_eq_true (show p.x ≥ -536870912 by have := k.1; omega), decide_eq_true (show p.x ≤ 536870912 by have := k.1; omega), decide_eq_true (show p.y ≥ -536870912 by have := k.2; omega), decide_eq_true (show p.y ≤ 536870912 by have := k.2; omega)]
  rfl
/-- how far out a tame shape goes -/
def tmX (sm : Bool) : Int := bif sm then 40 else 536870912
theorem at_PB (p : P2) (sm : Bool) : PB (tmX sm) (atP p sm) := by
  cases sm
  · exact lPt_r p
  · have h := lClose_r p (n := 20) (by decide) (by decide)
    exact ⟨⟨by show (-40 : Int) ≤ (lClose p 20).x; omega, by show (lClose p 20).x ≤ (40 : Int); omega⟩, ⟨by show (-40 : Int) ≤ (lClose p 20).y; omega, by show (lClose p 20).y ≤ (40 : Int); omega⟩⟩
theorem at_PB0 (p : P2) (sm : Bool) : (-536870912 ≤ (atP p sm).x ∧ (atP p sm).x ≤ 536870912) := by
  have h := at_PB p sm
  cases sm
  · exact h.1
  · have := h.1; unfold tmX at this; simp only [cond_true] at this; omega
theorem tmB_ok (s : Sh) (sm : Bool) : PB (tmX sm) (tmB s sm) ∧ atP s.a sm ≠ tmB s sm := by
  have hb := at_PB s.b sm
  have h0 := at_PB0 s.b sm
  have hx : 40 ≤ tmX sm := by cases sm <;> decide
  unfold tmB
  cases e : eqP (atP s.a sm) (atP s.b sm)
  · refine ⟨hb, fun q => ?_⟩
    rw [Bool.eq_false_iff] at e
    exact e (eqP_iff.2 q)
  · have ea : atP s.a sm = atP s.b sm := eqP_iff.1 e
    cases g : decide ((atP s.b sm).x > 0)
    · rw [decide_eq_false_iff_not] at g
      have w : W ((atP s.b sm).x + 1) = (atP s.b sm).x + 1 := W_id (by omega) (by omega)
      refine ⟨⟨⟨by show _ ≤ W ((atP s.b sm).x + 1); rw [w]; have := hb.1; omega, by show W ((atP s.b sm).x + 1) ≤ _; rw [w]; omega⟩, hb.2⟩, fun q => ?_⟩
      have : (atP s.a sm).x = W ((atP s.b sm).x + 1) := congrArg P2.x q
      rw [ea, w] at this; omega
    · rw [decide_eq_true_eq] at g
      have w : W ((atP s.b sm).x - 1) = (atP s.b sm).x - 1 := W_id (by omega) (by omega)
      refine ⟨⟨⟨by show _ ≤ W ((atP s.b sm).x - 1); rw [w]; omega, by show W ((atP s.b sm).x - 1) ≤ _; rw [w]; have := hb.1; omega⟩, hb.2⟩, fun q => ?_⟩
      have : (atP s.a sm).x = W ((atP s.b sm).x - 1) := congrArg P2.x q
      rw [ea, w] at this; omega
theorem tmR_ok (s : Sh) (sm : Bool) : widF (tmR s sm) = true := by
  have h := lR_bd s.r
  unfold widF
  cases sm
  · show andB (decide (lR s.r ≥ 1)) (decide (lR s.r ≤ 536870912)) = true
    rw [decide_eq_true (show lR s.r ≥ 1 by omega), decide_eq_true h.2]; rfl
  · have h1 := Int.tmod_nonneg (a := lR s.r) 15 (by omega)
    have h2 := (tmod_bd (lR s.r) (n := 15) (by decide)).2
    show andB (decide (W ((lR s.r).tmod 15 + 1) ≥ 1)) (decide (W ((lR s.r).tmod 15 + 1) ≤ 536870912)) = true
    rw [W_id (by omega) (by omega), decide_eq_true (show (lR s.r).tmod 15 + 1 ≥ 1 by omega), decide_eq_true (show (lR s.r).tmod 15 + 1 ≤ 536870912 by omega)]; rfl
theorem arcC_PB (c : P2) (sm : Bool) : PB (tmX sm) (arcC c sm) := by
  cases sm
  · have h := arcC_r c false
    exact ⟨⟨by show (-536870912 : Int) ≤ _; omega, by show _ ≤ (536870912 : Int); omega⟩, ⟨by show (-536870912 : Int) ≤ _; omega, by show _ ≤ (536870912 : Int); omega⟩⟩
  · have h := arcC_s c
    exact ⟨⟨by show (-40 : Int) ≤ _; omega, by show _ ≤ (40 : Int); omega⟩, ⟨by show (-40 : Int) ≤ _; omega, by show _ ≤ (40 : Int); omega⟩⟩
theorem arcAt_PB (c : P2) (f s : Int) (sm : Bool) : PB (tmX sm) (arcAt c f s sm) := by
  rw [arcAt_eq]
  have h := circ_ok f
  cases sm
  · have hc := arcC_r c false
    have kk := arcK_bd s false
    have x := mul_bd (A := 20000000) (B := 5) (x := arcK s false) (y := (circ f).x) (by omega) (by omega) h.x.1 h.x.2
    have y := mul_bd (A := 20000000) (B := 5) (x := arcK s false) (y := (circ f).y) (by omega) (by omega) h.y.1 h.y.2
    exact ⟨⟨by show (-536870912 : Int) ≤ (arcC c false).x + _; omega, by show (arcC c false).x + _ ≤ (536870912 : Int); omega⟩, ⟨by show (-536870912 : Int) ≤ (arcC c false).y + _; omega, by show (arcC c false).y + _ ≤ (536870912 : Int); omega⟩⟩
  · have hc := arcC_s c
    have kk := arcK1_bd s
    have x := mul_bd (A := 4) (B := 5) (x := arcK1 s) (y := (circ f).x) (by omega) (by omega) h.x.1 h.x.2
    have y := mul_bd (A := 4) (B := 5) (x := arcK1 s) (y := (circ f).y) (by omega) (by omega) h.y.1 h.y.2
    exact ⟨⟨by show (-40 : Int) ≤ (arcC c true).x + arcK1 s * (circ f).x; omega, by show (arcC c true).x + arcK1 s * (circ f).x ≤ (40 : Int); omega⟩, ⟨by show (-40 : Int) ≤ (arcC c true).y + arcK1 s * (circ f).y; omega, by show (arcC c true).y + arcK1 s * (circ f).y ≤ (40 : Int); omega⟩⟩
theorem arc_okJ (c : P2) (f t s : Int) (sm : Bool) : okI (arcC c sm) (arcAt c f s sm) (arcAt c t s sm) := by
  have kk := arcK_bd s sm
  have a := (onC_r (arcC_r c sm) kk (circ_ok f)).2
  have b := (onC_r (arcC_r c sm) kk (circ_ok t)).2
  rw [arcAt_eq, arcAt_eq]
  have p : 1 ≤ arcK s sm * arcK s sm := Int.le_trans (show (1 : Int) ≤ 1 * 1 by decide) (Int.mul_le_mul kk.1 kk.1 (by decide) (by omega))
  exact ⟨by rw [a]; omega, by rw [a, b]⟩
theorem tameC_Fin (l : Ctr) (sm : Bool) : FinC (PB (tmX sm)) (tameC l sm) := by
  refine ⟨by show min l.n 4 ≤ 4; omega, fun i _ => ⟨by show min (l.m i) 12 ≤ 12; omega, fun k _ => ?_⟩⟩
  cases sm
  · exact lPt_r (l.p i k)
  · have h := lClose_r (lPt (l.p i k)) (n := 20) (by decide) (by decide)
    exact ⟨⟨by show (-40 : Int) ≤ (lClose (lPt (l.p i k)) 20).x; omega, by show (lClose (lPt (l.p i k)) 20).x ≤ (40 : Int); omega⟩, ⟨by show (-40 : Int) ≤ (lClose (lPt (l.p i k)) 20).y; omega, by show (lClose (lPt (l.p i k)) 20).y ≤ (40 : Int); omega⟩⟩
theorem tmK0_bd (s : Sh) : 1 ≤ tmK0 s ∧ tmK0 s ≤ 6 := by
  have a := tmod_bd s.k (n := 6) (by decide)
  have w : W (s.k.tmod 6 + 6) = s.k.tmod 6 + 6 := W_id (by omega) (by omega)
  have b := Int.tmod_nonneg (a := s.k.tmod 6 + 6) 6 (by omega)
  have c := (tmod_bd (s.k.tmod 6 + 6) (n := 6) (by decide)).2
  unfold tmK0
  rw [w, W_id (by omega) (by omega)]; omega
theorem tmKk_bd (s : Sh) (d : Int) : (1 ≤ tmKk s d ∧ tmKk s d ≤ 6) ∧ (tmKk s d = 6 → d ≤ 5) := by
  have a := tmK0_bd s
  unfold tmKk
  by_cases h : d > 5
  · rw [decide_eq_true h]
    cases g : tmK0 s == 6
    · refine ⟨a, fun e => ?_⟩
      have e : tmK0 s = 6 := e
      rw [e] at g; cases g
    · exact ⟨by show (1 : Int) ≤ 1 ∧ (1 : Int) ≤ 6; omega, fun e => by cases e⟩
  · rw [decide_eq_false h]
    exact ⟨a, fun _ => by omega⟩
theorem tame_fine (sm : Bool) : ∀ (s : Shp) (d : Int), ShB s → 0 ≤ d → d ≤ 6 → Fine (PB (tmX sm)) (tameS s sm d) d := by
  intro s
  induction s with
  | nil => intro d h; exact h.elim
  | mk k a b c r l n add sub ih =>
    intro d h h0 h6
    have kk := tmKk_bd ⟨k, a, b, c, r, l, n, noF⟩ d
    have kb := tmB_ok ⟨k, a, b, c, r, l, n, noF⟩ sm
    have kr := tmR_ok ⟨k, a, b, c, r, l, n, noF⟩ sm
    simp only [tameS]
    generalize tmKk ⟨k, a, b, c, r, l, n, noF⟩ d = K at *
    have : K = 1 ∨ K = 2 ∨ K = 3 ∨ K = 4 ∨ K = 5 ∨ K = 6 := by omega
    rcases this with rfl | rfl | rfl | rfl | rfl | rfl
    · exact .inl ⟨rfl, rfl, rfl, rfl, rfl, at_PB a sm, kr⟩
    · exact .inr (.inr (.inr (.inr (.inl ⟨rfl, rfl, rfl, rfl, rfl, rfl, tameC_Fin l sm⟩))))
    · exact .inr (.inl ⟨rfl, rfl, rfl, rfl, at_PB a sm, kb.1, kr⟩)
    · exact .inr (.inr (.inl ⟨rfl, rfl, rfl, rfl, at_PB a sm, kb.1, kr, kb.2⟩))
    · exact .inr (.inr (.inr (.inl ⟨rfl, rfl, rfl, arcAt_PB _ _ _ _, arcAt_PB _ _ _ _, arcC_PB _ _, kr, arc_okJ _ _ _ _ _⟩)))
    · have h5 := kk.2 rfl
      have w : W (4 - d) = 4 - d := W_id (by omega) (by omega)
      have wd : W (d + 1) = d + 1 := W_id (by omega) (by omega)
      have hn : tmN ⟨k, a, b, c, r, l, n, noF⟩ d = min n (imax (4 - d) 1).toNat := by unfold tmN; rw [w]
      refine .inr (.inr (.inr (.inr (.inr ⟨rfl, rfl, rfl, rfl, rfl, rfl, h5, ?_, fun i hi => ?_⟩))))
      · rw [hn]; unfold imax; split <;> omega
      · rw [wd]
        exact ih i (d + 1) (h.2.2 i (by rw [hn] at hi; omega)) (by omega) (by omega)
end Go.Proofs.YthnenjodighlmaaGreat

/-! ## Poi -/
namespace Go.Proofs.YthnenjodighlmaaGreat
open Go Go.RowKit Sym

def crossesI (p a e : P2) : Bool := (decide (a.y > p.y) != decide (e.y > p.y)) && (if e.y > a.y then decide (crossI a e p > 0) else decide (crossI a e p < 0))
theorem crossesF_eq {p a e : P2} (hp : PR p) (ha : PR a) (he : PR e) : crossesF p a e = crossesI p a e := by
  unfold crossesF crossesI
  rw [(cross_eq ha he hp).1]
  by_cases k : e.y > a.y
  · simp only [k, decide_true, if_true]
    cases decide (a.y > p.y) <;> cases decide (e.y > p.y) <;> rfl
  · simp only [k, decide_false, if_false]
    cases decide (a.y > p.y) <;> cases decide (e.y > p.y) <;> rfl
def spotB (p : P2) : B4 := ⟨p.x, p.y, p.x, p.y⟩
/-- a point lies on an edge -/
def onI (p a e : P2) : Bool := decide (min a.x e.x ≤ p.x ∧ p.x ≤ max a.x e.x ∧ min a.y e.y ≤ p.y ∧ p.y ≤ max a.y e.y ∧ crossI a e p = 0)
theorem spot_meets (p a e : P2) : meetsI (spotB p) a e = onI p a e := by
  have h : ∀ f : P2 → Bool, all4 f (spotB p) = f p := fun f => by unfold all4 spotB; dsimp only; cases f ⟨p.x, p.y⟩ <;> rfl
  unfold meetsI
  rw [h, h]
  rw [Bool.eq_iff_iff]
  unfold sepI onI spotB
  simp only [Bool.and_eq_true, Bool.not_eq_true', Bool.or_eq_false_iff, decide_eq_false_iff_not, decide_eq_true_eq]
  omega
/-! ### rectangles -/
end Go.Proofs.YthnenjodighlmaaGreat

/-! ## Pos -/
namespace Go.Proofs.YthnenjodighlmaaGreat
open Go Go.RowKit Sym

theorem meetsI_swp (b : B4) (p q : P2) : meetsI b q p = meetsI b p q := by
  have e : ∀ c, crossI q p c = -(crossI p q c) := fun c => by unfold crossI; grind
  unfold meetsI sepI
  rw [show all4 (fun c => decide (crossI q p c > 0)) b = all4 (fun c => decide (crossI p q c < 0)) b from by
    unfold all4; simp only [e, show ∀ x : Int, decide (-x > 0) = decide (x < 0) from fun x => by rw [Bool.eq_iff_iff]; simp only [decide_eq_true_eq]; omega]]
  rw [show all4 (fun c => decide (crossI q p c < 0)) b = all4 (fun c => decide (crossI p q c > 0)) b from by
    unfold all4; simp only [e, show ∀ x : Int, decide (-x < 0) = decide (x > 0) from fun x => by rw [Bool.eq_iff_iff]; simp only [decide_eq_true_eq]; omega]]
  rw [Int.max_comm q.x, Int.max_comm q.y, Int.min_comm q.x, Int.min_comm q.y]
  cases all4 (fun c => decide (crossI p q c > 0)) b <;> cases all4 (fun c => decide (crossI p q c < 0)) b <;> rfl
theorem crossesI_swp (p a e : P2) : crossesI p e a = crossesI p a e := by
  have h : crossI e a p = -(crossI a e p) := by unfold crossI; grind
  unfold crossesI
  rw [h, Bool.eq_iff_iff]
  by_cases k : e.y > a.y <;> by_cases k' : a.y > e.y <;> simp only [k, k', if_true, if_false, Bool.and_eq_true, bne_iff_ne, ne_eq, decide_eq_decide, decide_eq_true_eq] <;> omega
/-- an edge meets a box of which it has a point on each side -/
theorem meets_two {b : B4} {a e p q : P2} (hp : hasI b p) (hq : hasI b q) (h0 : crossI a e p ≤ 0) (h1 : 0 ≤ crossI a e q) (hs : sepI b a e = false) : meetsI b a e = true := by
  obtain ⟨k, hk, hl⟩ := cross_le a e hp
  obtain ⟨k', hk', hl'⟩ := cross_ge a e hq
  have f1 : all4 (fun c => decide (crossI a e c > 0)) b = false := by
    rw [Bool.eq_false_iff]; intro h
    have := all4_iff.1 h k hk
    simp only [decide_eq_true_eq] at this; omega
  have f2 : all4 (fun c => decide (crossI a e c < 0)) b = false := by
    rw [Bool.eq_false_iff]; intro h
    have := all4_iff.1 h k' hk'
    simp only [decide_eq_true_eq] at this; omega
  unfold meetsI
  rw [hs, f1, f2]; rfl
theorem sep_no {b : B4} {a e : P2} (h1 : b.x0 ≤ max a.x e.x) (h2 : min a.x e.x ≤ b.x1) (h3 : b.y0 ≤ max a.y e.y) (h4 : min a.y e.y ≤ b.y1) : sepI b a e = false := by
  unfold sepI
  simp only [Bool.or_eq_false_iff, decide_eq_false_iff_not]
  omega
/-- left of an edge that goes up -/
theorem left_of {a e p : P2} (h1 : a.y ≤ p.y) (h2 : p.y ≤ e.y) (h : a.y < e.y) (hx : p.x < a.x) (hx' : p.x < e.x) : 0 < crossI a e p := by
  have e0 : crossI a e p = (e.x - p.x) * (p.y - a.y) + (a.x - p.x) * (e.y - p.y) := by unfold crossI; grind
  have p1 := Int.mul_nonneg (show 0 ≤ e.x - p.x by omega) (show 0 ≤ p.y - a.y by omega)
  have p2 := Int.mul_nonneg (show 0 ≤ a.x - p.x by omega) (show 0 ≤ e.y - p.y by omega)
  rcases (show a.y < p.y ∨ p.y < e.y by omega) with k | k
  · have := Int.mul_pos (show 0 < e.x - p.x by omega) (show 0 < p.y - a.y by omega); omega
  · have := Int.mul_pos (show 0 < a.x - p.x by omega) (show 0 < e.y - p.y by omega); omega
theorem right_of {a e p : P2} (h1 : a.y ≤ p.y) (h2 : p.y ≤ e.y) (hx : a.x ≤ p.x) (hx' : e.x ≤ p.x) : crossI a e p ≤ 0 := by
  have e0 : crossI a e p = -((p.x - e.x) * (p.y - a.y)) - (p.x - a.x) * (e.y - p.y) := by unfold crossI; grind
  have p1 := Int.mul_nonneg (show 0 ≤ p.x - e.x by omega) (show 0 ≤ p.y - a.y by omega)
  have p2 := Int.mul_nonneg (show 0 ≤ p.x - a.x by omega) (show 0 ≤ e.y - p.y by omega)
  omega
theorem crosses_up {p a e : P2} (h : a.y ≤ e.y) : crossesI p a e = true ↔ a.y ≤ p.y ∧ p.y < e.y ∧ 0 < crossI a e p := by
  unfold crossesI
  by_cases k : e.y > a.y
  · simp only [k, if_true, Bool.and_eq_true, bne_iff_ne, ne_eq, decide_eq_decide, decide_eq_true_eq]; omega
  · simp only [k, if_false, Bool.and_eq_true, bne_iff_ne, ne_eq, decide_eq_decide, decide_eq_true_eq]; omega
/-- moved to the side -/
theorem cross_side {b : B4} {a e p q : P2} (hp : hasI b p) (hq : hasI b q) (hy : p.y = q.y) (hm : meetsI b a e = false) : crossesI p a e = crossesI q a e := by
  have one : ∀ {a e : P2}, a.y ≤ e.y → meetsI b a e = false → ∀ {p q : P2}, hasI b p → hasI b q → p.y = q.y → crossesI p a e = true → crossesI q a e = true := by
    intro a e h hm p q hp hq hy hc
    obtain ⟨c1, c2, c3⟩ := (crosses_up h).1 hc
    refine (crosses_up h).2 ⟨by omega, by omega, ?_⟩
    rcases (show 0 < crossI a e q ∨ crossI a e q ≤ 0 by omega) with g | g
    · exact g
    · exfalso
      have hs : sepI b a e = false := by
        unfold hasI at hp hq
        refine sep_no ?_ ?_ (by omega) (by omega)
        · rcases (show b.x0 ≤ max a.x e.x ∨ max a.x e.x < b.x0 by omega) with k | k
          · exact k
          · have := right_of (a := a) (e := e) (p := p) (by omega) (by omega) (by omega) (by omega); omega
        · rcases (show min a.x e.x ≤ b.x1 ∨ b.x1 < min a.x e.x by omega) with k | k
          · exact k
          · have := left_of (a := a) (e := e) (p := q) (by omega) (by omega) (by omega) (by omega) (by omega); omega
      rw [meets_two hq hp g (by omega) hs] at hm; cases hm
  rw [Bool.eq_iff_iff]
  rcases Int.le_total a.y e.y with h | h
  · exact ⟨one h hm hp hq hy, one h hm hq hp hy.symm⟩
  · rw [← crossesI_swp p, ← crossesI_swp q]
    rw [← meetsI_swp] at hm
    exact ⟨one h hm hp hq hy, one h hm hq hp hy.symm⟩
/-- right of the way up from height v to height v' -/
def stripB (u v v' : Int) (w : P2) : Bool := decide (v < w.y ∧ w.y ≤ v' ∧ u < w.x)
theorem cross_end (a e : P2) (u : Int) : crossI a e ⟨u, e.y⟩ = (e.y - a.y) * (e.x - u) ∧ crossI a e ⟨u, a.y⟩ = (e.y - a.y) * (a.x - u) := by
  unfold crossI; dsimp only; constructor <;> grind
theorem mul_sign {t x : Int} (h : 0 ≤ t) : (0 < x ∧ 0 ≤ t * x) ∨ (x = 0 ∧ t * x = 0) ∨ (x < 0 ∧ t * x ≤ 0) := by
  rcases (show 0 < x ∨ x = 0 ∨ x < 0 by omega) with k | k | k
  · exact .inl ⟨k, Int.mul_nonneg h (by omega)⟩
  · subst k; exact .inr (.inl ⟨rfl, Int.mul_zero _⟩)
  · have := Int.mul_nonneg h (show 0 ≤ -x by omega)
    rw [Int.mul_neg] at this; exact .inr (.inr ⟨k, by omega⟩)
/-- who is where: heights -/
theorem rise_cases {ay ey ax ex u v v' G1 G2 : Int} (h : ay ≤ ey) (hv : v ≤ v')
    (hC : ay ≤ v → v' < ey → (0 < G1 ↔ 0 < G2)) (hD : ay ≤ v → v < ey → ey ≤ v' → (0 < G1 ↔ u < ex)) (hE : v < ay → ay ≤ v' → v' < ey → (0 < G2 ↔ u < ax)) (hF : v < ay → ey ≤ v' → (u < ax ↔ u < ex)) :
    xor (decide (ay ≤ v ∧ v < ey ∧ 0 < G1)) (decide (ay ≤ v' ∧ v' < ey ∧ 0 < G2)) = xor (decide (v < ay ∧ ay ≤ v' ∧ u < ax)) (decide (v < ey ∧ ey ≤ v' ∧ u < ex)) := by
  have D : ∀ {a b : Prop} [Decidable a] [Decidable b], (a ↔ b) → decide a = decide b := fun h => decide_eq_decide.2 h
  have N : ∀ {a : Prop} [Decidable a], ¬ a → decide a = false := fun h => decide_eq_false h
  rcases (show ey ≤ v ∨ v' < ay ∨ (ay ≤ v ∧ v' < ey) ∨ (ay ≤ v ∧ v < ey ∧ ey ≤ v') ∨ (v < ay ∧ ay ≤ v' ∧ v' < ey) ∨ (v < ay ∧ ey ≤ v') by omega) with k | k | ⟨k1, k2⟩ | ⟨k1, k2, k3⟩ | ⟨k1, k2, k3⟩ | ⟨k1, k2⟩
  · rw [N (show ¬ (ay ≤ v ∧ v < ey ∧ 0 < G1) by omega), N (show ¬ (ay ≤ v' ∧ v' < ey ∧ 0 < G2) by omega), N (show ¬ (v < ay ∧ ay ≤ v' ∧ u < ax) by omega), N (show ¬ (v < ey ∧ ey ≤ v' ∧ u < ex) by omega)]
  · rw [N (show ¬ (ay ≤ v ∧ v < ey ∧ 0 < G1) by omega), N (show ¬ (ay ≤ v' ∧ v' < ey ∧ 0 < G2) by omega), N (show ¬ (v < ay ∧ ay ≤ v' ∧ u < ax) by omega), N (show ¬ (v < ey ∧ ey ≤ v' ∧ u < ex) by omega)]
  · have := hC k1 k2
    rw [D (show (ay ≤ v ∧ v < ey ∧ 0 < G1) ↔ 0 < G1 from ⟨fun z => z.2.2, fun z => ⟨k1, by omega, z⟩⟩), D (show (ay ≤ v' ∧ v' < ey ∧ 0 < G2) ↔ 0 < G1 from ⟨fun z => this.2 z.2.2, fun z => ⟨by omega, k2, this.1 z⟩⟩), N (show ¬ (v < ay ∧ ay ≤ v' ∧ u < ax) by omega), N (show ¬ (v < ey ∧ ey ≤ v' ∧ u < ex) by omega)]
    simp
  · have := hD k1 k2 k3
    rw [D (show (ay ≤ v ∧ v < ey ∧ 0 < G1) ↔ u < ex from ⟨fun z => this.1 z.2.2, fun z => ⟨k1, k2, this.2 z⟩⟩), N (show ¬ (ay ≤ v' ∧ v' < ey ∧ 0 < G2) by omega), N (show ¬ (v < ay ∧ ay ≤ v' ∧ u < ax) by omega), D (show (v < ey ∧ ey ≤ v' ∧ u < ex) ↔ u < ex from ⟨fun z => z.2.2, fun z => ⟨k2, k3, z⟩⟩)]
    simp
  · have := hE k1 k2 k3
    rw [N (show ¬ (ay ≤ v ∧ v < ey ∧ 0 < G1) by omega), D (show (ay ≤ v' ∧ v' < ey ∧ 0 < G2) ↔ u < ax from ⟨fun z => this.1 z.2.2, fun z => ⟨k2, k3, this.2 z⟩⟩), D (show (v < ay ∧ ay ≤ v' ∧ u < ax) ↔ u < ax from ⟨fun z => z.2.2, fun z => ⟨k1, k2, z⟩⟩), N (show ¬ (v < ey ∧ ey ≤ v' ∧ u < ex) by omega)]
    simp
  · have := hF k1 k2
    rw [N (show ¬ (ay ≤ v ∧ v < ey ∧ 0 < G1) by omega), N (show ¬ (ay ≤ v' ∧ v' < ey ∧ 0 < G2) by omega), D (show (v < ay ∧ ay ≤ v' ∧ u < ax) ↔ u < ax from ⟨fun z => z.2.2, fun z => ⟨k1, by omega, z⟩⟩), D (show (v < ey ∧ ey ≤ v' ∧ u < ex) ↔ u < ax from ⟨fun z => this.2 z.2.2, fun z => ⟨by omega, k2, this.1 z⟩⟩)]
    simp
theorem cross_rise {b : B4} {a e : P2} {u v v' : Int} (hv : v ≤ v') (hp : hasI b ⟨u, v⟩) (hq : hasI b ⟨u, v'⟩) (hm : meetsI b a e = false) : xor (crossesI ⟨u, v⟩ a e) (crossesI ⟨u, v'⟩ a e) = xor (stripB u v v' a) (stripB u v v' e) := by
  have one : ∀ {a e : P2}, a.y ≤ e.y → meetsI b a e = false → xor (crossesI ⟨u, v⟩ a e) (crossesI ⟨u, v'⟩ a e) = xor (stripB u v v' a) (stripB u v v' e) := by
    intro a e h hm
    have c1 := crosses_up (p := ⟨u, v⟩) h
    have c2 := crosses_up (p := ⟨u, v'⟩) h
    obtain ⟨ee, ea⟩ := cross_end a e u
    have se := mul_sign (t := e.y - a.y) (x := e.x - u) (by omega)
    have sa := mul_sign (t := e.y - a.y) (x := a.x - u) (by omega)
    rw [← ee] at se
    rw [← ea] at sa
    have hu : b.x0 ≤ u ∧ u ≤ b.x1 ∧ b.y0 ≤ v ∧ v' ≤ b.y1 := by unfold hasI at hp hq; dsimp only at *; omega
    have rl : ∀ y, v ≤ y → y ≤ v' → hasI b ⟨u, y⟩ := fun y h1 h2 => by unfold hasI; dsimp only; omega
    -- no two points of the way lie on both sides
    have no : ∀ y y', v ≤ y → y ≤ v' → v ≤ y' → y' ≤ v' → a.y ≤ v' → v ≤ e.y → min a.x e.x ≤ u → u ≤ max a.x e.x → ¬ (crossI a e ⟨u, y⟩ ≤ 0 ∧ 0 ≤ crossI a e ⟨u, y'⟩) := fun y y' h1 h2 h3 h4 h5 h6 h7 h8 g => by
      rw [meets_two (rl y h1 h2) (rl y' h3 h4) g.1 g.2 (sep_no (by omega) (by omega) (by omega) (by omega))] at hm; cases hm
    have lf : ∀ y, a.y ≤ y → y ≤ e.y → a.y < e.y → u < a.x → u < e.x → 0 < crossI a e ⟨u, y⟩ := fun y h1 h2 h3 h4 h5 => left_of (p := ⟨u, y⟩) h1 h2 h3 h4 h5
    have rt : ∀ y, a.y ≤ y → y ≤ e.y → a.x ≤ u → e.x ≤ u → crossI a e ⟨u, y⟩ ≤ 0 := fun y h1 h2 h4 h5 => right_of (p := ⟨u, y⟩) h1 h2 h4 h5
    dsimp only at c1 c2
    have X1 : crossesI ⟨u, v⟩ a e = decide (a.y ≤ v ∧ v < e.y ∧ 0 < crossI a e ⟨u, v⟩) := by rw [Bool.eq_iff_iff, decide_eq_true_eq]; exact c1
    have X2 : crossesI ⟨u, v'⟩ a e = decide (a.y ≤ v' ∧ v' < e.y ∧ 0 < crossI a e ⟨u, v'⟩) := by rw [Bool.eq_iff_iff, decide_eq_true_eq]; exact c2
    rw [X1, X2]
    unfold stripB
    have lr : (u < a.x ∧ u < e.x) ∨ (a.x ≤ u ∧ e.x ≤ u) ∨ (min a.x e.x ≤ u ∧ u ≤ max a.x e.x) := by omega
    refine rise_cases h hv (fun k1 k2 => ?_) (fun k1 k2 k3 => ?_) (fun k1 k2 k3 => ?_) (fun k1 k2 => ?_)
    · rcases lr with ⟨g1, g2⟩ | ⟨g1, g2⟩ | ⟨g1, g2⟩
      · exact ⟨fun _ => lf v' (by omega) (by omega) (by omega) g1 g2, fun _ => lf v (by omega) (by omega) (by omega) g1 g2⟩
      · have r1 := rt v (by omega) (by omega) g1 g2
        have r2 := rt v' (by omega) (by omega) g1 g2
        omega
      · have n1 := no v v' (Int.le_refl _) hv hv (Int.le_refl _) (by omega) (by omega) g1 g2
        have n2 := no v' v hv (Int.le_refl _) (Int.le_refl _) hv (by omega) (by omega) g1 g2
        omega
    · rcases lr with ⟨g1, g2⟩ | ⟨g1, g2⟩ | ⟨g1, g2⟩
      · exact ⟨fun _ => g2, fun _ => lf v (by omega) (by omega) (by omega) g1 g2⟩
      · have r1 := rt v (by omega) (by omega) g1 g2
        omega
      · have n1 := no v e.y (Int.le_refl _) hv (by omega) (by omega) (by omega) (by omega) g1 g2
        have n2 := no e.y v (by omega) (by omega) (Int.le_refl _) hv (by omega) (by omega) g1 g2
        omega
    · rcases lr with ⟨g1, g2⟩ | ⟨g1, g2⟩ | ⟨g1, g2⟩
      · exact ⟨fun _ => g1, fun _ => lf v' (by omega) (by omega) (by omega) g1 g2⟩
      · have r1 := rt v' (by omega) (by omega) g1 g2
        omega
      · have n1 := no v' a.y hv (Int.le_refl _) (by omega) (by omega) (by omega) (by omega) g1 g2
        have n2 := no a.y v' (by omega) (by omega) hv (Int.le_refl _) (by omega) (by omega) g1 g2
        omega
    · rcases lr with ⟨g1, g2⟩ | ⟨g1, g2⟩ | ⟨g1, g2⟩
      · omega
      · omega
      · have n1 := no a.y e.y (by omega) (by omega) (by omega) (by omega) (by omega) (by omega) g1 g2
        have n2 := no e.y a.y (by omega) (by omega) (by omega) (by omega) (by omega) (by omega) g1 g2
        omega
  rcases Int.le_total a.y e.y with h | h
  · exact one h hm
  · rw [← meetsI_swp] at hm
    rw [← crossesI_swp ⟨u, v⟩, ← crossesI_swp ⟨u, v'⟩, one h hm, Bool.xor_comm]
/-! ### contours -/
theorem parN_congr {f g : Nat → Bool} : ∀ {n : Nat}, (∀ k, k < n → f k = g k) → parN f n = parN g n
  | 0, _ => rfl
  | n + 1, h => by simp only [parN]; rw [parN_congr fun k hk => h k (by omega), h n (by omega)]
theorem anyN_congr {f g : Nat → Bool} : ∀ {n : Nat}, (∀ k, k < n → f k = g k) → anyN f n = anyN g n
  | 0, _ => rfl
  | n + 1, h => by simp only [anyN]; rw [anyN_congr fun k hk => h k (by omega), h n (by omega)]
theorem parN_xor (f g : Nat → Bool) : ∀ n, xor (parN f n) (parN g n) = parN (fun k => xor (f k) (g k)) n
  | 0 => rfl
  | n + 1 => by
    simp only [parN, ← parN_xor f g n]
    cases parN f n <;> cases parN g n <;> cases f n <;> cases g n <;> rfl
theorem parN_false : ∀ n, parN (fun _ => false) n = false
  | 0 => rfl
  | n + 1 => by simp only [parN, parN_false n]; rfl
theorem nxt_mid {m k : Nat} (h : k + 1 < m) : nxt m k = k + 1 := by
  unfold nxt
  rw [Int.tmod_eq_of_lt (by omega) (by omega)]; omega
theorem nxt_end (M : Nat) : nxt (M + 1) M = 0 := by
  unfold nxt
  rw [show ((M : Int) + 1) = ((M + 1 : Nat) : Int) by omega, Int.tmod_self]; rfl
theorem nxt_lt {m k : Nat} (h : k < m) : nxt m k < m := by
  rcases (show k + 1 < m ∨ k + 1 = m by omega) with g | g
  · rw [nxt_mid g]; exact g
  · subst g; rw [nxt_end]; omega
theorem par_way (R : Nat → Bool) : ∀ n, parN (fun k => xor (R k) (R (k + 1))) n = xor (R 0) (R n)
  | 0 => by simp [parN]
  | n + 1 => by
    simp only [parN, par_way R n]
    cases R 0 <;> cases R n <;> cases R (n + 1) <;> rfl
/-- around a contour nothing is left -/
theorem par_round (R : Nat → Bool) (m : Nat) : parN (fun k => xor (R k) (R (nxt m k))) m = false := by
  cases m with
  | zero => rfl
  | succ M =>
    simp only [parN]
    rw [parN_congr (g := fun k => xor (R k) (R (k + 1))) fun k hk => by rw [nxt_mid (by omega)], par_way, nxt_end]
    cases R 0 <;> cases R M <;> rfl
structure PRC (l : Ctr) : Prop where
  p : ∀ i, i < l.n → ∀ k, k < l.m i → PR (l.p i k)
def oddI (p : P2) (l : Ctr) : Bool := parN (fun i => parN (edgeC l (crossesI p) i) (l.m i)) l.n
def touchI (b : B4) (l : Ctr) : Bool := anyN (fun i => anyN (edgeC l (meetsI b) i) (l.m i)) l.n
theorem oddF_eq {p : P2} {l : Ctr} (hp : PR p) (hl : PRC l) : oddF p l = oddI p l := parN_congr fun i hi => parN_congr fun k hk => crossesF_eq hp (hl.p i hi k hk) (hl.p i hi _ (nxt_lt hk))
theorem touchF_eq {b : B4} {l : Ctr} (hb : BR b) (hx : b.x0 ≤ b.x1) (hy : b.y0 ≤ b.y1) (hl : PRC l) : touchF b l = touchI b l := anyN_congr fun i hi => anyN_congr fun k hk => meets_eq hb (hl.p i hi k hk) (hl.p i hi _ (nxt_lt hk)) hx hy
theorem touchI_no {b : B4} {l : Ctr} (h : touchI b l = false) : ∀ i, i < l.n → ∀ k, k < l.m i → meetsI b (l.p i k) (l.p i (nxt (l.m i) k)) = false := fun i hi k hk => by
  cases hq : meetsI b (l.p i k) (l.p i (nxt (l.m i) k)) with
  | false => rfl
  | true =>
    have : touchI b l = true := anyN_iff.2 ⟨i, hi, anyN_iff.2 ⟨k, hk, hq⟩⟩
    rw [h] at this; cases this
theorem odd_side {b : B4} {l : Ctr} {p q : P2} (h : touchI b l = false) (hp : hasI b p) (hq : hasI b q) (hy : p.y = q.y) : oddI p l = oddI q l :=
  parN_congr fun i hi => parN_congr fun k hk => cross_side hp hq hy (touchI_no h i hi k hk)
theorem odd_rise {b : B4} {l : Ctr} {u v v' : Int} (h : touchI b l = false) (hv : v ≤ v') (hp : hasI b ⟨u, v⟩) (hq : hasI b ⟨u, v'⟩) : oddI ⟨u, v⟩ l = oddI ⟨u, v'⟩ l := by
  have e : xor (oddI ⟨u, v⟩ l) (oddI ⟨u, v'⟩ l) = false := by
    unfold oddI
    rw [parN_xor, parN_congr (g := fun _ => false) fun i hi => ?_, parN_false]
    rw [parN_xor, parN_congr (f := fun k => xor (edgeC l (crossesI ⟨u, v⟩) i k) (edgeC l (crossesI ⟨u, v'⟩) i k)) (g := fun k => xor (stripB u v v' (l.p i k)) (stripB u v v' (l.p i (nxt (l.m i) k)))) fun k hk => cross_rise hv hp hq (touchI_no h i hi k hk)]
    exact par_round (fun k => stripB u v v' (l.p i k)) (l.m i)
  revert e
  cases oddI ⟨u, v⟩ l <;> cases oddI ⟨u, v'⟩ l <;> simp
/-- A box that no edge meets has one parity. -/
theorem odd_box {b : B4} {l : Ctr} {p q : P2} (h : touchI b l = false) (hp : hasI b p) (hq : hasI b q) : oddI p l = oddI q l := by
  have hm : hasI b ⟨p.x, q.y⟩ := ⟨hp.1, hp.2.1, hq.2.2.1, hq.2.2.2⟩
  have e1 : oddI p l = oddI ⟨p.x, q.y⟩ l := by
    rcases Int.le_total p.y q.y with k | k
    · exact odd_rise (u := p.x) (v := p.y) h k hp hm
    · exact (odd_rise (u := p.x) (v' := p.y) h k hm hp).symm
  rw [e1]
  exact odd_side h hm hq rfl
theorem onI_meets {b : B4} {p a e : P2} (hp : hasI b p) (h : onI p a e = true) : meetsI b a e = true := by
  unfold onI at h
  rw [decide_eq_true_eq] at h
  obtain ⟨h1, h2, h3, h4, h5⟩ := h
  unfold hasI at hp
  exact meets_two (p := p) (q := p) hp hp (by omega) (by omega) (sep_no (by omega) (by omega) (by omega) (by omega))
theorem touch_spot {b : B4} {l : Ctr} {p : P2} (h : touchI b l = false) (hp : hasI b p) : touchI (spotB p) l = false := by
  rw [Bool.eq_false_iff]
  intro hq
  obtain ⟨i, hi, hq⟩ := anyN_iff.1 hq
  obtain ⟨k, hk, hq⟩ := anyN_iff.1 hq
  have := touchI_no h i hi k hk
  unfold edgeC at hq
  rw [spot_meets] at hq
  rw [onI_meets hp hq] at this; cases this
end Go.Proofs.YthnenjodighlmaaGreat

/-! ## Pou -/
namespace Go.Proofs.YthnenjodighlmaaGreat
open Go Go.RowKit Sym
set_option maxRecDepth 100000

/-- what a class says of a point -/
theorem polyClass_sure {b : B4} {l : Ctr} {q : P2} (hb : BR b) (hx : b.x0 ≤ b.x1) (hy : b.y0 ≤ b.y1) (hl : PRC l) (hq : hasI b q) :
    (polyClassF b l = 0 ∧ polyHasF q l = false) ∨ polyClassF b l = 1 ∨ (polyClassF b l = 2 ∧ polyHasF q l = true) := by
  have hQ := PR_of_has hb hq
  have hC : hasI b ⟨b.x0, b.y0⟩ := ⟨Int.le_refl _, hx, Int.le_refl _, hy⟩
  unfold polyClassF polyHasF
  rw [touchF_eq hb hx hy hl, touchF_eq (b := spotF q) ⟨hQ.x, hQ.y, hQ.x, hQ.y⟩ (Int.le_refl _) (Int.le_refl _) hl, oddF_eq hQ hl, oddF_eq (PR_of_has hb hC) hl, (boxHas_eq b ⟨b.x0, b.y0⟩).2 hC]
  cases h : touchI b l with
  | true => exact .inr (.inl rfl)
  | false =>
    rw [show touchI (spotF q) l = false from touch_spot h hq, odd_box h hC hq]
    cases oddI q l
    · exact .inl ⟨rfl, rfl⟩
    · exact .inr (.inr ⟨rfl, rfl⟩)
theorem tamP_r (l : Ctr) (sm : Bool) (i k : Nat) : PR (tamP l sm i k) := by
  have h := lPt_r (l.p i k)
  have g := lClose_r (lPt (l.p i k)) (n := 20) (by decide) (by decide)
  unfold tamP
  cases sm
  · exact ⟨⟨by show _ ≤ (lPt (l.p i k)).x; omega, by show (lPt (l.p i k)).x ≤ _; omega⟩, ⟨by show _ ≤ (lPt (l.p i k)).y; omega, by show (lPt (l.p i k)).y ≤ _; omega⟩⟩
  · exact ⟨⟨by show _ ≤ (lClose (lPt (l.p i k)) 20).x; omega, by show (lClose (lPt (l.p i k)) 20).x ≤ _; omega⟩, ⟨by show _ ≤ (lClose (lPt (l.p i k)) 20).y; omega, by show (lClose (lPt (l.p i k)) 20).y ≤ _; omega⟩⟩
theorem tameC_r (l : Ctr) (sm : Bool) : PRC (tameC l sm) := ⟨fun i _ k _ => tamP_r l sm i k⟩
end Go.Proofs.YthnenjodighlmaaGreat

/-! ## Fis -/
namespace Go.Proofs.YthnenjodighlmaaGreat
open Go Go.RowKit Sym
set_option maxRecDepth 100000

/-- a class, and whether a point of the box is in it -/
structure Sure (i : Bool) (k : Int) : Prop where
  lo : 0 ≤ k
  hi : k ≤ 2
  i1 : k = 2 → i = true
  i0 : k = 0 → i = false
theorem Sure.of {i : Bool} {k : Int} (h : andB (andB (andB (andB (orB (k != 2) i) (orB (k != 0) (!i))) (decide (k ≥ 0))) (decide (k ≤ 2))) true = true) : Sure i k := by
  simp only [andB_eq, orB_eq, Bool.and_eq_true, Bool.or_eq_true, bne_iff_ne, decide_eq_true_eq, Bool.not_eq_true'] at h
  obtain ⟨⟨⟨⟨h1, h2⟩, h3⟩, h4⟩, _⟩ := h
  exact ⟨h3, h4, fun e => h1.resolve_left fun q => q e, fun e => h2.resolve_left fun q => q e⟩
theorem Sure.fold {i h : Bool} {was cls : Int} (a : Sure h was) (c : Sure i cls) (add : Bool) : Sure (bif i then add else h) (foldF was cls add) := by
  obtain ⟨a1, a2, a3, a4⟩ := a
  obtain ⟨c1, c2, c3, c4⟩ := c
  have w : was = 0 ∨ was = 1 ∨ was = 2 := by omega
  have k : cls = 0 ∨ cls = 1 ∨ cls = 2 := by omega
  rcases w with rfl | rfl | rfl <;> rcases k with rfl | rfl | rfl <;> cases add <;> cases i <;> cases h <;> simp at a3 a4 c3 c4 <;> exact ⟨by decide, by decide, by decide, by decide⟩
/-- from the first part to the last -/
def hasN (g : Nat → Bool) (add : Nat → Bool) (i : Nat) (h : Bool) : Bool := bif g i then add i else h
theorem has_back (g : Nat → Bool) (add : Nat → Bool) (n : Nat) : ∀ t, t ≤ n → (((runN (fun t (_ : Bool) => bif g (n - 1 - t) then (false, add (n - 1 - t)) else (true, false)) false t).1 = true → foldN (hasN g add) false n = foldN (hasN g add) false (n - t) ∧ (runN (fun t (_ : Bool) => bif g (n - 1 - t) then (false, add (n - 1 - t)) else (true, false)) false t).2 = false)
    ∧ ((runN (fun t (_ : Bool) => bif g (n - 1 - t) then (false, add (n - 1 - t)) else (true, false)) false t).1 = false → (runN (fun t (_ : Bool) => bif g (n - 1 - t) then (false, add (n - 1 - t)) else (true, false)) false t).2 = foldN (hasN g add) false n))
  | 0, _ => ⟨fun _ => ⟨rfl, rfl⟩, fun h => (by cases h)⟩
  | t + 1, ht => by
    have ih := has_back g add n t (by omega)
    revert ih
    generalize hr : runN (fun t (_ : Bool) => bif g (n - 1 - t) then (false, add (n - 1 - t)) else (true, false)) false t = r
    intro ih
    obtain ⟨r1, r2⟩ := r
    cases r1
    · rw [runN_stop hr (by omega : t ≤ t + 1)]
      exact ⟨fun h => (by cases h), fun _ => ih.2 rfl⟩
    · rw [runN_go hr]
      have e := (ih.1 rfl).1
      have em : n - t = (n - 1 - t) + 1 := by omega
      have e2 : foldN (hasN g add) false (n - t) = bif g (n - 1 - t) then add (n - 1 - t) else foldN (hasN g add) false (n - 1 - t) := by rw [em]; rfl
      cases q : g (n - 1 - t)
      · refine ⟨fun _ => ⟨?_, rfl⟩, fun h => (by cases h)⟩
        rw [e, e2, q, show n - (t + 1) = n - 1 - t by omega]; rfl
      · refine ⟨fun h => (by cases h), fun _ => ?_⟩
        rw [e, e2, q]; rfl
theorem has_fold (g : Nat → Bool) (add : Nat → Bool) (n : Nat) : (runN (fun t (_ : Bool) => bif g (n - 1 - t) then (false, add (n - 1 - t)) else (true, false)) false n).2 = foldN (hasN g add) false n := by
  have h := has_back g add n n (Nat.le_refl n)
  revert h
  generalize runN (fun t (_ : Bool) => bif g (n - 1 - t) then (false, add (n - 1 - t)) else (true, false)) false n = r
  intro h
  obtain ⟨r1, r2⟩ := r
  cases r1
  · exact h.2 rfl
  · have q := h.1 rfl
    rw [q.1, Nat.sub_self]; exact q.2
theorem sure_fold (f : Nat → Bool) (c : Nat → Int) (add : Nat → Bool) : ∀ n, (∀ i, i < n → Sure (f i) (c i)) → Sure (foldN (hasN f add) false n) (foldN (fun i acc => foldF acc (c i) (add i)) 0 n)
  | 0, _ => (⟨by decide, by decide, fun h => (by cases h), fun _ => rfl⟩ : Sure false 0)
  | n + 1, h => (sure_fold f c add n fun i hi => h i (by omega)).fold (h n (by omega)) (add n)
theorem disc_sure {b : B4} {c : P2} {r : Int} {x y : Int} (h : discSure0 b c r x y = true) : Sure (discHas (lIn b x y) c r) (discClass b c r) := by
  unfold discSure0 at h
  dsimp only at h
  revert h
  generalize orB _ _ = o
  cases o
  · exact Sure.of
  · intro h; cases h
theorem line_sure {b : B4} {a c : P2} {r : Int} {x y : Int} (h : lineSure0 b a c r x y = true) : Sure (lineHas (lIn b x y) a c r) (lineClass b a c r) := by
  unfold lineSure0 at h
  simp only [andB_eq, orB_eq, Bool.and_eq_true, Bool.or_eq_true, bne_iff_ne, decide_eq_true_eq, Bool.not_eq_true'] at h
  obtain ⟨⟨⟨⟨⟨_, h1⟩, h2⟩, h3⟩, h4⟩, _⟩ := h
  exact ⟨h3, h4, fun e => h1.resolve_left fun q => q e, fun e => (h2.resolve_left fun q => q e).1.1⟩
theorem bar_sure {b : B4} {a c : P2} {r : Int} {x y : Int} (h : barSure0 b a c r x y = true) : Sure (barHas (lIn b x y) a c r) (barClass b a c r) := by
  unfold barSure0 at h
  simp only [andB_eq, orB_eq, Bool.and_eq_true, Bool.or_eq_true, bne_iff_ne, decide_eq_true_eq, Bool.not_eq_true'] at h
  obtain ⟨⟨⟨⟨⟨_, h1⟩, h2⟩, h3⟩, h4⟩, _⟩ := h
  exact ⟨h3, h4, fun e => h1.resolve_left fun q => q e, fun e => (h2.resolve_left fun q => q e).1⟩
theorem wid_bd {r : Int} (h : widF r = true) : 1 ≤ r ∧ r ≤ 536870912 := by
  unfold widF at h
  rw [andB_eq, Bool.and_eq_true, decide_eq_true_eq, decide_eq_true_eq] at h
  omega
theorem tmX_le (sm : Bool) : tmX sm ≤ 536870912 := by cases sm <;> decide
theorem PB_PR {sm : Bool} {p : P2} (h : PB (tmX sm) p) : PR p := near_PR (PB_near (tmX_le sm) h)
/-- tame shapes are sure of the points of a box -/
theorem shape_sure (sm : Bool) {b : B4} (hb : BR b) (hf : Fits b) (hx : b.x0 ≤ b.x1) (hy : b.y0 ≤ b.y1) (x y : Int) : ∀ (s : Shp) (d : Int), Sure (hasF (tameS s sm d) (lIn b x y)) (classF (tameS s sm d) b) := by
  intro s
  induction s with
  | nil => intro d; exact (⟨by decide, by decide, fun h => (by cases h), fun _ => rfl⟩ : Sure false 0)
  | mk k a b' c r l n add sub ih =>
    intro d
    have kk := tmKk_bd ⟨k, a, b', c, r, l, n, noF⟩ d
    have kb := tmB_ok ⟨k, a, b', c, r, l, n, noF⟩ sm
    have kr := wid_bd (tmR_ok ⟨k, a, b', c, r, l, n, noF⟩ sm)
    have ka := PB_PR (at_PB a sm)
    simp only [tameS]
    generalize tmKk ⟨k, a, b', c, r, l, n, noF⟩ d = K at *
    have : K = 1 ∨ K = 2 ∨ K = 3 ∨ K = 4 ∨ K = 5 ∨ K = 6 := by omega
    rcases this with rfl | rfl | rfl | rfl | rfl | rfl
    · exact disc_sure (discSure0_true x y hb ka hx hy kr.1 (by omega))
    · show Sure (polyHasF (lIn b x y) (tameC l sm)) (polyClassF b (tameC l sm))
      rcases polyClass_sure hb hx hy (tameC_r l sm) (lIn_has x y hb hx hy).1 with ⟨h, k⟩ | h | ⟨h, k⟩
      · rw [h, k]; exact ⟨by decide, by decide, fun e => (by cases e), fun _ => rfl⟩
      · rw [h]; exact ⟨by decide, by decide, fun e => (by cases e), fun e => (by cases e)⟩
      · rw [h, k]; exact ⟨by decide, by decide, fun _ => rfl, fun e => (by cases e)⟩
    · exact line_sure (lineSure0_true x y hb ka (PB_PR kb.1) hx hy kr.1 (by omega))
    · exact bar_sure (barSure0_true x y hb ka (PB_PR kb.1) hx hy kr.1 (by omega))
    · exact Sure.of (ringSure0_true c (band a.x 65535) (band a.y 65535) b'.x sm x y hf kr.1 (by omega))
    · have e := has_fold (fun i => hasF (tameS (sub i) sm (W (d + 1))) (lIn b x y)) add (tmN ⟨k, a, b', c, r, l, n, noF⟩ d)
      show Sure (runN (fun t (_ : Bool) => bif hasF (tameS (sub (tmN ⟨k, a, b', c, r, l, n, noF⟩ d - 1 - t)) sm (W (d + 1))) (lIn b x y) then (false, add (tmN ⟨k, a, b', c, r, l, n, noF⟩ d - 1 - t)) else (true, false)) false (tmN ⟨k, a, b', c, r, l, n, noF⟩ d)).2 (foldN (fun i acc => foldF acc (classF (tameS (sub i) sm (W (d + 1))) b) (add i)) 0 (tmN ⟨k, a, b', c, r, l, n, noF⟩ d))
      rw [e]
      exact sure_fold _ (fun i => classF (tameS (sub i) sm (W (d + 1))) b) add _ fun i _ => ih i _
end Go.Proofs.YthnenjodighlmaaGreat

/-! ## Pid -/
namespace Go.Proofs.YthnenjodighlmaaGreat
open Go Go.RowKit Sym
set_option maxRecDepth 100000

theorem fold_top (g add : Nat → Bool) (n : Nat) : ∀ k, k ≤ n → (∀ j, j < k → g (n - 1 - j) = false) → foldN (hasN g add) false n = foldN (hasN g add) false (n - k)
  | 0, _, _ => rfl
  | k + 1, hk, h => by
    rw [fold_top g add n k (by omega) fun j hj => h j (by omega)]
    have e : n - k = (n - (k + 1)) + 1 := by omega
    rw [e]
    show hasN g add (n - (k + 1)) _ = _
    unfold hasN
    rw [show n - (k + 1) = n - 1 - k by omega, h k (by omega)]; rfl
noncomputable def figHasS (s : Shp) (p : P2) : Bool := bif okE (toSh s) then hasF s p else false
noncomputable def pHas (s : Shp) (p : P2) : Bool := foldN (hasN (fun i => figHasS (suO s i) p) (adO s)) false (nuO s)
theorem PilRes.eq {n : Nat} {g add : Nat → Bool} {r : Bool} (h : PilRes n g add r) : r = foldN (hasN g add) false n := by
  rcases h with ⟨rfl, h⟩ | ⟨k, hk, rfl, h1, h2⟩
  · rw [fold_top g add n n (Nat.le_refl _) fun j hj => h _ (by omega), Nat.sub_self]; rfl
  · rw [fold_top g add n k (by omega) h2, show n - k = (n - 1 - k) + 1 by omega]
    show _ = hasN g add (n - 1 - k) _
    unfold hasN
    rw [h1]; rfl
end Go.Proofs.YthnenjodighlmaaGreat

/-! ## Ctt -/
namespace Go.Proofs.YthnenjodighlmaaGreat
open Go Go.RowKit Sym

inductive Pln where
  | lf
  | it (p q : Pln)
  | tt (p : Pln)
  | ff (p : Pln)
end Go.Proofs.YthnenjodighlmaaGreat

/-! ## Fip -/
namespace Go.Proofs.YthnenjodighlmaaGreat
open Go Go.RowKit Sym
set_option maxRecDepth 100000

/-- mirrored, then turned by k quarters -/
def rt (m : Bool) (k : Int) (p : P2) : P2 :=
  ⟨bif k == 1 then -p.y else bif k == 2 then -(bif m then -p.x else p.x) else bif k == 3 then p.y else (bif m then -p.x else p.x),
   bif k == 1 then (bif m then -p.x else p.x) else bif k == 2 then -p.y else bif k == 3 then -(bif m then -p.x else p.x) else p.y⟩
theorem P2.ext' {p q : P2} (h : p.x = q.x) (k : p.y = q.y) : p = q := by cases p; cases q; cases h; cases k; rfl
end Go.Proofs.YthnenjodighlmaaGreat

/-! ## Tuc -/
namespace Go.Proofs.YthnenjodighlmaaGreat
open Go Go.RowKit Sym
set_option maxRecDepth 100000

end Go.Proofs.YthnenjodighlmaaGreat

/-! ## Fiq -/
namespace Go.Proofs.YthnenjodighlmaaGreat
open Go Go.RowKit Sym
set_option maxRecDepth 100000

/-! ### the same -/
/-! ### moved -/
theorem fine_B {P : P2 → Prop} : ∀ (s : Shp) (d : Int), Fine P s d → 0 ≤ d → ShB s := by
  intro s
  induction s with
  | nil => intro d h; exact h.elim
  | mk k a b' c r l n add sub ih =>
    intro d h h0
    have z : ∀ i, i < 0 → ShB (sub i) := fun i hi => absurd hi (Nat.not_lt_zero i)
    rcases h with ⟨rfl, rfl, rfl, rfl, rfl, ha, hr⟩ | ⟨rfl, rfl, rfl, rfl, ha, hb, hr⟩ | ⟨rfl, rfl, rfl, rfl, ha, hb, hr, hn⟩ | ⟨rfl, rfl, rfl, ha, hb, hc, hr, ho⟩ | ⟨rfl, rfl, rfl, rfl, rfl, rfl, hc⟩ | ⟨rfl, rfl, rfl, rfl, rfl, rfl, h5, hm, hs⟩
    · exact ⟨CtrB_ze, by decide, z⟩
    · exact ⟨CtrB_ze, by decide, z⟩
    · exact ⟨CtrB_ze, by decide, z⟩
    · exact ⟨CtrB_ze, by decide, z⟩
    · exact ⟨⟨by have := hc.1; omega, fun i hi => by have := (hc.2 i hi).1; omega⟩, by decide, z⟩
    · exact ⟨CtrB_ze, by omega, fun i hi => ih i (d + 1) (hs i hi) (by omega)⟩
end Go.Proofs.YthnenjodighlmaaGreat

/-! ## Fit -/
namespace Go.Proofs.YthnenjodighlmaaGreat
open Go Go.RowKit Sym
set_option maxRecDepth 100000

end Go.Proofs.YthnenjodighlmaaGreat

/-! ## Dla -/
namespace Go.Proofs.YthnenjodighlmaaGreat
open Go Go.RowKit Sym
set_option maxRecDepth 100000

inductive DLe : Dyn.DC → Dyn.DC → Prop where
  | refl (c : Dyn.DC) : DLe c c
  | row (n : Nat) (f g : Nat → List Dyn.DC) : (∀ i, i < n → (f i).length = (g i).length) → (∀ i j, i < n → j < (f i).length → DLe ((f i).getD j default) ((g i).getD j default)) → DLe (.row n f) (.row n g)
theorem DLe.den {w : World} {F : Nat → Prop} {c d : Dyn.DC} (h : DLe c d) : ∀ {u : Value}, Dyn.DenC w F c u → Dyn.DenC w F d u := by
  induction h with
  | refl c => exact fun h => h
  | row n f g hl _ ih =>
    intro u k
    cases k with
    | nil _ oa cap => exact .nil g oa cap
    | row _ _ b off cap size V hk hF hc hd =>
      refine .row n g b off cap size V hk hF (fun i hi => ⟨(hl i hi) ▸ (hc i hi).1, (hc i hi).2⟩) (fun i j hi hj => ih i j hi ?_ (hd i j hi hj))
      rw [(hc i hi).1]; exact hj
def DLL : List Dyn.DC → List Dyn.DC → Prop
  | [], [] => True
  | c :: cs, d :: ds => DLe c d ∧ DLL cs ds
  | _, _ => False
theorem DLL.refl : ∀ cs, DLL cs cs
  | [] => trivial
  | c :: cs => ⟨.refl c, DLL.refl cs⟩
theorem DLL.den {w : World} {F : Nat → Prop} : ∀ {cs ds : List Dyn.DC} {us : List Value}, DLL cs ds → Dyn.DenL w F cs us → Dyn.DenL w F ds us
  | [], [], [], _, h => h
  | [], [], _ :: _, _, h => h
  | [], _ :: _, _, h, _ => h.elim
  | _ :: _, [], _, h, _ => h.elim
  | c :: cs, d :: ds, [], _, k => k.elim
  | c :: cs, d :: ds, u :: us, h, k => ⟨h.1.den k.1, DLL.den h.2 k.2⟩
theorem DLL.get : ∀ {cs ds : List Dyn.DC}, DLL cs ds → cs.length = ds.length ∧ ∀ j, DLe (cs.getD j default) (ds.getD j default)
  | [], [], _ => ⟨rfl, fun j => .refl _⟩
  | [], _ :: _, h => h.elim
  | _ :: _, [], h => h.elim
  | c :: cs, d :: ds, h => by
    have k := DLL.get h.2
    exact ⟨congrArg Nat.succ k.1, fun j => match j with
      | 0 => h.1
      | j + 1 => k.2 j⟩
theorem DLe.rowL {n : Nat} {f g : Nat → List Dyn.DC} (h : ∀ i, i < n → DLL (f i) (g i)) : DLe (.row n f) (.row n g) := .row n f g (fun i hi => (h i hi).get.1) (fun i j hi _ => (h i hi).get.2 j)
def DVd : Dyn.DV → Dyn.DV → Prop
  | .one c, .one d => DLe c d
  | .agg cs, .agg ds => DLL cs ds
  | _, _ => False
theorem DVd.refl : ∀ v, DVd v v
  | .one c => DLe.refl c
  | .agg cs => DLL.refl cs
theorem DVd.den {w : World} {F : Nat → Prop} : ∀ {c d : Dyn.DV} {u : Value}, DVd c d → Dyn.DenV w F c u → Dyn.DenV w F d u
  | .one _, .one _, _, h, k => DLe.den h k
  | .agg _, .agg _, _, h, ⟨us, e, k⟩ => ⟨us, e, DLL.den h k⟩
  | .one _, .agg _, _, h, _ => h.elim
  | .agg _, .one _, _, h, _ => h.elim
/-- a contract, told of a first argument that shows the same -/
theorem CallD_d1 {P : Program} {K : Nat} {v v' : Dyn.DV} {l : List Dyn.DV} {r : Dyn.RV} (h : DVd v v') (k : Dyn.CallD P K (v' :: l) r) : Dyn.CallD P K (v :: l) r := fun w F us hF hd => k w F us hF (by
  cases us with
  | nil => exact hd
  | cons u us => exact ⟨DVd.den h hd.1, hd.2⟩)
end Go.Proofs.YthnenjodighlmaaGreat

/-! ## Dle -/
namespace Go.Proofs.YthnenjodighlmaaGreat
open Go Go.RowKit Sym
set_option maxRecDepth 100000

end Go.Proofs.YthnenjodighlmaaGreat

/-! ## Bou -/
namespace Go.Proofs.YthnenjodighlmaaGreat
open Go Go.RowKit Sym
set_option maxRecDepth 100000

def ruM (a : Int × Int) : Int := W ((W (a.1 + a.2)).tdiv 2)
def ruStep (v : Int) (a : Int × Int) : Int × Int := (bif decide (W (ruM a * ruM a) ≥ v) then a.1 else W (ruM a + 1), bif decide (W (ruM a * ruM a) ≥ v) then ruM a else a.2)
def ruG (v : Int) (_ : Nat) (a : Int × Int) : Int × Int := ruStep v a
def ruCnt (v : Int) : Nat → Int × Int → Nat
  | 0, _ => 0
  | f + 1, a => if a.1 < a.2 then ruCnt v f (ruStep v a) + 1 else 0
def ruA : Int × Int := (0, 2147483648)
def ruN (v : Int) : Nat := ruCnt v 32 ruA
/-- the least whole number whose square is not less than v -/
def rupF (v : Int) : Int := (foldN (ruG v) ruA (ruN v)).1
def ruI (a : Int × Int) : Prop := 0 ≤ a.1 ∧ a.1 ≤ a.2 ∧ a.2 ≤ 2147483648
theorem ruM_eq {a : Int × Int} (h : ruI a) : ruM a = (a.1 + a.2) / 2 := by
  obtain ⟨h1, h2, h3⟩ := h
  unfold ruM
  rw [W_id (x := a.1 + a.2) (by omega) (by omega), Int.tdiv_eq_ediv_of_nonneg (by omega), W_id (by omega) (by omega)]
theorem ru_step {v : Int} {a : Int × Int} (h : ruI a) (hlt : a.1 < a.2) : ruI (ruStep v a) ∧ 2 * ((ruStep v a).2 - (ruStep v a).1) ≤ a.2 - a.1 := by
  have m := ruM_eq h
  obtain ⟨h1, h2, h3⟩ := h
  have w : W (ruM a + 1) = ruM a + 1 := by rw [m]; exact W_id (by omega) (by omega)
  unfold ruStep ruI
  rw [w]
  cases decide (W (ruM a * ruM a) ≥ v)
  · exact ⟨⟨by dsimp only [cond_false]; omega, by dsimp only [cond_false]; omega, by dsimp only [cond_false]; omega⟩, by dsimp only [cond_false]; omega⟩
  · exact ⟨⟨by dsimp only [cond_true]; omega, by dsimp only [cond_true]; omega, by dsimp only [cond_true]; omega⟩, by dsimp only [cond_true]; omega⟩
theorem foldN_ru (v : Int) (a : Int × Int) : ∀ k, foldN (ruG v) a (k + 1) = foldN (ruG v) (ruStep v a) k
  | 0 => rfl
  | k + 1 => by
    show ruG v (k + 1) (foldN (ruG v) a (k + 1)) = ruG v k (foldN (ruG v) (ruStep v a) k)
    rw [foldN_ru v a k]; rfl
theorem ru_run (v : Int) : ∀ (f : Nat) (a : Int × Int), ruI a → a.2 - a.1 < 2 ^ f → (∀ k, k < ruCnt v f a → (foldN (ruG v) a k).1 < (foldN (ruG v) a k).2) ∧ ¬ (foldN (ruG v) a (ruCnt v f a)).1 < (foldN (ruG v) a (ruCnt v f a)).2
  | 0, a, h, hf => by
    refine ⟨fun k hk => absurd hk (Nat.not_lt_zero k), ?_⟩
    show ¬ a.1 < a.2
    have : (2 : Int) ^ 0 = 1 := by decide
    omega
  | f + 1, a, h, hf => by
    by_cases hlt : a.1 < a.2
    · have st := ru_step (v := v) h hlt
      have e : (2 : Int) ^ (f + 1) = 2 * 2 ^ f := by rw [Int.pow_succ, Int.mul_comm]
      have ih := ru_run v f (ruStep v a) st.1 (by omega)
      have c : ruCnt v (f + 1) a = ruCnt v f (ruStep v a) + 1 := by simp only [ruCnt]; rw [if_pos hlt]
      rw [c]
      refine ⟨fun k hk => ?_, ?_⟩
      · cases k with
        | zero => exact hlt
        | succ k => rw [foldN_ru]; exact ih.1 k (by omega)
      · rw [foldN_ru]; exact ih.2
    · have c : ruCnt v (f + 1) a = 0 := by simp only [ruCnt]; rw [if_neg hlt]
      rw [c]
      exact ⟨fun k hk => absurd hk (Nat.not_lt_zero k), hlt⟩
theorem ru_all (v : Int) : (∀ k, k < ruN v → (foldN (ruG v) ruA k).1 < (foldN (ruG v) ruA k).2) ∧ ¬ (foldN (ruG v) ruA (ruN v)).1 < (foldN (ruG v) ruA (ruN v)).2 := ru_run v 32 ruA ⟨by decide, by decide, by decide⟩ (by decide)
def ruS (v : Int) (a : Int × Int) : Dyn.St := mkS 22 [(0, sI v), (2, .k (vi 0)), (3, sI a.1), (4, sI a.2)] []
def ruK : List Nat := [0, 2, 3, 4]
def ruB (v : Int) (a : Int × Int) : Dyn.Out := .ite (decide (a.1 < a.2)) (.leaf .normal (ruS v (ruStep v a))) (.leaf (.exit 0) (ruS v a))
theorem ru_B (v : Int) (a : Int × Int) : (Dyn.lexec Tryz.prog tabF0 Dyn.noLp 3 (unloopD (blkD Tryz.f52.body 0)) .leaf (ruS v a)).rl (keepR 22 [] [] ruK [2]) = ruB v a := by kernel_rfl
def ruLp (v : Int) : Dyn.Lp := fun id st => match id with
  | 0 => some (.side [keepA 22 [] [] ruK (2 ^ 3 + 2 ^ 4) st = ruS v ruA] (.leaf .normal (ruS v (foldN (ruG v) ruA (ruN v)))))
  | _ => none
theorem ru_blocks : blocksL (bodyD Tryz.f52.body) = [(0, .loop (unloopD (blkD Tryz.f52.body 0))), (1, blkD Tryz.f52.body 1)] := by kernel_rfl
theorem ru_b0 : blocksL (unloopD (blkD Tryz.f52.body 0)) = [(1, blkD Tryz.f52.body 1)] := by kernel_rfl
theorem ru_loop (v : Int) (w0 : Dyn.Base Tryz.prog) (st : Dyn.St) (o : Dyn.Out) (h : ruLp v 0 st = some o) : Dyn.BlockSound Tryz.prog w0 0 (.loop (unloopD (blkD Tryz.f52.body 0))) st o := by
  simp only [ruLp, Option.some.injEq] at h
  subst h
  refine side_one fun hS => ?_
  refine fold_block (fuel := 3) tabF0_ok mo (lp := Dyn.noLp) (by rw [ru_b0]; exact lpOk_cons (fun s o h => by cases h) lpOk_nil) (fun _ a => ruS v a) (ruN v) (ruG v) ruA (keepR 22 [] [] ruK [2]) (keepR_ent 22 _ _ _ _) (fun _ a => ruB v a) (fun _ a => ru_B v a) (fun i hi => ?_) ?_ (hS ▸ keepA_ent 22 _ _ _ _ st)
  · exact ⟨fun _ => ⟨rfl, Dyn.Fits.refl _⟩, fun hf => absurd ((ru_all v).1 i hi) (by simpa using hf)⟩
  · exact ⟨fun ht => absurd (by simpa using ht) (ru_all v).2, fun _ => ⟨rfl, Dyn.Fits.refl _⟩⟩
theorem rootUp_ok (v : Int) : Dyn.CallD Tryz.prog 52 [dvI v] (rI (rupF v)) :=
  Dyn.dcontract (lp := ruLp v) (fuel := 3) (X := tabF0) tabF0_ok mo Tryz.func52 (by kernel_rfl) (c := bodyD Tryz.f52.body) (by kernel_rfl)
    (fun w0 => by rw [ru_blocks]; exact lpOk_cons (ru_loop v w0) (lpOk_cons (fun s o h => by cases h) lpOk_nil))
    (by kernel_rfl) (O := .side [ruS v ruA = ruS v ruA] (.leaf (rI (rupF v)))) (by kernel_rfl) ⟨⟨rfl, trivial⟩, rfl⟩
/-! ### take -/
def tkF (f : Bool) (a b : B4) : B4 := ⟨bif f then imin a.x0 b.x0 else b.x0, bif f then imin a.y0 b.y0 else b.y0, bif f then imax a.x1 b.x1 else b.x1, bif f then imax a.y1 b.y1 else b.y1⟩
def bxV (b : B4) : List Value := [vi b.x0, vi b.y0, vi b.x1, vi b.y1]
def tkL (f : Bool) (a : B4) : Dyn.Lent := [(4, [vb f]), (27, bxV a)]
theorem tk_O (f : Bool) (a b : B4) : (Dyn.dfunX Tryz.prog tabF0 Dyn.noLp 3 Tryz.f53 (tkL f a) [.d (dvX b), .lp 0 0, .lp 1 0]).rx Tryz.prog (tkL f a) Tryz.f53.results
    = .ite f (.leaf (.tuple ⟨[]⟩) [[vb true], bxV (tkF true a b)]) (.leaf (.tuple ⟨[]⟩) [[vb true], bxV (tkF false a b)]) := by kernel_rfl
theorem take_ok (f : Bool) (a b : B4) : Dyn.CallX Tryz.prog 53 [.d (dvX b), .lp 0 0, .lp 1 0] (tkL f a) (.tuple ⟨[]⟩) [[vb true], bxV (tkF f a b)] :=
  Dyn.xcontract (lp := Dyn.noLp) (fuel := 3) (X := tabF0) tabF0_ok mo Tryz.func53 (by kernel_rfl) (c := bodyD Tryz.f53.body) (by kernel_rfl) (fun w0 => Dyn.noLp_ok _ w0)
    (by kernel_rfl) (by kernel_rfl) (by kernel_rfl) (tk_O f a b) ⟨fun h => by subst h; exact ⟨rfl, rfl⟩, fun h => by subst h; exact ⟨rfl, rfl⟩⟩
def enTk : List Dyn.LA → Dyn.Lent → Option (Value × List (List Value) × List Prop)
  | [.d u, .lp 0 0, .lp 1 0], [(t, [.bool f]), (t2, [.int .i64 x0, .int .i64 y0, .int .i64 x1, .int .i64 y1])] => match aX u, Nat.beq t 4, Nat.beq t2 27 with
    | some b, true, true => some (.tuple ⟨[]⟩, [[vb true], bxV (tkF f ⟨x0, y0, x1, y1⟩ b)], [])
    | _, _, _ => none
  | _, _ => none
theorem CallX_le1 {P : Program} {K : Nat} {u u' : Dyn.DV} {l : List Dyn.LA} {lent : Dyn.Lent} {r : Value} {o : List (List Value)} (h1 : Dyn.DVLe u u') (k : Dyn.CallX P K (.d u' :: l) lent r o) : Dyn.CallX P K (.d u :: l) lent r o := fun w F bs us hF hn hd hl hden => k w F bs us hF hn hd hl (by
  cases us with
  | nil => exact hden
  | cons x us => exact ⟨Dyn.DenV_le h1 hden.1, hden.2⟩)
theorem enTk_ok : Dyn.EntryXOk Tryz.prog (53, enTk) := fun as' lent u out ps h hp => by
  dsimp only at h
  unfold enTk at h
  split at h
  · rename_i t f t2 x0 y0 x1 y1
    split at h
    · rename_i b hb ht ht2
      have e1 := Nat.eq_of_beq_eq_true ht
      have e2 := Nat.eq_of_beq_eq_true ht2
      subst e1; subst e2
      simp only [Option.some.injEq, Prod.mk.injEq] at h
      obtain ⟨rfl, rfl, rfl⟩ := h
      exact CallX_le1 (aX_eq hb) (take_ok f ⟨x0, y0, x1, y1⟩ b)
    · cases h
  · cases h
def BdOk (x : Sh) (g : Sh → B4 × Bool) : Prop := Dyn.CallD Tryz.prog 39 [dvS x] (.tup [dvX (g x).1, dvB (g x).2])
def tdBd (Pd : Sh → Prop) (g : Sh → B4 × Bool) : List Dyn.EntryD := [(52, en1D qI fun v => rI (rupF v)), (39, en1D (qAnd qS Pd) fun x => .tup [dvX (g x).1, dvB (g x).2])]
def drBd (K : Nat) : Bool := Nat.beq K 53
def tabBd (Pd : Sh → Prop) (g : Sh → B4 × Bool) : Dyn.Tabs := Dyn.tabsX tbF (tdBd Pd g) [(53, enTk)] drBd dtyS true
theorem tabBd_ok {Pd : Sh → Prop} {g : Sh → B4 × Bool} (ih : ∀ x, Pd x → BdOk x g) : Dyn.TabsOk Tryz.prog (tabBd Pd g) :=
  Dyn.tabsX_ok tbF_ok (List.forall_mem_cons.2 ⟨en1D_ok qI_ok fun v _ => rootUp_ok v, List.forall_mem_cons.2 ⟨en1D_ok (qAnd_ok qS_ok) fun x h => ih x h.1, fun _ h => by cases h⟩⟩) (List.forall_mem_cons.2 ⟨enTk_ok, fun _ h => by cases h⟩)
def bdQ : Bool × B4 := (false, ⟨0, 0, 0, 0⟩)
def bdI (l : Ctr) (i k : Nat) (q : Bool × B4) : Bool × B4 := (true, tkF q.1 q.2 (aroundF (l.p i k) (l.p i k) 0))
def bdO (l : Ctr) (i : Nat) (q : Bool × B4) : Bool × B4 := foldN (bdI l i) q (l.m i)
def bdP (g : Sh → B4 × Bool) (sh : Nat → Sh) (add : Nat → Bool) (i : Nat) (q : Bool × B4) : Bool × B4 := bif !(add i) then q else bif (g (sh i)).2 then (true, tkF q.1 q.2 (g (sh i)).1) else q
def sFn : Dyn.SV := .v (.func (.func 53) ⟨[]⟩ ⟨[.pointer (some ⟨4, 0, none⟩), .pointer (some ⟨3, 0, none⟩)]⟩)
def bdH (s : Sh) (q : Bool × B4) : List (Option Dyn.HE) := [some (.deep (cS s)), some (.cells 45 (shV 0 8 s)), some (.cells 27 [vi 0, vi 0, vi 0, vi 0]), some (.cells 27 (bxV q.2)), some (.cells 4 [vb q.1])]
def bdL : List (Nat × Dyn.SV) := [(1, sL 1), (2, sL 2), (3, .k (vb false)), (6, sL 3), (7, sL 4), (8, sFn)]
def bdS (s : Sh) (q : Bool × B4) (i : Int) : Dyn.St := mkS 114 (bdL ++ [(72, sH 0 8 s.l.n), (73, sI s.l.n), (74, sI i)]) (bdH s q)
def bdT (s : Sh) (q : Bool × B4) (i j : Int) : Dyn.St := mkS 114 (bdL ++ [(10, sH 5 0 (s.l.m i.toNat)), (72, sH 0 8 s.l.n), (73, sI s.l.n), (74, sI i), (78, sH 5 0 (s.l.m i.toNat)), (79, sI (s.l.m i.toNat)), (80, sI j)]) (bdH s q ++ [some (.deep [cRow (s.l.m i.toNat) (s.l.p i.toNat)])])
def bdU (s : Sh) (q : Bool × B4) (i : Int) : Dyn.St := mkS 114 (bdL ++ [(92, sH 0 9 s.n), (93, sI s.n), (94, sI i)]) (bdH s q)
def bdK0 : List Nat := [1, 2, 3, 6, 7, 8, 72, 73, 74]
def bdK1 : List Nat := [1, 2, 3, 6, 7, 8, 10, 72, 73, 74, 78, 79, 80]
def bdK2 : List Nat := [1, 2, 3, 6, 7, 8, 92, 93, 94]
def accB (st : Dyn.St) : Bool × B4 := match st.heap.getD 3 none, st.heap.getD 4 none with
  | some (.cells _ [.int _ x0, .int _ y0, .int _ x1, .int _ y1]), some (.cells _ [.bool f]) => (f, ⟨x0, y0, x1, y1⟩)
  | _, _ => bdQ
def bdLp (g : Sh → B4 × Bool) (sh : Nat → Sh) (add : Nat → Bool) (s : Sh) : Dyn.Lp := fun id st => match id with
  | 1 => some (.side [keepA 114 [0, 1, 2, 4, 5] [] bdK0 (2 ^ 74) st = bdS s bdQ 0] (.leaf .normal (bdS s (foldN (bdO s.l) bdQ s.l.n) s.l.n)))
  | 3 =>
    let q := accB st
    let i := intD (st.slots.getD 74 .junk)
    some (.side [keepA 114 [0, 1, 2, 3, 4] [10] bdK1 (2 ^ 80) st = bdT s q i 0, 0 ≤ i ∧ i < s.l.n] (.leaf .normal (bdT s (bdO s.l i.toNat q) i (s.l.m i.toNat))))
  | 5 =>
    let q := accB st
    some (.side [keepA 114 [0, 1, 2, 3, 4] [] bdK2 (2 ^ 94) st = bdU s q 0] (.leaf .normal (bdU s (foldN (bdP g sh add) q s.n) s.n)))
  | _ => none
def bdBi (s : Sh) (q : Bool × B4) (i j : Nat) : Dyn.Out :=
  .ite (decide ((j : Int) < s.l.m i)) (.side [0 ≤ (j : Int) ∧ (j : Int) < s.l.m i] (.leaf .normal (bdT s (bdI s.l i j q) i (W (j + 1))))) (.leaf (.exit 3) (bdT s q i j))
def bdBo (s : Sh) (q : Bool × B4) (i : Nat) : Dyn.Out :=
  .ite (decide ((i : Int) < s.l.n)) (.side [0 ≤ (i : Int) ∧ (i : Int) < s.l.n] (.side [bdT s q i 0 = bdT s q i 0, 0 ≤ (i : Int) ∧ (i : Int) < s.l.n] (.leaf .normal (bdS s (bdO s.l i q) (W (i + 1)))))) (.leaf (.exit 1) (bdS s q i))
def bdBp (Pd : Sh → Prop) (g : Sh → B4 × Bool) (sh : Nat → Sh) (add : Nat → Bool) (s : Sh) (q : Bool × B4) (i : Nat) : Dyn.Out :=
  .ite (decide ((i : Int) < s.n)) (.side [0 ≤ (i : Int) ∧ (i : Int) < s.n] (.ite (!(add i)) (.leaf .normal (bdU s q (W (i + 1)))) (.side [Pd (sh i), ctrSelf (sh i).l] (.ite (g (sh i)).2 (.leaf .normal (bdU s (true, tkF q.1 q.2 (g (sh i)).1) (W (i + 1)))) (.leaf .normal (bdU s q (W (i + 1)))))))) (.leaf (.exit 5) (bdU s q i))
theorem bd_Bi (Pd : Sh → Prop) (g : Sh → B4 × Bool) (sh : Nat → Sh) (add : Nat → Bool) (s : Sh) (q : Bool × B4) (i j : Nat) : (Dyn.lexec Tryz.prog (tabBd Pd g) (bdLp g sh add s) 3 (unloopD (blkD Tryz.f39.body 3)) .leaf (bdT s q i j)).rl (keepR 114 [0, 1, 2, 3, 4] [10] bdK1 []) = bdBi s q i j := by kernel_rfl
theorem bd_Bo (Pd : Sh → Prop) (g : Sh → B4 × Bool) (sh : Nat → Sh) (add : Nat → Bool) (s : Sh) (q : Bool × B4) (i : Nat) : (Dyn.lexec Tryz.prog (tabBd Pd g) (bdLp g sh add s) 3 (unloopD (blkD Tryz.f39.body 1)) .leaf (bdS s q i)).rl (keepR 114 [0, 1, 2, 3, 4] [] bdK0 []) = bdBo s q i := by kernel_rfl
theorem bd_Bp (Pd : Sh → Prop) (g : Sh → B4 × Bool) (k : Int) (a b c : P2) (r : Int) (l : Ctr) (n : Nat) (add : Nat → Bool) (sh : Nat → Sh) (q : Bool × B4) (i : Nat) : (Dyn.lexec Tryz.prog (tabBd Pd g) (bdLp g sh add (mkSh k a b c r l n add sh)) 3 (unloopD (blkD Tryz.f39.body 5)) .leaf (bdU (mkSh k a b c r l n add sh) q i)).rl (keepR 114 [0, 1, 2, 3, 4] [] bdK2 []) = bdBp Pd g sh add (mkSh k a b c r l n add sh) q i := by kernel_rfl
theorem bd_blocks : blocksL (bodyD Tryz.f39.body) = [(0, blkD Tryz.f39.body 0), (1, .loop (unloopD (blkD Tryz.f39.body 1))), (2, blkD Tryz.f39.body 2), (3, .loop (unloopD (blkD Tryz.f39.body 3))), (4, blkD Tryz.f39.body 4), (5, .loop (unloopD (blkD Tryz.f39.body 5))), (6, blkD Tryz.f39.body 6)] := by kernel_rfl
theorem bd_b1 : blocksL (unloopD (blkD Tryz.f39.body 1)) = [(2, blkD Tryz.f39.body 2), (3, .loop (unloopD (blkD Tryz.f39.body 3))), (4, blkD Tryz.f39.body 4)] := by kernel_rfl
theorem bd_b3 : blocksL (unloopD (blkD Tryz.f39.body 3)) = [(4, blkD Tryz.f39.body 4)] := by kernel_rfl
theorem bd_b5 : blocksL (unloopD (blkD Tryz.f39.body 5)) = [(6, blkD Tryz.f39.body 6)] := by kernel_rfl
theorem bd_inner {Pd : Sh → Prop} {g : Sh → B4 × Bool} (ih : ∀ x, Pd x → BdOk x g) (sh : Nat → Sh) (add : Nat → Bool) (s : Sh) (hl : CtrB s.l) (w0 : Dyn.Base Tryz.prog) (st : Dyn.St) (o : Dyn.Out)
    (h : bdLp g sh add s 3 st = some o) : Dyn.BlockSound Tryz.prog w0 3 (.loop (unloopD (blkD Tryz.f39.body 3))) st o := by
  simp only [bdLp, Option.some.injEq] at h
  subst h
  refine side_two fun hS hi => ?_
  revert hS hi
  generalize intD (st.slots.getD 74 .junk) = i'
  generalize accB st = q
  intro hS hi
  obtain ⟨i, rfl⟩ : ∃ i : Nat, i' = (i : Int) := ⟨i'.toNat, by omega⟩
  have hm : s.l.m i ≤ 1000000000 := hl.2 i (by omega)
  refine fold_block (fuel := 3) (tabBd_ok ih) mo (lp := bdLp g sh add s) (by rw [bd_b3]; exact lpOk_cons (fun s o h => by cases h) lpOk_nil) (fun j q => bdT s q i j) (s.l.m i) (bdI s.l i) q (keepR 114 [0, 1, 2, 3, 4] [10] bdK1 []) (keepR_ent 114 _ _ _ _) (fun j q => bdBi s q i j) (fun j q => bd_Bi Pd g sh add s q i j) (fun j hj => ?_) ?_ (hS ▸ keepA_ent 114 _ _ _ _ st)
  · refine ⟨fun _ => ⟨⟨⟨by omega, by omega⟩, trivial⟩, rfl, ?_⟩, fun hf => ?_⟩
    · rw [Wn1 hj hm]; exact Dyn.Fits.refl _
    · rw [decide_eq_false_iff_not] at hf; omega
  · refine ⟨fun ht => ?_, fun _ => ⟨rfl, Dyn.Fits.refl _⟩⟩
    rw [decide_eq_true_eq] at ht; omega
theorem bd_outer {Pd : Sh → Prop} {g : Sh → B4 × Bool} (ih : ∀ x, Pd x → BdOk x g) (sh : Nat → Sh) (add : Nat → Bool) (s : Sh) (hl : CtrB s.l) (w0 : Dyn.Base Tryz.prog) (st : Dyn.St) (o : Dyn.Out)
    (h : bdLp g sh add s 1 st = some o) : Dyn.BlockSound Tryz.prog w0 1 (.loop (unloopD (blkD Tryz.f39.body 1))) st o := by
  simp only [bdLp, Option.some.injEq] at h
  subst h
  refine side_one fun hS => ?_
  refine fold_block (fuel := 3) (tabBd_ok ih) mo (lp := bdLp g sh add s) (by rw [bd_b1]; exact lpOk_cons (fun s o h => by cases h) (lpOk_cons (bd_inner ih sh add s hl w0) (lpOk_cons (fun s o h => by cases h) lpOk_nil))) (fun i q => bdS s q i) s.l.n (bdO s.l) bdQ (keepR 114 [0, 1, 2, 3, 4] [] bdK0 []) (keepR_ent 114 _ _ _ _) (fun i q => bdBo s q i) (fun i q => bd_Bo Pd g sh add s q i) (fun i hi => ?_) ?_ (hS ▸ keepA_ent 114 _ _ _ _ st)
  · have hb : 0 ≤ (i : Int) ∧ (i : Int) < s.l.n := ⟨by omega, by omega⟩
    refine ⟨fun _ => ⟨⟨hb, trivial⟩, ⟨rfl, hb, trivial⟩, rfl, ?_⟩, fun hf => ?_⟩
    · rw [Wn1 hi hl.1]; exact Dyn.Fits.refl _
    · rw [decide_eq_false_iff_not] at hf; omega
  · refine ⟨fun ht => ?_, fun _ => ⟨rfl, Dyn.Fits.refl _⟩⟩
    rw [decide_eq_true_eq] at ht; omega
theorem bd_parts {Pd : Sh → Prop} {g : Sh → B4 × Bool} (ih : ∀ x, Pd x → BdOk x g) (k : Int) (a b c : P2) (r : Int) (l : Ctr) (n : Nat) (add : Nat → Bool) (sh : Nat → Sh) (hn : n ≤ 1000000000) (hP : ∀ i, i < n → Pd (sh i)) (w0 : Dyn.Base Tryz.prog) (st : Dyn.St) (o : Dyn.Out)
    (h : bdLp g sh add (mkSh k a b c r l n add sh) 5 st = some o) : Dyn.BlockSound Tryz.prog w0 5 (.loop (unloopD (blkD Tryz.f39.body 5))) st o := by
  simp only [bdLp, Option.some.injEq] at h
  subst h
  refine side_one fun hS => ?_
  revert hS
  generalize accB st = q0
  intro hS
  refine fold_block (fuel := 3) (tabBd_ok ih) mo (lp := bdLp g sh add (mkSh k a b c r l n add sh)) (by rw [bd_b5]; exact lpOk_cons (fun s o h => by cases h) lpOk_nil) (fun i q => bdU (mkSh k a b c r l n add sh) q i) n (bdP g sh add) q0 (keepR 114 [0, 1, 2, 3, 4] [] bdK2 []) (keepR_ent 114 _ _ _ _) (fun i q => bdBp Pd g sh add (mkSh k a b c r l n add sh) q i) (fun i q => bd_Bp Pd g k a b c r l n add sh q i) (fun i hi => ?_) ?_ (hS ▸ keepA_ent 114 _ _ _ _ st)
  · have hb : 0 ≤ (i : Int) ∧ (i : Int) < (n : Int) := ⟨by omega, by omega⟩
    generalize foldN (bdP g sh add) q0 i = q
    unfold bdP
    refine ⟨fun _ => ⟨⟨hb, trivial⟩, fun hx => ⟨rfl, ?_⟩, fun hx => ⟨⟨hP i hi, ctrSelf_ok _, trivial⟩, fun hy => ⟨rfl, ?_⟩, fun hy => ⟨rfl, ?_⟩⟩⟩, fun hf => ?_⟩
    · rw [Wn1 hi hn, hx]; exact Dyn.Fits.refl _
    · rw [Wn1 hi hn, hx, hy]; exact Dyn.Fits.refl _
    · rw [Wn1 hi hn, hx, hy]; exact Dyn.Fits.refl _
    · rw [decide_eq_false_iff_not] at hf
      exact absurd hb.2 hf
  · refine ⟨fun ht => ?_, fun _ => ⟨rfl, Dyn.Fits.refl _⟩⟩
    rw [decide_eq_true_eq] at ht
    exact absurd (show (n : Int) < (n : Int) from ht) (by omega)
def bdR (s : Sh) : Int := W (s.r + rupF (W (W (W (s.a.x - s.c.x) * W (s.a.x - s.c.x)) + W (W (s.a.y - s.c.y) * W (s.a.y - s.c.y)))))
def bdAll (g : Sh → B4 × Bool) (sh : Nat → Sh) (add : Nat → Bool) (s : Sh) : Bool × B4 := foldN (bdP g sh add) (foldN (bdO s.l) bdQ s.l.n) s.n
def bdOO (g : Sh → B4 × Bool) (sh : Nat → Sh) (add : Nat → Bool) (s : Sh) : Dyn.RO :=
  .ite (s.k == 1) (.leaf (.tup [dvX (aroundF s.a s.a s.r), dvB true]))
  (.ite (bif s.k == 3 then s.k == 3 else s.k == 4) (.leaf (.tup [dvX (aroundF s.a s.b s.r), dvB true]))
  (.ite (s.k == 5) (.leaf (.tup [dvX (aroundF s.c s.c (bdR s)), dvB true]))
  (.side [bdS s bdQ 0 = bdS s bdQ 0] (.side [bdU s (foldN (bdO s.l) bdQ s.l.n) 0 = bdU s (foldN (bdO s.l) bdQ s.l.n) 0] (.leaf (.tup [dvX (bdAll g sh add s).2, dvB (bdAll g sh add s).1]))))))
theorem bd_OO (Pd : Sh → Prop) (g : Sh → B4 × Bool) (sh : Nat → Sh) (add : Nat → Bool) (s : Sh) : (Dyn.dfun Tryz.prog (tabBd Pd g) (bdLp g sh add s) 3 Tryz.f39 [dvS s]).ro Tryz.prog Tryz.f39.results = bdOO g sh add s := by kernel_rfl
def boundsG (g : Sh → B4 × Bool) (sh : Nat → Sh) (add : Nat → Bool) (s : Sh) : B4 × Bool :=
  bif s.k == 1 then (aroundF s.a s.a s.r, true) else bif bif s.k == 3 then s.k == 3 else s.k == 4 then (aroundF s.a s.b s.r, true) else bif s.k == 5 then (aroundF s.c s.c (bdR s), true) else ((bdAll g sh add s).2, (bdAll g sh add s).1)
theorem bd_sat (g : Sh → B4 × Bool) (sh : Nat → Sh) (add : Nat → Bool) (s : Sh) : (bdOO g sh add s).sat fun r => Dyn.RVLe r (.tup [dvX (boundsG g sh add s).1, dvB (boundsG g sh add s).2]) := by
  unfold boundsG
  refine ⟨fun h => ?_, fun h => ⟨fun h2 => ?_, fun h2 => ⟨fun h3 => ?_, fun h3 => ⟨⟨rfl, trivial⟩, ⟨rfl, trivial⟩, ?_⟩⟩⟩⟩
  · rw [h]; exact ⟨Dyn.DVLe.refl _, rfl, trivial⟩
  · rw [h, h2]; exact ⟨Dyn.DVLe.refl _, rfl, trivial⟩
  · rw [h, h2, h3]; exact ⟨Dyn.DVLe.refl _, rfl, trivial⟩
  · rw [h, h2, h3]; exact ⟨Dyn.DVLe.refl _, Dyn.DVLe.refl _, trivial⟩
theorem bounds_lvl {Pd : Sh → Prop} {g : Sh → B4 × Bool} (ih : ∀ x, Pd x → BdOk x g) (k : Int) (a b c : P2) (r : Int) (l : Ctr) (n : Nat) (add : Nat → Bool) (sh : Nat → Sh) (hl : CtrB l) (hn : n ≤ 1000000000) (hP : ∀ i, i < n → Pd (sh i)) :
    Dyn.CallD Tryz.prog 39 [dvS (mkSh k a b c r l n add sh)] (.tup [dvX (boundsG g sh add (mkSh k a b c r l n add sh)).1, dvB (boundsG g sh add (mkSh k a b c r l n add sh)).2]) :=
  Dyn.dcontract (lp := bdLp g sh add (mkSh k a b c r l n add sh)) (fuel := 3) (tabBd_ok ih) mo Tryz.func39 (by kernel_rfl) (c := bodyD Tryz.f39.body) (by kernel_rfl)
    (fun w0 => by
      rw [bd_blocks]
      exact lpOk_cons (fun s o h => by cases h) (lpOk_cons (bd_outer ih sh add _ hl w0) (lpOk_cons (fun s o h => by cases h) (lpOk_cons (bd_inner ih sh add _ hl w0) (lpOk_cons (fun s o h => by cases h) (lpOk_cons (bd_parts ih k a b c r l n add sh hn hP w0) (lpOk_cons (fun s o h => by cases h) lpOk_nil)))))))
    (by kernel_rfl) (bd_OO Pd g sh add _) (bd_sat g sh add (mkSh k a b c r l n add sh))
/-- bounds, all the way down -/
def bndF : Shp → B4 × Bool
  | .nil => (⟨0, 0, 0, 0⟩, false)
  | .mk k a b c r l n add sub =>
    bif k == 1 then (aroundF a a r, true) else bif bif k == 3 then k == 3 else k == 4 then (aroundF a b r, true) else bif k == 5 then (aroundF c c (bdR ⟨k, a, b, c, r, l, n, noF⟩), true) else
    ((foldN (fun i q => bif !(add i) then q else bif (bndF (sub i)).2 then (true, tkF q.1 q.2 (bndF (sub i)).1) else q) (foldN (bdO l) bdQ l.n) n).2, (foldN (fun i q => bif !(add i) then q else bif (bndF (sub i)).2 then (true, tkF q.1 q.2 (bndF (sub i)).1) else q) (foldN (bdO l) bdQ l.n) n).1)
noncomputable def bndE (x : Sh) : B4 × Bool := bndF (ofSh x)
theorem bndE_eq (s : Shp) : bndE (toSh s) = bndF s := by unfold bndE; rw [ofSh_toSh]
theorem bndF_lvl (k : Int) (a b c : P2) (r : Int) (l : Ctr) (n : Nat) (add : Nat → Bool) (sub : Nat → Shp) : bndF (.mk k a b c r l n add sub) = boundsG bndE (fun i => toSh (sub i)) add (mkSh k a b c r l n add (fun i => toSh (sub i))) := by
  unfold boundsG bdAll bdP
  simp only [bndE_eq]
  rfl
theorem bnd_ok : ∀ s : Shp, ShB s → BdOk (toSh s) bndE := by
  intro s
  induction s with
  | nil => intro h; exact h.elim
  | mk k a b c r l n add sub ih =>
    intro h
    unfold BdOk
    rw [bndE_eq, bndF_lvl]
    exact bounds_lvl (Pd := fun x => ∃ i, i < n ∧ x = toSh (sub i)) (fun x hx => by
      obtain ⟨i, hi, rfl⟩ := hx
      exact ih i (h.2.2 i hi)) k a b c r l n add (fun i => toSh (sub i)) h.1 h.2.1 (fun i hi => ⟨i, hi, rfl⟩)
theorem bnd_all : ∀ x, PdS x → BdOk x bndE := fun x hx => by
  have k := bnd_ok _ hx.1
  unfold BdOk at k
  rw [show bndE (toSh (ofSh x)) = bndE x by unfold bndE; rw [ofSh_toSh]] at k
  exact CallD_le (args := [dvS (toSh (ofSh x))]) ⟨SLe.dv hx.2, trivial⟩ k
noncomputable def figBnd (x : Sh) : B4 × Bool := bif okE x then bndE x else (⟨0, 0, 0, 0⟩, false)
noncomputable def tdBb : List Dyn.EntryD := [(38, en1D (qAnd qS PdS) fun x => rB (okE x)), (39, en1D (qAnd qS PdS) fun x => .tup [dvX (bndE x).1, dvB (bndE x).2])]
noncomputable def tabBb : Dyn.Tabs := Dyn.tabs tbF tdBb noD dtyS
theorem tabBb_ok : Dyn.TabsOk Tryz.prog tabBb := Dyn.tabs_ok tbF_ok (List.forall_mem_cons.2 ⟨en1D_ok (qAnd_ok qS_ok) fun x h => figOk_ok x h.1, List.forall_mem_cons.2 ⟨en1D_ok (qAnd_ok qS_ok) fun x h => bnd_all x h.1, fun _ h => by cases h⟩⟩)
noncomputable def bbO (x : Sh) : Dyn.RO := .side [PdS x, ctrSelf x.l] (.ite (!(okE x)) (.leaf (.tup [dvX ⟨0, 0, 0, 0⟩, dvB false])) (.side [PdS x, ctrSelf x.l] (.leaf (.tup [dvX (bndE x).1, dvB (bndE x).2]))))
theorem bb_O (x : Sh) : (Dyn.dfun Tryz.prog tabBb Dyn.noLp 3 Tryz.f29 [dvS x]).ro Tryz.prog Tryz.f29.results = bbO x := by kernel_rfl
theorem figBnd_ok (x : Sh) (h : PdS x) : Dyn.CallD Tryz.prog 29 [dvS x] (.tup [dvX (figBnd x).1, dvB (figBnd x).2]) :=
  Dyn.dcontract (lp := Dyn.noLp) (fuel := 3) tabBb_ok mo Tryz.func29 (by kernel_rfl) (c := bodyD Tryz.f29.body) (by kernel_rfl) (fun w0 => Dyn.noLp_ok _ w0) (by kernel_rfl) (bb_O x) (by
    unfold figBnd
    refine ⟨⟨h, ctrSelf_ok _, trivial⟩, fun h1 => ?_, fun h1 => ⟨⟨h, ctrSelf_ok _, trivial⟩, ?_⟩⟩
    · rw [show okE x = false by simpa using h1]; exact ⟨Dyn.DVLe.refl _, rfl, trivial⟩
    · rw [show okE x = true by simpa using h1]; exact ⟨Dyn.DVLe.refl _, Dyn.DVLe.refl _, trivial⟩)
end Go.Proofs.YthnenjodighlmaaGreat

/-! ## Awt -/
namespace Go.Proofs.YthnenjodighlmaaGreat
open Go Go.RowKit Sym
set_option maxRecDepth 100000

end Go.Proofs.YthnenjodighlmaaGreat
