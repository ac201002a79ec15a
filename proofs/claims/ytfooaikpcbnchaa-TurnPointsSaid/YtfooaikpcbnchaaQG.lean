/-
  OWN WORK. Joined by merge.py: Pib Pic Pia Fin Fio Poi Pos Pou Fis Pid Ctt Fip Tuc Fiq Fit Dla Dle Bou Awt.
-/
import Derived.Test.YtfooaikpcbnchaaQE
import Derived.RangeFuncNested
import Derived.RangeFuncBound
import Derived.RangeFuncCalls
import Derived.RangeFuncLeaves
import Derived.RangeFuncBox
import Derived.Shelf.Abstract
import Derived.Shelf.RegionOpen
import Derived.WalkKit
import Derived.OwnWalkIn
import Derived.TacticsInMore
import Derived.LoopNIn
import Derived.LoopIn
import Derived.Deep.WholeRow
import Derived.Test.YtfooaikpcbnchaaQF
/-! ## Pib -/
namespace Go.Proofs.Ytfooaikpcbnchaa
open Go Go.RowKit Go.Shelf
set_option maxRecDepth 100000

attribute [local go_sem] Oper.semAt_some

/-- the value of a row of objects, its cells in a block below n₀ -/
def Objs (n₀ : Nat) (W : World) (oa : Option Addr) (len : Nat) (g : Nat → Nat → Value) : Prop :=
  len = 0 ∨ ∃ b off, oa = some ⟨b, off, none⟩ ∧ b < n₀ ∧ ∀ i, i < len → ∀ j, j < 11 → W.cell? ⟨b, off + i * 11 + j, none⟩ = some (g i j)
theorem Objs.below {n₀ : Nat} {A B : World} (h : Below n₀ A B) {oa : Option Addr} {len : Nat} {g : Nat → Nat → Value} : Objs n₀ A oa len g → Objs n₀ B oa len g
  | .inl e => .inl e
  | .inr ⟨b, off, e, hb, hc⟩ => .inr ⟨b, off, e, hb, fun i hi j hj => (h.cell (p := ⟨b, off + i * 11 + j, none⟩) hb).trans (hc i hi j hj)⟩
theorem Objs.up {n₀ n₁ : Nat} (h : n₀ ≤ n₁) {W : World} {oa : Option Addr} {len : Nat} {g : Nat → Nat → Value} : Objs n₀ W oa len g → Objs n₁ W oa len g
  | .inl e => .inl e
  | .inr ⟨b, off, e, hb, hc⟩ => .inr ⟨b, off, e, by omega, hc⟩
end Go.Proofs.Ytfooaikpcbnchaa

/-! ## Pic -/
namespace Go.Proofs.Ytfooaikpcbnchaa
open Go Go.RowKit Go.Shelf
set_option maxRecDepth 100000

attribute [local go_sem] Oper.semAt_some

def PilRes (len : Nat) (hasV addV : Nat → Bool) (r : Bool) : Prop := (r = false ∧ ∀ j, j < len → hasV j = false) ∨ ∃ k, k < len ∧ r = addV (len - 1 - k) ∧ hasV (len - 1 - k) = true ∧ ∀ j, j < k → hasV (len - 1 - j) = false
end Go.Proofs.Ytfooaikpcbnchaa

/-! ## Pia -/
namespace Go.Proofs.Ytfooaikpcbnchaa
open Go Go.RowKit Sym
set_option maxRecDepth 100000

/-! ### a list of objects, as the parts of a form -/
def dvL (x : Sh) : Dyn.DV := .one (.row x.n x.f)
def obX (n : Nat) (f : Nat → List Dyn.DC) : Sh := ⟨6, ze, ze, ze, 0, zeC, n, f⟩
def qL : Dec Sh
  | .one (.row n f) => some (obX n f, [])
  | _ => none
theorem qL_ok : DecOk qL dvL (fun _ => True) := fun d x ps h hp => by
  unfold qL at h; split at h
  · simp only [Option.some.injEq, Prod.mk.injEq] at h
    obtain ⟨rfl, rfl⟩ := h
    exact ⟨⟨rfl, fun _ _ => rfl⟩, trivial⟩
  · cases h
theorem SLe.dvL {x y : Sh} (h : SLe x y) : Dyn.DVLe (dvL x) (dvL y) := ⟨h.2.2.2.2.2.2.1, h.2.2.2.2.2.2.2⟩
def lForm (n : Nat) (add : Nat → Bool) (sub : Nat → Shp) : Shp := .mk 6 ze ze ze 0 zeC n add sub
/-! ### Small -/
/-! ### Tame -/
/-! ### Class -/
end Go.Proofs.Ytfooaikpcbnchaa

/-! ## Fin -/
namespace Go.Proofs.Ytfooaikpcbnchaa
open Go Go.RowKit Sym
set_option maxRecDepth 100000

/-! ### fine shapes -/
def FinC (P : P2 → Prop) (l : Ctr) : Prop := l.n ≤ 4 ∧ ∀ i, i < l.n → l.m i ≤ 12 ∧ ∀ k, k < l.m i → P (l.p i k)
def Fine (P : P2 → Prop) : Shp → Int → Prop
  | .nil, _ => False
  | .mk k a b c r l n _ sub, d =>
    (k = 1 ∧ b = ze ∧ c = ze ∧ l = zeC ∧ n = 0 ∧ P a ∧ widF r = true) ∨
    (k = 3 ∧ c = ze ∧ l = zeC ∧ n = 0 ∧ P a ∧ P b ∧ widF r = true) ∨
    (k = 4 ∧ c = ze ∧ l = zeC ∧ n = 0 ∧ P a ∧ P b ∧ widF r = true ∧ a ≠ b) ∨
    (k = 5 ∧ l = zeC ∧ n = 0 ∧ P a ∧ P b ∧ P c ∧ widF r = true ∧ okI c a b) ∨
    (k = 2 ∧ a = ze ∧ b = ze ∧ c = ze ∧ r = 0 ∧ n = 0 ∧ FinC P l) ∨
    (k = 6 ∧ a = ze ∧ b = ze ∧ c = ze ∧ r = 0 ∧ l = zeC ∧ d ≤ 5 ∧ ((n : Int) ≤ 4 - d ∨ n ≤ 1) ∧ ∀ i, i < n → Fine P (sub i) (d + 1))
/-- how many shapes there are at most, from depth d on -/
def Nd (d : Int) : Int := if d ≥ 6 then 1 else if d = 5 then 2 else if d = 4 then 3 else if d = 3 then 4 else if d = 2 then 9 else if d = 1 then 28 else 113
theorem Nd_one (d : Int) : 1 ≤ Nd d ∧ Nd d ≤ 113 := by unfold Nd; repeat' split <;> first | omega | (constructor <;> omega)
theorem Nd_step {d m : Int} (h0 : 0 ≤ d) (h5 : d ≤ 5) (h1 : 0 ≤ m) (h2 : m ≤ 4 - d ∨ m ≤ 1) : 1 + m * Nd (d + 1) ≤ Nd d := by
  have : d = 0 ∨ d = 1 ∨ d = 2 ∨ d = 3 ∨ d = 4 ∨ d = 5 := by omega
  rcases this with rfl | rfl | rfl | rfl | rfl | rfl
  · rw [show Nd (0 + 1) = 28 by decide, show Nd 0 = 113 by decide]; omega
  · rw [show Nd (1 + 1) = 9 by decide, show Nd 1 = 28 by decide]; omega
  · rw [show Nd (2 + 1) = 4 by decide, show Nd 2 = 9 by decide]; omega
  · rw [show Nd (3 + 1) = 3 by decide, show Nd 3 = 4 by decide]; omega
  · rw [show Nd (4 + 1) = 2 by decide, show Nd 4 = 3 by decide]; omega
  · rw [show Nd (5 + 1) = 1 by decide, show Nd 5 = 2 by decide]; omega
theorem runN_inv {α : Type} {g : Nat → α → Bool × α} (I : Nat → α → Prop) {a : α} (h0 : I 0 a) : ∀ n, (∀ i x, i < n → I i x → (g i x).1 = true ∧ I (i + 1) (g i x).2) → (runN g a n).1 = true ∧ I n (runN g a n).2
  | 0, _ => ⟨rfl, h0⟩
  | n + 1, h => by
    have k := runN_inv I h0 n (fun i x hi => h i x (by omega))
    have e : runN g a n = (true, (runN g a n).2) := Prod.ext k.1 rfl
    rw [runN_go e]
    exact h n _ (by omega) k.2
theorem ctg_fine {P : P2 → Prop} (hP : ∀ p, P p → nearF p = true) {l : Ctr} (h : FinC P l) : contoursF l = true := by
  unfold contoursF
  refine (runN_inv (fun i (left : Int) => 1000 - 12 * (i : Int) ≤ left ∧ left ≤ 1000) ⟨by omega, by omega⟩ l.n (fun i x hi hx => ?_)).1
  have hm := h.2 i hi
  have hn := h.1
  unfold ctgO
  rw [decide_eq_false (show ¬ (l.m i : Int) > x by omega)]
  refine ⟨?_, ?_⟩
  · show (runN (ctgI l i) () (l.m i)).1 = true
    exact (runN_inv (fun _ _ => True) trivial (l.m i) (fun k _ hk _ => ⟨hP _ (hm.2 k hk), trivial⟩)).1
  · show 1000 - 12 * ((i + 1 : Nat) : Int) ≤ W (x - l.m i) ∧ W (x - l.m i) ≤ 1000
    rw [W_id (by omega) (by omega)]; omega
theorem near_PR {p : P2} (h : nearF p = true) : PR p := by
  unfold nearF at h
  rw [andB_eq, andB_eq, andB_eq, Bool.and_eq_true, Bool.and_eq_true, Bool.and_eq_true, decide_eq_true_eq, decide_eq_true_eq, decide_eq_true_eq, decide_eq_true_eq] at h
  exact ⟨⟨by omega, by omega⟩, ⟨by omega, by omega⟩⟩
theorem eqP_iff {a b : P2} : (bif a.x == b.x then bif a.y == b.y then true else false else false) = true ↔ a = b := by
  obtain ⟨x, y⟩ := a
  obtain ⟨x', y'⟩ := b
  by_cases h : x = x'
  · by_cases k : y = y'
    · subst h; subst k; simp
    · simp [h, k]
  · simp [h]
theorem bare_1 (a : P2) (r : Int) (add : Nat → Bool) (sub : Nat → Shp) : bareF (toSh (.mk 1 a ze ze r zeC 0 add sub)) = true := by kernel_rfl
theorem bare_3 (a b : P2) (r : Int) (add : Nat → Bool) (sub : Nat → Shp) : bareF (toSh (.mk 3 a b ze r zeC 0 add sub)) = true := by kernel_rfl
theorem bare_4 (a b : P2) (r : Int) (add : Nat → Bool) (sub : Nat → Shp) : bareF (toSh (.mk 4 a b ze r zeC 0 add sub)) = true := by kernel_rfl
theorem bare_5 (a b c : P2) (r : Int) (add : Nat → Bool) (sub : Nat → Shp) : bareF (toSh (.mk 5 a b c r zeC 0 add sub)) = true := by kernel_rfl
theorem bare_2 (l : Ctr) (add : Nat → Bool) (sub : Nat → Shp) : bareF (toSh (.mk 2 ze ze ze 0 l 0 add sub)) = true := by kernel_rfl
theorem bare_6 (n : Nat) (add : Nat → Bool) (sub : Nat → Shp) : bareF (toSh (.mk 6 ze ze ze 0 zeC n add sub)) = true := by kernel_rfl
theorem fine_valid {P : P2 → Prop} (hP : ∀ p, P p → nearF p = true) : ∀ (s : Shp) (d forms left : Int), Fine P s d → 0 ≤ d → 0 ≤ forms → forms ≤ d → Nd d ≤ left → left ≤ 1000 →
    (validF s forms left).1 = true ∧ left - Nd d ≤ (validF s forms left).2 ∧ (validF s forms left).2 ≤ left := by
  intro s
  induction s with
  | nil => intro d forms left h; exact h.elim
  | mk k a b c r l n add sub ih =>
    intro d forms left h h0 hf hfd hl h1
    have nd := Nd_one d
    have nn := Nd_one (d + 1)
    have e1 : decide (left < 1) = false := decide_eq_false (by omega)
    have e2 : W (left - 1) = left - 1 := W_id (by omega) (by omega)
    have fin : ∀ v : Bool × Int, v = (true, left - 1) → v.1 = true ∧ left - Nd d ≤ v.2 ∧ v.2 ≤ left := fun v hv => by subst hv; exact ⟨rfl, by dsimp only; omega, by dsimp only; omega⟩
    rcases h with ⟨rfl, rfl, rfl, rfl, rfl, ha, hr⟩ | ⟨rfl, rfl, rfl, rfl, ha, hb, hr⟩ | ⟨rfl, rfl, rfl, rfl, ha, hb, hr, hn⟩ | ⟨rfl, rfl, rfl, ha, hb, hc, hr, ho⟩ | ⟨rfl, rfl, rfl, rfl, rfl, rfl, hc⟩ | ⟨rfl, rfl, rfl, rfl, rfl, rfl, h5, hm, hs⟩
    · refine fin _ ?_
      simp only [validF]
      rw [e1, bare_1, e2, hP a ha, hr]; rfl
    · refine fin _ ?_
      simp only [validF]
      rw [e1, bare_3, e2, hP a ha, hP b hb, hr]; rfl
    · refine fin _ ?_
      simp only [validF]
      rw [e1, bare_4, e2, hP a ha, hP b hb, hr, show (bif a.x == b.x then bif a.y == b.y then true else false else false) = false by rw [Bool.eq_false_iff]; exact fun q => hn (eqP_iff.1 q)]; rfl
    · refine fin _ ?_
      simp only [validF]
      rw [e1, bare_5, e2, hP a ha, hP b hb, hP c hc, hr, (ringOk_eq (near_PR (hP c hc)) (near_PR (hP a ha)) (near_PR (hP b hb))).2 ho]; rfl
    · refine fin _ ?_
      simp only [validF]
      rw [e1, bare_2, e2, ctg_fine hP hc]; rfl
    · have st := Nd_step h0 h5 (show 0 ≤ (n : Int) by omega) (by omega)
      have key := runN_inv (g := fun i lf => validF (sub i) (W (forms + 1)) lf) (a := left - 1) (fun i (lf : Int) => left - 1 - (i : Int) * Nd (d + 1) ≤ lf ∧ lf ≤ left - 1) ⟨by omega, by omega⟩ n (fun i x hi hx => by
        have a1 : ((i + 1 : Nat) : Int) * Nd (d + 1) ≤ (n : Int) * Nd (d + 1) := Int.mul_le_mul_of_nonneg_right (by omega) (by omega)
        have a2 : ((i + 1 : Nat) : Int) * Nd (d + 1) = (i : Int) * Nd (d + 1) + Nd (d + 1) := by rw [show ((i + 1 : Nat) : Int) = (i : Int) + 1 by omega, Int.add_mul, Int.one_mul]
        have w : W (forms + 1) = forms + 1 := W_id (by omega) (by omega)
        have q := ih i (d + 1) (forms + 1) x (hs i hi) (by omega) (by omega) (by omega) (by omega) (by omega)
        rw [w]
        refine ⟨q.1, ?_, ?_⟩
        · omega
        · omega)
      have ev : validF (.mk 6 ze ze ze 0 zeC n add sub) forms left = runN (fun i lf => validF (sub i) (W (forms + 1)) lf) (left - 1) n := by
        simp only [validF]
        rw [e1, bare_6, e2, decide_eq_false (show ¬ forms ≥ 8 by omega)]; rfl
      rw [ev]
      exact ⟨key.1, by omega, by omega⟩
theorem fine_ok {P : P2 → Prop} (hP : ∀ p, P p → nearF p = true) {s : Shp} (h : Fine P s 0) : okE (toSh s) = true := by
  unfold okE
  rw [vE_eq]
  exact (fine_valid hP s 0 0 1000 h (by decide) (by decide) (by decide) (by decide) (by decide)).1
end Go.Proofs.Ytfooaikpcbnchaa

/-! ## Fio -/
namespace Go.Proofs.Ytfooaikpcbnchaa
open Go Go.RowKit Sym
set_option maxRecDepth 100000

/-- no farther out than B -/
def PB (B : Int) (p : P2) : Prop := (-B ≤ p.x ∧ p.x ≤ B) ∧ (-B ≤ p.y ∧ p.y ≤ B)
theorem PB_near {B : Int} (h : B ≤ 536870912) {p : P2} (k : PB B p) : nearF p = true := by
  unfold nearF
  rw [decide_eq_true (show p.x ≥ -536870912 by have := k.1; omega), decide_eq_true (show p.x ≤ 536870912 by have := k.1; omega), decide_eq_true (show p.y ≥ -536870912 by have := k.2; omega), decide_eq_true (show p.y ≤ 536870912 by have := k.2; omega)]
  rfl
/-- how far out a tame shape goes -/
def tmX (sm : Bool) : Int := bif sm then 40 else 536870912
theorem at_PB (p : P2) (sm : Bool) : PB (tmX sm) (atP p sm) := by
  cases sm
  · exact lPt_r p
  · have h := lClose_r p (n := 20) (by decide) (by decide)
    exact ⟨⟨by show (-40 : Int) ≤ (lClose p 20).x; omega, by show (lClose p 20).x ≤ (40 : Int); omega⟩, ⟨by show (-40 : Int) ≤ (lClose p 20).y; omega, by show (lClose p 20).y ≤ (40 : Int); omega⟩⟩
theorem at_PB0 (p : P2) (sm : Bool) : (-536870912 ≤ (atP p sm).x ∧ (atP p sm).x ≤ 536870912) := by
  have h := at_PB p sm
  cases sm
  · exact h.1
  · have := h.1; unfold tmX at this; simp only [cond_true] at this; omega
theorem tmB_ok (s : Sh) (sm : Bool) : PB (tmX sm) (tmB s sm) ∧ atP s.a sm ≠ tmB s sm := by
  have hb := at_PB s.b sm
  have h0 := at_PB0 s.b sm
  have hx : 40 ≤ tmX sm := by cases sm <;> decide
  unfold tmB
  cases e : eqP (atP s.a sm) (atP s.b sm)
  · refine ⟨hb, fun q => ?_⟩
    rw [Bool.eq_false_iff] at e
    exact e (eqP_iff.2 q)
  · have ea : atP s.a sm = atP s.b sm := eqP_iff.1 e
    cases g : decide ((atP s.b sm).x > 0)
    · rw [decide_eq_false_iff_not] at g
      have w : W ((atP s.b sm).x + 1) = (atP s.b sm).x + 1 := W_id (by omega) (by omega)
      refine ⟨⟨⟨by show _ ≤ W ((atP s.b sm).x + 1); rw [w]; have := hb.1; omega, by show W ((atP s.b sm).x + 1) ≤ _; rw [w]; omega⟩, hb.2⟩, fun q => ?_⟩
      have : (atP s.a sm).x = W ((atP s.b sm).x + 1) := congrArg P2.x q
      rw [ea, w] at this; omega
    · rw [decide_eq_true_eq] at g
      have w : W ((atP s.b sm).x - 1) = (atP s.b sm).x - 1 := W_id (by omega) (by omega)
      refine ⟨⟨⟨by show _ ≤ W ((atP s.b sm).x - 1); rw [w]; omega, by show W ((atP s.b sm).x - 1) ≤ _; rw [w]; have := hb.1; omega⟩, hb.2⟩, fun q => ?_⟩
      have : (atP s.a sm).x = W ((atP s.b sm).x - 1) := congrArg P2.x q
      rw [ea, w] at this; omega
theorem tmR_ok (s : Sh) (sm : Bool) : widF (tmR s sm) = true := by
  have h := lR_bd s.r
  unfold widF
  cases sm
  · show andB (decide (lR s.r ≥ 1)) (decide (lR s.r ≤ 536870912)) = true
    rw [decide_eq_true (show lR s.r ≥ 1 by omega), decide_eq_true h.2]; rfl
  · have h1 := Int.tmod_nonneg (a := lR s.r) 15 (by omega)
    have h2 := (tmod_bd (lR s.r) (n := 15) (by decide)).2
    show andB (decide (W ((lR s.r).tmod 15 + 1) ≥ 1)) (decide (W ((lR s.r).tmod 15 + 1) ≤ 536870912)) = true
    rw [W_id (by omega) (by omega), decide_eq_true (show (lR s.r).tmod 15 + 1 ≥ 1 by omega), decide_eq_true (show (lR s.r).tmod 15 + 1 ≤ 536870912 by omega)]; rfl
theorem arcC_PB (c : P2) (sm : Bool) : PB (tmX sm) (arcC c sm) := by
  cases sm
  · have h := arcC_r c false
    exact ⟨⟨by show (-536870912 : Int) ≤ _; omega, by show _ ≤ (536870912 : Int); omega⟩, ⟨by show (-536870912 : Int) ≤ _; omega, by show _ ≤ (536870912 : Int); omega⟩⟩
  · have h := arcC_s c
    exact ⟨⟨by show (-40 : Int) ≤ _; omega, by show _ ≤ (40 : Int); omega⟩, ⟨by show (-40 : Int) ≤ _; omega, by show _ ≤ (40 : Int); omega⟩⟩
theorem arcAt_PB (c : P2) (f s : Int) (sm : Bool) : PB (tmX sm) (arcAt c f s sm) := by
  rw [arcAt_eq]
  have h := circ_ok f
  cases sm
  · have hc := arcC_r c false
    have kk := arcK_bd s false
    have x := mul_bd (A := 20000000) (B := 5) (x := arcK s false) (y := (circ f).x) (by omega) (by omega) h.x.1 h.x.2
    have y := mul_bd (A := 20000000) (B := 5) (x := arcK s false) (y := (circ f).y) (by omega) (by omega) h.y.1 h.y.2
    exact ⟨⟨by show (-536870912 : Int) ≤ (arcC c false).x + _; omega, by show (arcC c false).x + _ ≤ (536870912 : Int); omega⟩, ⟨by show (-536870912 : Int) ≤ (arcC c false).y + _; omega, by show (arcC c false).y + _ ≤ (536870912 : Int); omega⟩⟩
  · have hc := arcC_s c
    have kk := arcK1_bd s
    have x := mul_bd (A := 4) (B := 5) (x := arcK1 s) (y := (circ f).x) (by omega) (by omega) h.x.1 h.x.2
    have y := mul_bd (A := 4) (B := 5) (x := arcK1 s) (y := (circ f).y) (by omega) (by omega) h.y.1 h.y.2
    exact ⟨⟨by show (-40 : Int) ≤ (arcC c true).x + arcK1 s * (circ f).x; omega, by show (arcC c true).x + arcK1 s * (circ f).x ≤ (40 : Int); omega⟩, ⟨by show (-40 : Int) ≤ (arcC c true).y + arcK1 s * (circ f).y; omega, by show (arcC c true).y + arcK1 s * (circ f).y ≤ (40 : Int); omega⟩⟩
theorem arc_okJ (c : P2) (f t s : Int) (sm : Bool) : okI (arcC c sm) (arcAt c f s sm) (arcAt c t s sm) := by
  have kk := arcK_bd s sm
  have a := (onC_r (arcC_r c sm) kk (circ_ok f)).2
  have b := (onC_r (arcC_r c sm) kk (circ_ok t)).2
  rw [arcAt_eq, arcAt_eq]
  have p : 1 ≤ arcK s sm * arcK s sm := Int.le_trans (show (1 : Int) ≤ 1 * 1 by decide) (Int.mul_le_mul kk.1 kk.1 (by decide) (by omega))
  exact ⟨by rw [a]; omega, by rw [a, b]⟩
theorem tameC_Fin (l : Ctr) (sm : Bool) : FinC (PB (tmX sm)) (tameC l sm) := by
  refine ⟨by show min l.n 4 ≤ 4; omega, fun i _ => ⟨by show min (l.m i) 12 ≤ 12; omega, fun k _ => ?_⟩⟩
  cases sm
  · exact lPt_r (l.p i k)
  · have h := lClose_r (lPt (l.p i k)) (n := 20) (by decide) (by decide)
    exact ⟨⟨by show (-40 : Int) ≤ (lClose (lPt (l.p i k)) 20).x; omega, by show (lClose (lPt (l.p i k)) 20).x ≤ (40 : Int); omega⟩, ⟨by show (-40 : Int) ≤ (lClose (lPt (l.p i k)) 20).y; omega, by show (lClose (lPt (l.p i k)) 20).y ≤ (40 : Int); omega⟩⟩
theorem tmK0_bd (s : Sh) : 1 ≤ tmK0 s ∧ tmK0 s ≤ 6 := by
  have a := tmod_bd s.k (n := 6) (by decide)
  have w : W (s.k.tmod 6 + 6) = s.k.tmod 6 + 6 := W_id (by omega) (by omega)
  have b := Int.tmod_nonneg (a := s.k.tmod 6 + 6) 6 (by omega)
  have c := (tmod_bd (s.k.tmod 6 + 6) (n := 6) (by decide)).2
  unfold tmK0
  rw [w, W_id (by omega) (by omega)]; omega
theorem tmKk_bd (s : Sh) (d : Int) : (1 ≤ tmKk s d ∧ tmKk s d ≤ 6) ∧ (tmKk s d = 6 → d ≤ 5) := by
  have a := tmK0_bd s
  unfold tmKk
  by_cases h : d > 5
  · rw [decide_eq_true h]
    cases g : tmK0 s == 6
    · refine ⟨a, fun e => ?_⟩
      have e : tmK0 s = 6 := e
      rw [e] at g; cases g
    · exact ⟨by show (1 : Int) ≤ 1 ∧ (1 : Int) ≤ 6; omega, fun e => by cases e⟩
  · rw [decide_eq_false h]
    exact ⟨a, fun _ => by omega⟩
theorem tame_fine (sm : Bool) : ∀ (s : Shp) (d : Int), ShB s → 0 ≤ d → d ≤ 6 → Fine (PB (tmX sm)) (tameS s sm d) d := by
  intro s
  induction s with
  | nil => intro d h; exact h.elim
  | mk k a b c r l n add sub ih =>
    intro d h h0 h6
    have kk := tmKk_bd ⟨k, a, b, c, r, l, n, noF⟩ d
    have kb := tmB_ok ⟨k, a, b, c, r, l, n, noF⟩ sm
    have kr := tmR_ok ⟨k, a, b, c, r, l, n, noF⟩ sm
    simp only [tameS]
    generalize tmKk ⟨k, a, b, c, r, l, n, noF⟩ d = K at *
    have : K = 1 ∨ K = 2 ∨ K = 3 ∨ K = 4 ∨ K = 5 ∨ K = 6 := by omega
    rcases this with rfl | rfl | rfl | rfl | rfl | rfl
    · exact .inl ⟨rfl, rfl, rfl, rfl, rfl, at_PB a sm, kr⟩
    · exact .inr (.inr (.inr (.inr (.inl ⟨rfl, rfl, rfl, rfl, rfl, rfl, tameC_Fin l sm⟩))))
    · exact .inr (.inl ⟨rfl, rfl, rfl, rfl, at_PB a sm, kb.1, kr⟩)
    · exact .inr (.inr (.inl ⟨rfl, rfl, rfl, rfl, at_PB a sm, kb.1, kr, kb.2⟩))
    · exact .inr (.inr (.inr (.inl ⟨rfl, rfl, rfl, arcAt_PB _ _ _ _, arcAt_PB _ _ _ _, arcC_PB _ _, kr, arc_okJ _ _ _ _ _⟩)))
    · have h5 := kk.2 rfl
      have w : W (4 - d) = 4 - d := W_id (by omega) (by omega)
      have wd : W (d + 1) = d + 1 := W_id (by omega) (by omega)
      have hn : tmN ⟨k, a, b, c, r, l, n, noF⟩ d = min n (imax (4 - d) 1).toNat := by unfold tmN; rw [w]
      refine .inr (.inr (.inr (.inr (.inr ⟨rfl, rfl, rfl, rfl, rfl, rfl, h5, ?_, fun i hi => ?_⟩))))
      · rw [hn]; unfold imax; split <;> omega
      · rw [wd]
        exact ih i (d + 1) (h.2.2 i (by rw [hn] at hi; omega)) (by omega) (by omega)
end Go.Proofs.Ytfooaikpcbnchaa

/-! ## Poi -/
namespace Go.Proofs.Ytfooaikpcbnchaa
open Go Go.RowKit Sym

def crossesI (p a e : P2) : Bool := (decide (a.y > p.y) != decide (e.y > p.y)) && (if e.y > a.y then decide (crossI a e p > 0) else decide (crossI a e p < 0))
theorem crossesF_eq {p a e : P2} (hp : PR p) (ha : PR a) (he : PR e) : crossesF p a e = crossesI p a e := by
  unfold crossesF crossesI
  rw [(cross_eq ha he hp).1]
  by_cases k : e.y > a.y
  · simp only [k, decide_true, if_true]
    cases decide (a.y > p.y) <;> cases decide (e.y > p.y) <;> rfl
  · simp only [k, decide_false, if_false]
    cases decide (a.y > p.y) <;> cases decide (e.y > p.y) <;> rfl
def spotB (p : P2) : B4 := ⟨p.x, p.y, p.x, p.y⟩
/-- a point lies on an edge -/
def onI (p a e : P2) : Bool := decide (min a.x e.x ≤ p.x ∧ p.x ≤ max a.x e.x ∧ min a.y e.y ≤ p.y ∧ p.y ≤ max a.y e.y ∧ crossI a e p = 0)
theorem spot_meets (p a e : P2) : meetsI (spotB p) a e = onI p a e := by
  have h : ∀ f : P2 → Bool, all4 f (spotB p) = f p := fun f => by unfold all4 spotB; dsimp only; cases f ⟨p.x, p.y⟩ <;> rfl
  unfold meetsI
  rw [h, h]
  rw [Bool.eq_iff_iff]
  unfold sepI onI spotB
  simp only [Bool.and_eq_true, Bool.not_eq_true', Bool.or_eq_false_iff, decide_eq_false_iff_not, decide_eq_true_eq]
  omega
/-! ### rectangles -/
theorem xor_dc {a b : Prop} [Decidable a] [Decidable b] : xor (decide a) (decide b) = decide ((a ∧ ¬ b) ∨ (¬ a ∧ b)) := by
  by_cases h : a <;> by_cases k : b <;> simp [h, k]
end Go.Proofs.Ytfooaikpcbnchaa

/-! ## Pos -/
namespace Go.Proofs.Ytfooaikpcbnchaa
open Go Go.RowKit Sym

theorem meetsI_swp (b : B4) (p q : P2) : meetsI b q p = meetsI b p q := by
  have e : ∀ c, crossI q p c = -(crossI p q c) := fun c => by unfold crossI; grind
  unfold meetsI sepI
  rw [show all4 (fun c => decide (crossI q p c > 0)) b = all4 (fun c => decide (crossI p q c < 0)) b from by
    unfold all4; simp only [e, show ∀ x : Int, decide (-x > 0) = decide (x < 0) from fun x => by rw [Bool.eq_iff_iff]; simp only [decide_eq_true_eq]; omega]]
  rw [show all4 (fun c => decide (crossI q p c < 0)) b = all4 (fun c => decide (crossI p q c > 0)) b from by
    unfold all4; simp only [e, show ∀ x : Int, decide (-x < 0) = decide (x > 0) from fun x => by rw [Bool.eq_iff_iff]; simp only [decide_eq_true_eq]; omega]]
  rw [Int.max_comm q.x, Int.max_comm q.y, Int.min_comm q.x, Int.min_comm q.y]
  cases all4 (fun c => decide (crossI p q c > 0)) b <;> cases all4 (fun c => decide (crossI p q c < 0)) b <;> rfl
theorem crossesI_swp (p a e : P2) : crossesI p e a = crossesI p a e := by
  have h : crossI e a p = -(crossI a e p) := by unfold crossI; grind
  unfold crossesI
  rw [h, Bool.eq_iff_iff]
  by_cases k : e.y > a.y <;> by_cases k' : a.y > e.y <;> simp only [k, k', if_true, if_false, Bool.and_eq_true, bne_iff_ne, ne_eq, decide_eq_decide, decide_eq_true_eq] <;> omega
/-- an edge meets a box of which it has a point on each side -/
theorem meets_two {b : B4} {a e p q : P2} (hp : hasI b p) (hq : hasI b q) (h0 : crossI a e p ≤ 0) (h1 : 0 ≤ crossI a e q) (hs : sepI b a e = false) : meetsI b a e = true := by
  obtain ⟨k, hk, hl⟩ := cross_le a e hp
  obtain ⟨k', hk', hl'⟩ := cross_ge a e hq
  have f1 : all4 (fun c => decide (crossI a e c > 0)) b = false := by
    rw [Bool.eq_false_iff]; intro h
    have := all4_iff.1 h k hk
    simp only [decide_eq_true_eq] at this; omega
  have f2 : all4 (fun c => decide (crossI a e c < 0)) b = false := by
    rw [Bool.eq_false_iff]; intro h
    have := all4_iff.1 h k' hk'
    simp only [decide_eq_true_eq] at this; omega
  unfold meetsI
  rw [hs, f1, f2]; rfl
theorem sep_no {b : B4} {a e : P2} (h1 : b.x0 ≤ max a.x e.x) (h2 : min a.x e.x ≤ b.x1) (h3 : b.y0 ≤ max a.y e.y) (h4 : min a.y e.y ≤ b.y1) : sepI b a e = false := by
  unfold sepI
  simp only [Bool.or_eq_false_iff, decide_eq_false_iff_not]
  omega
/-- left of an edge that goes up -/
theorem left_of {a e p : P2} (h1 : a.y ≤ p.y) (h2 : p.y ≤ e.y) (h : a.y < e.y) (hx : p.x < a.x) (hx' : p.x < e.x) : 0 < crossI a e p := by
  have e0 : crossI a e p = (e.x - p.x) * (p.y - a.y) + (a.x - p.x) * (e.y - p.y) := by unfold crossI; grind
  have p1 := Int.mul_nonneg (show 0 ≤ e.x - p.x by omega) (show 0 ≤ p.y - a.y by omega)
  have p2 := Int.mul_nonneg (show 0 ≤ a.x - p.x by omega) (show 0 ≤ e.y - p.y by omega)
  rcases (show a.y < p.y ∨ p.y < e.y by omega) with k | k
  · have := Int.mul_pos (show 0 < e.x - p.x by omega) (show 0 < p.y - a.y by omega); omega
  · have := Int.mul_pos (show 0 < a.x - p.x by omega) (show 0 < e.y - p.y by omega); omega
theorem right_of {a e p : P2} (h1 : a.y ≤ p.y) (h2 : p.y ≤ e.y) (hx : a.x ≤ p.x) (hx' : e.x ≤ p.x) : crossI a e p ≤ 0 := by
  have e0 : crossI a e p = -((p.x - e.x) * (p.y - a.y)) - (p.x - a.x) * (e.y - p.y) := by unfold crossI; grind
  have p1 := Int.mul_nonneg (show 0 ≤ p.x - e.x by omega) (show 0 ≤ p.y - a.y by omega)
  have p2 := Int.mul_nonneg (show 0 ≤ p.x - a.x by omega) (show 0 ≤ e.y - p.y by omega)
  omega
theorem crosses_up {p a e : P2} (h : a.y ≤ e.y) : crossesI p a e = true ↔ a.y ≤ p.y ∧ p.y < e.y ∧ 0 < crossI a e p := by
  unfold crossesI
  by_cases k : e.y > a.y
  · simp only [k, if_true, Bool.and_eq_true, bne_iff_ne, ne_eq, decide_eq_decide, decide_eq_true_eq]; omega
  · simp only [k, if_false, Bool.and_eq_true, bne_iff_ne, ne_eq, decide_eq_decide, decide_eq_true_eq]; omega
/-- moved to the side -/
theorem cross_side {b : B4} {a e p q : P2} (hp : hasI b p) (hq : hasI b q) (hy : p.y = q.y) (hm : meetsI b a e = false) : crossesI p a e = crossesI q a e := by
  have one : ∀ {a e : P2}, a.y ≤ e.y → meetsI b a e = false → ∀ {p q : P2}, hasI b p → hasI b q → p.y = q.y → crossesI p a e = true → crossesI q a e = true := by
    intro a e h hm p q hp hq hy hc
    obtain ⟨c1, c2, c3⟩ := (crosses_up h).1 hc
    refine (crosses_up h).2 ⟨by omega, by omega, ?_⟩
    rcases (show 0 < crossI a e q ∨ crossI a e q ≤ 0 by omega) with g | g
    · exact g
    · exfalso
      have hs : sepI b a e = false := by
        unfold hasI at hp hq
        refine sep_no ?_ ?_ (by omega) (by omega)
        · rcases (show b.x0 ≤ max a.x e.x ∨ max a.x e.x < b.x0 by omega) with k | k
          · exact k
          · have := right_of (a := a) (e := e) (p := p) (by omega) (by omega) (by omega) (by omega); omega
        · rcases (show min a.x e.x ≤ b.x1 ∨ b.x1 < min a.x e.x by omega) with k | k
          · exact k
          · have := left_of (a := a) (e := e) (p := q) (by omega) (by omega) (by omega) (by omega) (by omega); omega
      rw [meets_two hq hp g (by omega) hs] at hm; cases hm
  rw [Bool.eq_iff_iff]
  rcases Int.le_total a.y e.y with h | h
  · exact ⟨one h hm hp hq hy, one h hm hq hp hy.symm⟩
  · rw [← crossesI_swp p, ← crossesI_swp q]
    rw [← meetsI_swp] at hm
    exact ⟨one h hm hp hq hy, one h hm hq hp hy.symm⟩
/-- right of the way up from height v to height v' -/
def stripB (u v v' : Int) (w : P2) : Bool := decide (v < w.y ∧ w.y ≤ v' ∧ u < w.x)
theorem cross_end (a e : P2) (u : Int) : crossI a e ⟨u, e.y⟩ = (e.y - a.y) * (e.x - u) ∧ crossI a e ⟨u, a.y⟩ = (e.y - a.y) * (a.x - u) := by
  unfold crossI; dsimp only; constructor <;> grind
theorem mul_sign {t x : Int} (h : 0 ≤ t) : (0 < x ∧ 0 ≤ t * x) ∨ (x = 0 ∧ t * x = 0) ∨ (x < 0 ∧ t * x ≤ 0) := by
  rcases (show 0 < x ∨ x = 0 ∨ x < 0 by omega) with k | k | k
  · exact .inl ⟨k, Int.mul_nonneg h (by omega)⟩
  · subst k; exact .inr (.inl ⟨rfl, Int.mul_zero _⟩)
  · have := Int.mul_nonneg h (show 0 ≤ -x by omega)
    rw [Int.mul_neg] at this; exact .inr (.inr ⟨k, by omega⟩)
/-- who is where: heights -/
theorem rise_cases {ay ey ax ex u v v' G1 G2 : Int} (h : ay ≤ ey) (hv : v ≤ v')
    (hC : ay ≤ v → v' < ey → (0 < G1 ↔ 0 < G2)) (hD : ay ≤ v → v < ey → ey ≤ v' → (0 < G1 ↔ u < ex)) (hE : v < ay → ay ≤ v' → v' < ey → (0 < G2 ↔ u < ax)) (hF : v < ay → ey ≤ v' → (u < ax ↔ u < ex)) :
    xor (decide (ay ≤ v ∧ v < ey ∧ 0 < G1)) (decide (ay ≤ v' ∧ v' < ey ∧ 0 < G2)) = xor (decide (v < ay ∧ ay ≤ v' ∧ u < ax)) (decide (v < ey ∧ ey ≤ v' ∧ u < ex)) := by
  have D : ∀ {a b : Prop} [Decidable a] [Decidable b], (a ↔ b) → decide a = decide b := fun h => decide_eq_decide.2 h
  have N : ∀ {a : Prop} [Decidable a], ¬ a → decide a = false := fun h => decide_eq_false h
  rcases (show ey ≤ v ∨ v' < ay ∨ (ay ≤ v ∧ v' < ey) ∨ (ay ≤ v ∧ v < ey ∧ ey ≤ v') ∨ (v < ay ∧ ay ≤ v' ∧ v' < ey) ∨ (v < ay ∧ ey ≤ v') by omega) with k | k | ⟨k1, k2⟩ | ⟨k1, k2, k3⟩ | ⟨k1, k2, k3⟩ | ⟨k1, k2⟩
  · rw [N (show ¬ (ay ≤ v ∧ v < ey ∧ 0 < G1) by omega), N (show ¬ (ay ≤ v' ∧ v' < ey ∧ 0 < G2) by omega), N (show ¬ (v < ay ∧ ay ≤ v' ∧ u < ax) by omega), N (show ¬ (v < ey ∧ ey ≤ v' ∧ u < ex) by omega)]
  · rw [N (show ¬ (ay ≤ v ∧ v < ey ∧ 0 < G1) by omega), N (show ¬ (ay ≤ v' ∧ v' < ey ∧ 0 < G2) by omega), N (show ¬ (v < ay ∧ ay ≤ v' ∧ u < ax) by omega), N (show ¬ (v < ey ∧ ey ≤ v' ∧ u < ex) by omega)]
  · have := hC k1 k2
    rw [D (show (ay ≤ v ∧ v < ey ∧ 0 < G1) ↔ 0 < G1 from ⟨fun z => z.2.2, fun z => ⟨k1, by omega, z⟩⟩), D (show (ay ≤ v' ∧ v' < ey ∧ 0 < G2) ↔ 0 < G1 from ⟨fun z => this.2 z.2.2, fun z => ⟨by omega, k2, this.1 z⟩⟩), N (show ¬ (v < ay ∧ ay ≤ v' ∧ u < ax) by omega), N (show ¬ (v < ey ∧ ey ≤ v' ∧ u < ex) by omega)]
    simp
  · have := hD k1 k2 k3
    rw [D (show (ay ≤ v ∧ v < ey ∧ 0 < G1) ↔ u < ex from ⟨fun z => this.1 z.2.2, fun z => ⟨k1, k2, this.2 z⟩⟩), N (show ¬ (ay ≤ v' ∧ v' < ey ∧ 0 < G2) by omega), N (show ¬ (v < ay ∧ ay ≤ v' ∧ u < ax) by omega), D (show (v < ey ∧ ey ≤ v' ∧ u < ex) ↔ u < ex from ⟨fun z => z.2.2, fun z => ⟨k2, k3, z⟩⟩)]
    simp
  · have := hE k1 k2 k3
    rw [N (show ¬ (ay ≤ v ∧ v < ey ∧ 0 < G1) by omega), D (show (ay ≤ v' ∧ v' < ey ∧ 0 < G2) ↔ u < ax from ⟨fun z => this.1 z.2.2, fun z => ⟨k2, k3, this.2 z⟩⟩), D (show (v < ay ∧ ay ≤ v' ∧ u < ax) ↔ u < ax from ⟨fun z => z.2.2, fun z => ⟨k1, k2, z⟩⟩), N (show ¬ (v < ey ∧ ey ≤ v' ∧ u < ex) by omega)]
    simp
  · have := hF k1 k2
    rw [N (show ¬ (ay ≤ v ∧ v < ey ∧ 0 < G1) by omega), N (show ¬ (ay ≤ v' ∧ v' < ey ∧ 0 < G2) by omega), D (show (v < ay ∧ ay ≤ v' ∧ u < ax) ↔ u < ax from ⟨fun z => z.2.2, fun z => ⟨k1, by omega, z⟩⟩), D (show (v < ey ∧ ey ≤ v' ∧ u < ex) ↔ u < ax from ⟨fun z => this.2 z.2.2, fun z => ⟨by omega, k2, this.1 z⟩⟩)]
    simp
theorem cross_rise {b : B4} {a e : P2} {u v v' : Int} (hv : v ≤ v') (hp : hasI b ⟨u, v⟩) (hq : hasI b ⟨u, v'⟩) (hm : meetsI b a e = false) : xor (crossesI ⟨u, v⟩ a e) (crossesI ⟨u, v'⟩ a e) = xor (stripB u v v' a) (stripB u v v' e) := by
  have one : ∀ {a e : P2}, a.y ≤ e.y → meetsI b a e = false → xor (crossesI ⟨u, v⟩ a e) (crossesI ⟨u, v'⟩ a e) = xor (stripB u v v' a) (stripB u v v' e) := by
    intro a e h hm
    have c1 := crosses_up (p := ⟨u, v⟩) h
    have c2 := crosses_up (p := ⟨u, v'⟩) h
    obtain ⟨ee, ea⟩ := cross_end a e u
    have se := mul_sign (t := e.y - a.y) (x := e.x - u) (by omega)
    have sa := mul_sign (t := e.y - a.y) (x := a.x - u) (by omega)
    rw [← ee] at se
    rw [← ea] at sa
    have hu : b.x0 ≤ u ∧ u ≤ b.x1 ∧ b.y0 ≤ v ∧ v' ≤ b.y1 := by unfold hasI at hp hq; dsimp only at *; omega
    have rl : ∀ y, v ≤ y → y ≤ v' → hasI b ⟨u, y⟩ := fun y h1 h2 => by unfold hasI; dsimp only; omega
    -- no two points of the way lie on both sides
    have no : ∀ y y', v ≤ y → y ≤ v' → v ≤ y' → y' ≤ v' → a.y ≤ v' → v ≤ e.y → min a.x e.x ≤ u → u ≤ max a.x e.x → ¬ (crossI a e ⟨u, y⟩ ≤ 0 ∧ 0 ≤ crossI a e ⟨u, y'⟩) := fun y y' h1 h2 h3 h4 h5 h6 h7 h8 g => by
      rw [meets_two (rl y h1 h2) (rl y' h3 h4) g.1 g.2 (sep_no (by omega) (by omega) (by omega) (by omega))] at hm; cases hm
    have lf : ∀ y, a.y ≤ y → y ≤ e.y → a.y < e.y → u < a.x → u < e.x → 0 < crossI a e ⟨u, y⟩ := fun y h1 h2 h3 h4 h5 => left_of (p := ⟨u, y⟩) h1 h2 h3 h4 h5
    have rt : ∀ y, a.y ≤ y → y ≤ e.y → a.x ≤ u → e.x ≤ u → crossI a e ⟨u, y⟩ ≤ 0 := fun y h1 h2 h4 h5 => right_of (p := ⟨u, y⟩) h1 h2 h4 h5
    dsimp only at c1 c2
    have X1 : crossesI ⟨u, v⟩ a e = decide (a.y ≤ v ∧ v < e.y ∧ 0 < crossI a e ⟨u, v⟩) := by rw [Bool.eq_iff_iff, decide_eq_true_eq]; exact c1
    have X2 : crossesI ⟨u, v'⟩ a e = decide (a.y ≤ v' ∧ v' < e.y ∧ 0 < crossI a e ⟨u, v'⟩) := by rw [Bool.eq_iff_iff, decide_eq_true_eq]; exact c2
    rw [X1, X2]
    unfold stripB
    have lr : (u < a.x ∧ u < e.x) ∨ (a.x ≤ u ∧ e.x ≤ u) ∨ (min a.x e.x ≤ u ∧ u ≤ max a.x e.x) := by omega
    refine rise_cases h hv (fun k1 k2 => ?_) (fun k1 k2 k3 => ?_) (fun k1 k2 k3 => ?_) (fun k1 k2 => ?_)
    · rcases lr with ⟨g1, g2⟩ | ⟨g1, g2⟩ | ⟨g1, g2⟩
      · exact ⟨fun _ => lf v' (by omega) (by omega) (by omega) g1 g2, fun _ => lf v (by omega) (by omega) (by omega) g1 g2⟩
      · have r1 := rt v (by omega) (by omega) g1 g2
        have r2 := rt v' (by omega) (by omega) g1 g2
        omega
      · have n1 := no v v' (Int.le_refl _) hv hv (Int.le_refl _) (by omega) (by omega) g1 g2
        have n2 := no v' v hv (Int.le_refl _) (Int.le_refl _) hv (by omega) (by omega) g1 g2
        omega
    · rcases lr with ⟨g1, g2⟩ | ⟨g1, g2⟩ | ⟨g1, g2⟩
      · exact ⟨fun _ => g2, fun _ => lf v (by omega) (by omega) (by omega) g1 g2⟩
      · have r1 := rt v (by omega) (by omega) g1 g2
        omega
      · have n1 := no v e.y (Int.le_refl _) hv (by omega) (by omega) (by omega) (by omega) g1 g2
        have n2 := no e.y v (by omega) (by omega) (Int.le_refl _) hv (by omega) (by omega) g1 g2
        omega
    · rcases lr with ⟨g1, g2⟩ | ⟨g1, g2⟩ | ⟨g1, g2⟩
      · exact ⟨fun _ => g1, fun _ => lf v' (by omega) (by omega) (by omega) g1 g2⟩
      · have r1 := rt v' (by omega) (by omega) g1 g2
        omega
      · have n1 := no v' a.y hv (Int.le_refl _) (by omega) (by omega) (by omega) (by omega) g1 g2
        have n2 := no a.y v' (by omega) (by omega) hv (Int.le_refl _) (by omega) (by omega) g1 g2
        omega
    · rcases lr with ⟨g1, g2⟩ | ⟨g1, g2⟩ | ⟨g1, g2⟩
      · omega
      · omega
      · have n1 := no a.y e.y (by omega) (by omega) (by omega) (by omega) (by omega) (by omega) g1 g2
        have n2 := no e.y a.y (by omega) (by omega) (by omega) (by omega) (by omega) (by omega) g1 g2
        omega
  rcases Int.le_total a.y e.y with h | h
  · exact one h hm
  · rw [← meetsI_swp] at hm
    rw [← crossesI_swp ⟨u, v⟩, ← crossesI_swp ⟨u, v'⟩, one h hm, Bool.xor_comm]
/-! ### contours -/
theorem parN_congr {f g : Nat → Bool} : ∀ {n : Nat}, (∀ k, k < n → f k = g k) → parN f n = parN g n
  | 0, _ => rfl
  | n + 1, h => by simp only [parN]; rw [parN_congr fun k hk => h k (by omega), h n (by omega)]
theorem anyN_congr {f g : Nat → Bool} : ∀ {n : Nat}, (∀ k, k < n → f k = g k) → anyN f n = anyN g n
  | 0, _ => rfl
  | n + 1, h => by simp only [anyN]; rw [anyN_congr fun k hk => h k (by omega), h n (by omega)]
theorem parN_xor (f g : Nat → Bool) : ∀ n, xor (parN f n) (parN g n) = parN (fun k => xor (f k) (g k)) n
  | 0 => rfl
  | n + 1 => by
    simp only [parN, ← parN_xor f g n]
    cases parN f n <;> cases parN g n <;> cases f n <;> cases g n <;> rfl
theorem parN_false : ∀ n, parN (fun _ => false) n = false
  | 0 => rfl
  | n + 1 => by simp only [parN, parN_false n]; rfl
theorem nxt_mid {m k : Nat} (h : k + 1 < m) : nxt m k = k + 1 := by
  unfold nxt
  rw [Int.tmod_eq_of_lt (by omega) (by omega)]; omega
theorem nxt_end (M : Nat) : nxt (M + 1) M = 0 := by
  unfold nxt
  rw [show ((M : Int) + 1) = ((M + 1 : Nat) : Int) by omega, Int.tmod_self]; rfl
theorem nxt_lt {m k : Nat} (h : k < m) : nxt m k < m := by
  rcases (show k + 1 < m ∨ k + 1 = m by omega) with g | g
  · rw [nxt_mid g]; exact g
  · subst g; rw [nxt_end]; omega
theorem par_way (R : Nat → Bool) : ∀ n, parN (fun k => xor (R k) (R (k + 1))) n = xor (R 0) (R n)
  | 0 => by simp [parN]
  | n + 1 => by
    simp only [parN, par_way R n]
    cases R 0 <;> cases R n <;> cases R (n + 1) <;> rfl
/-- around a contour nothing is left -/
theorem par_round (R : Nat → Bool) (m : Nat) : parN (fun k => xor (R k) (R (nxt m k))) m = false := by
  cases m with
  | zero => rfl
  | succ M =>
    simp only [parN]
    rw [parN_congr (g := fun k => xor (R k) (R (k + 1))) fun k hk => by rw [nxt_mid (by omega)], par_way, nxt_end]
    cases R 0 <;> cases R M <;> rfl
structure PRC (l : Ctr) : Prop where
  p : ∀ i, i < l.n → ∀ k, k < l.m i → PR (l.p i k)
def oddI (p : P2) (l : Ctr) : Bool := parN (fun i => parN (edgeC l (crossesI p) i) (l.m i)) l.n
def touchI (b : B4) (l : Ctr) : Bool := anyN (fun i => anyN (edgeC l (meetsI b) i) (l.m i)) l.n
theorem oddF_eq {p : P2} {l : Ctr} (hp : PR p) (hl : PRC l) : oddF p l = oddI p l := parN_congr fun i hi => parN_congr fun k hk => crossesF_eq hp (hl.p i hi k hk) (hl.p i hi _ (nxt_lt hk))
theorem touchF_eq {b : B4} {l : Ctr} (hb : BR b) (hx : b.x0 ≤ b.x1) (hy : b.y0 ≤ b.y1) (hl : PRC l) : touchF b l = touchI b l := anyN_congr fun i hi => anyN_congr fun k hk => meets_eq hb (hl.p i hi k hk) (hl.p i hi _ (nxt_lt hk)) hx hy
theorem touchI_no {b : B4} {l : Ctr} (h : touchI b l = false) : ∀ i, i < l.n → ∀ k, k < l.m i → meetsI b (l.p i k) (l.p i (nxt (l.m i) k)) = false := fun i hi k hk => by
  cases hq : meetsI b (l.p i k) (l.p i (nxt (l.m i) k)) with
  | false => rfl
  | true =>
    have : touchI b l = true := anyN_iff.2 ⟨i, hi, anyN_iff.2 ⟨k, hk, hq⟩⟩
    rw [h] at this; cases this
theorem odd_side {b : B4} {l : Ctr} {p q : P2} (h : touchI b l = false) (hp : hasI b p) (hq : hasI b q) (hy : p.y = q.y) : oddI p l = oddI q l :=
  parN_congr fun i hi => parN_congr fun k hk => cross_side hp hq hy (touchI_no h i hi k hk)
theorem odd_rise {b : B4} {l : Ctr} {u v v' : Int} (h : touchI b l = false) (hv : v ≤ v') (hp : hasI b ⟨u, v⟩) (hq : hasI b ⟨u, v'⟩) : oddI ⟨u, v⟩ l = oddI ⟨u, v'⟩ l := by
  have e : xor (oddI ⟨u, v⟩ l) (oddI ⟨u, v'⟩ l) = false := by
    unfold oddI
    rw [parN_xor, parN_congr (g := fun _ => false) fun i hi => ?_, parN_false]
    rw [parN_xor, parN_congr (f := fun k => xor (edgeC l (crossesI ⟨u, v⟩) i k) (edgeC l (crossesI ⟨u, v'⟩) i k)) (g := fun k => xor (stripB u v v' (l.p i k)) (stripB u v v' (l.p i (nxt (l.m i) k)))) fun k hk => cross_rise hv hp hq (touchI_no h i hi k hk)]
    exact par_round (fun k => stripB u v v' (l.p i k)) (l.m i)
  revert e
  cases oddI ⟨u, v⟩ l <;> cases oddI ⟨u, v'⟩ l <;> simp
/-- A box that no edge meets has one parity. -/
theorem odd_box {b : B4} {l : Ctr} {p q : P2} (h : touchI b l = false) (hp : hasI b p) (hq : hasI b q) : oddI p l = oddI q l := by
  have hm : hasI b ⟨p.x, q.y⟩ := ⟨hp.1, hp.2.1, hq.2.2.1, hq.2.2.2⟩
  have e1 : oddI p l = oddI ⟨p.x, q.y⟩ l := by
    rcases Int.le_total p.y q.y with k | k
    · exact odd_rise (u := p.x) (v := p.y) h k hp hm
    · exact (odd_rise (u := p.x) (v' := p.y) h k hm hp).symm
  rw [e1]
  exact odd_side h hm hq rfl
theorem onI_meets {b : B4} {p a e : P2} (hp : hasI b p) (h : onI p a e = true) : meetsI b a e = true := by
  unfold onI at h
  rw [decide_eq_true_eq] at h
  obtain ⟨h1, h2, h3, h4, h5⟩ := h
  unfold hasI at hp
  exact meets_two (p := p) (q := p) hp hp (by omega) (by omega) (sep_no (by omega) (by omega) (by omega) (by omega))
theorem touch_spot {b : B4} {l : Ctr} {p : P2} (h : touchI b l = false) (hp : hasI b p) : touchI (spotB p) l = false := by
  rw [Bool.eq_false_iff]
  intro hq
  obtain ⟨i, hi, hq⟩ := anyN_iff.1 hq
  obtain ⟨k, hk, hq⟩ := anyN_iff.1 hq
  have := touchI_no h i hi k hk
  unfold edgeC at hq
  rw [spot_meets] at hq
  rw [onI_meets hp hq] at this; cases this
end Go.Proofs.Ytfooaikpcbnchaa

/-! ## Pou -/
namespace Go.Proofs.Ytfooaikpcbnchaa
open Go Go.RowKit Sym
set_option maxRecDepth 100000

end Go.Proofs.Ytfooaikpcbnchaa

/-! ## Fis -/
namespace Go.Proofs.Ytfooaikpcbnchaa
open Go Go.RowKit Sym
set_option maxRecDepth 100000

/-- a class, and whether a point of the box is in it -/
structure Sure (i : Bool) (k : Int) : Prop where
  lo : 0 ≤ k
  hi : k ≤ 2
  i1 : k = 2 → i = true
  i0 : k = 0 → i = false
theorem Sure.of {i : Bool} {k : Int} (h : andB (andB (andB (andB (orB (k != 2) i) (orB (k != 0) (!i))) (decide (k ≥ 0))) (decide (k ≤ 2))) true = true) : Sure i k := by
  simp only [andB_eq, orB_eq, Bool.and_eq_true, Bool.or_eq_true, bne_iff_ne, decide_eq_true_eq, Bool.not_eq_true'] at h
  obtain ⟨⟨⟨⟨h1, h2⟩, h3⟩, h4⟩, _⟩ := h
  exact ⟨h3, h4, fun e => h1.resolve_left fun q => q e, fun e => h2.resolve_left fun q => q e⟩
/-- from the first part to the last -/
def hasN (g : Nat → Bool) (add : Nat → Bool) (i : Nat) (h : Bool) : Bool := bif g i then add i else h
theorem has_back (g : Nat → Bool) (add : Nat → Bool) (n : Nat) : ∀ t, t ≤ n → (((runN (fun t (_ : Bool) => bif g (n - 1 - t) then (false, add (n - 1 - t)) else (true, false)) false t).1 = true → foldN (hasN g add) false n = foldN (hasN g add) false (n - t) ∧ (runN (fun t (_ : Bool) => bif g (n - 1 - t) then (false, add (n - 1 - t)) else (true, false)) false t).2 = false)
    ∧ ((runN (fun t (_ : Bool) => bif g (n - 1 - t) then (false, add (n - 1 - t)) else (true, false)) false t).1 = false → (runN (fun t (_ : Bool) => bif g (n - 1 - t) then (false, add (n - 1 - t)) else (true, false)) false t).2 = foldN (hasN g add) false n))
  | 0, _ => ⟨fun _ => ⟨rfl, rfl⟩, fun h => (by cases h)⟩
  | t + 1, ht => by
    have ih := has_back g add n t (by omega)
    revert ih
    generalize hr : runN (fun t (_ : Bool) => bif g (n - 1 - t) then (false, add (n - 1 - t)) else (true, false)) false t = r
    intro ih
    obtain ⟨r1, r2⟩ := r
    cases r1
    · rw [runN_stop hr (by omega : t ≤ t + 1)]
      exact ⟨fun h => (by cases h), fun _ => ih.2 rfl⟩
    · rw [runN_go hr]
      have e := (ih.1 rfl).1
      have em : n - t = (n - 1 - t) + 1 := by omega
      have e2 : foldN (hasN g add) false (n - t) = bif g (n - 1 - t) then add (n - 1 - t) else foldN (hasN g add) false (n - 1 - t) := by rw [em]; rfl
      cases q : g (n - 1 - t)
      · refine ⟨fun _ => ⟨?_, rfl⟩, fun h => (by cases h)⟩
        rw [e, e2, q, show n - (t + 1) = n - 1 - t by omega]; rfl
      · refine ⟨fun h => (by cases h), fun _ => ?_⟩
        rw [e, e2, q]; rfl
theorem has_fold (g : Nat → Bool) (add : Nat → Bool) (n : Nat) : (runN (fun t (_ : Bool) => bif g (n - 1 - t) then (false, add (n - 1 - t)) else (true, false)) false n).2 = foldN (hasN g add) false n := by
  have h := has_back g add n n (Nat.le_refl n)
  revert h
  generalize runN (fun t (_ : Bool) => bif g (n - 1 - t) then (false, add (n - 1 - t)) else (true, false)) false n = r
  intro h
  obtain ⟨r1, r2⟩ := r
  cases r1
  · exact h.2 rfl
  · have q := h.1 rfl
    rw [q.1, Nat.sub_self]; exact q.2
theorem wid_bd {r : Int} (h : widF r = true) : 1 ≤ r ∧ r ≤ 536870912 := by
  unfold widF at h
  rw [andB_eq, Bool.and_eq_true, decide_eq_true_eq, decide_eq_true_eq] at h
  omega
end Go.Proofs.Ytfooaikpcbnchaa

/-! ## Pid -/
namespace Go.Proofs.Ytfooaikpcbnchaa
open Go Go.RowKit Sym
set_option maxRecDepth 100000

theorem fold_top (g add : Nat → Bool) (n : Nat) : ∀ k, k ≤ n → (∀ j, j < k → g (n - 1 - j) = false) → foldN (hasN g add) false n = foldN (hasN g add) false (n - k)
  | 0, _, _ => rfl
  | k + 1, hk, h => by
    rw [fold_top g add n k (by omega) fun j hj => h j (by omega)]
    have e : n - k = (n - (k + 1)) + 1 := by omega
    rw [e]
    show hasN g add (n - (k + 1)) _ = _
    unfold hasN
    rw [show n - (k + 1) = n - 1 - k by omega, h k (by omega)]; rfl
theorem callD_of {P : Program} {K : Nat} {fn : Func} (hf : P.funcs[K]? = some fn) (hb : fn.body.isNone = false) (hn : (fn.name == "runtime.NumGoroutine") = false) {args : List Dyn.DV} {v : Value} (hv : oneCellB v = true)
    (h : ∀ w (F : Nat → Prop) us, (∀ b, F b → b < w.heap.size ∧ Dyn.PlainB w b) → Dyn.DenVs w F args us → Calls P K us.toArray w (fun e w' => e = .returned v ∧ Below w.heap.size w w')) : Dyn.CallD P K args (.val (.one (.p v))) := fun w F us hF hd => by
  have hr : (callFunc K us.toArray).run P w = .ok (.enter K us.toArray) w := by
    unfold callFunc
    simp only [Sem.run_bind, run_program, Result.andThen_ok, hf, hn, hb]
    simp
  rw [hr]
  exact ⟨rfl, (h w F us hF hd).mono fun e w' ⟨he, hB⟩ => ⟨v, he, .p _ hv, hB⟩⟩
theorem PilRes.eq {n : Nat} {g add : Nat → Bool} {r : Bool} (h : PilRes n g add r) : r = foldN (hasN g add) false n := by
  rcases h with ⟨rfl, h⟩ | ⟨k, hk, rfl, h1, h2⟩
  · rw [fold_top g add n n (Nat.le_refl _) fun j hj => h _ (by omega), Nat.sub_self]; rfl
  · rw [fold_top g add n k (by omega) h2, show n - k = (n - 1 - k) + 1 by omega]
    show _ = hasN g add (n - 1 - k) _
    unfold hasN
    rw [h1]; rfl
end Go.Proofs.Ytfooaikpcbnchaa

/-! ## Ctt -/
namespace Go.Proofs.Ytfooaikpcbnchaa
open Go Go.RowKit Sym

inductive Pln where
  | lf
  | it (p q : Pln)
  | tt (p : Pln)
  | ff (p : Pln)
end Go.Proofs.Ytfooaikpcbnchaa

/-! ## Fip -/
namespace Go.Proofs.Ytfooaikpcbnchaa
open Go Go.RowKit Sym
set_option maxRecDepth 100000

/-- mirrored, then turned by k quarters -/
def rt (m : Bool) (k : Int) (p : P2) : P2 :=
  ⟨bif k == 1 then -p.y else bif k == 2 then -(bif m then -p.x else p.x) else bif k == 3 then p.y else (bif m then -p.x else p.x),
   bif k == 1 then (bif m then -p.x else p.x) else bif k == 2 then -p.y else bif k == 3 then -(bif m then -p.x else p.x) else p.y⟩
def Q4 (k : Int) : Prop := k = 0 ∨ k = 1 ∨ k = 2 ∨ k = 3
theorem quF_Q4 (q : Int) : Q4 (quF q) := by have := band3 q; unfold Q4 quF; omega
theorem quF_small {z : Int} (h0 : -4 ≤ z) (h1 : z ≤ 6) : quF z = z % 4 := by
  have : z = -4 ∨ z = -3 ∨ z = -2 ∨ z = -1 ∨ z = 0 ∨ z = 1 ∨ z = 2 ∨ z = 3 ∨ z = 4 ∨ z = 5 ∨ z = 6 := by omega
  rcases this with rfl | rfl | rfl | rfl | rfl | rfl | rfl | rfl | rfl | rfl | rfl <;> decide +kernel
theorem plQ_Q4 (t : Tn) : Q4 (plQ t) := quF_Q4 _
theorem rt_PB {B : Int} (m : Bool) (k : Int) {p : P2} (h : PB B p) : PB B (rt m k p) := by
  obtain ⟨⟨h1, h2⟩, h3, h4⟩ := h
  unfold rt PB
  dsimp only
  cases m <;> cases k == 1 <;> cases k == 2 <;> cases k == 3 <;> simp only [cond_true, cond_false] <;> omega
theorem P2.ext' {p q : P2} (h : p.x = q.x) (k : p.y = q.y) : p = q := by cases p; cases q; cases h; cases k; rfl
theorem turnPt_rt {p : P2} {t : Tn} (h : PB 1000000000000 p) (hu : PB 1000000000000 t.u) : turnPtF p t = ⟨(rt (plX t) (plQ t) p).x + t.u.x, (rt (plX t) (plQ t) p).y + t.u.y⟩ := by
  obtain ⟨mx, my, q, u⟩ := t
  obtain ⟨⟨h1, h2⟩, h3, h4⟩ := h
  obtain ⟨⟨u1, u2⟩, u3, u4⟩ := hu
  dsimp only at u1 u2 u3 u4
  have hq := quF_Q4 q
  unfold turnPtF plX plQ
  dsimp only
  generalize quF q = κ at *
  have w : ∀ z, -1000000000000 ≤ z → z ≤ 1000000000000 → W (0 - z) = -z := fun z a b => by rw [W_id (by omega) (by omega)]; omega
  have w2 : ∀ z v, -1000000000000 ≤ z → z ≤ 1000000000000 → -1000000000000 ≤ v → v ≤ 1000000000000 → W (z + v) = z + v := fun z v a b c d => W_id (by omega) (by omega)
  have w3 : ∀ z, 0 ≤ z → z ≤ 3 → W (z + 2) = z + 2 := fun z a b => W_id (by omega) (by omega)
  rcases hq with rfl | rfl | rfl | rfl <;> cases mx <;> cases my <;>
    simp only [cond_true, cond_false, w3 0 (by omega) (by omega), w3 1 (by omega) (by omega), w3 2 (by omega) (by omega), w3 3 (by omega) (by omega), quF_small (z := 0) (by omega) (by omega), quF_small (z := 1) (by omega) (by omega), quF_small (z := 2) (by omega) (by omega), quF_small (z := 3) (by omega) (by omega), quF_small (z := 0 + 2) (by omega) (by omega), quF_small (z := 1 + 2) (by omega) (by omega), quF_small (z := 2 + 2) (by omega) (by omega), quF_small (z := 3 + 2) (by omega) (by omega)] <;>
    refine P2.ext' ?_ ?_ <;> unfold rt <;> dsimp only <;> simp only [show ((0 : Int) == 1) = false from rfl, show ((0 : Int) == 2) = false from rfl, show ((0 : Int) == 3) = false from rfl, show ((1 : Int) == 1) = true from rfl, show ((2 : Int) == 1) = false from rfl, show ((2 : Int) == 2) = true from rfl, show ((3 : Int) == 1) = false from rfl, show ((3 : Int) == 2) = false from rfl, show ((3 : Int) == 3) = true from rfl, cond_true, cond_false, show (0 : Int) % 4 = 0 from rfl, show (1 : Int) % 4 = 1 from rfl, show (2 : Int) % 4 = 2 from rfl, show (3 : Int) % 4 = 3 from rfl, show ((0 + 2 : Int)) % 4 = 2 from rfl, show ((1 + 2 : Int)) % 4 = 3 from rfl, show ((2 + 2 : Int)) % 4 = 0 from rfl, show ((3 + 2 : Int)) % 4 = 1 from rfl, show (true == true) = true from rfl, show (true == false) = false from rfl, show (false == true) = false from rfl, show (false == false) = true from rfl, Bool.not_true, Bool.not_false] <;>
    repeat (first | rw [w p.x (by omega) (by omega)] | rw [w p.y (by omega) (by omega)] | rw [w (-p.x) (by omega) (by omega)] | rw [w (-p.y) (by omega) (by omega)] | rw [w2 _ _ (by omega) (by omega) (by omega) (by omega)] | omega)
end Go.Proofs.Ytfooaikpcbnchaa

/-! ## Tuc -/
namespace Go.Proofs.Ytfooaikpcbnchaa
open Go Go.RowKit Sym
set_option maxRecDepth 100000

/-- a shape without rows, as a program writes it -/
def zeL : Ctr := ctrOf 0 noF
def litS (k : Int) (a b c : P2) (r : Int) : Sh := ⟨k, a, b, c, r, zeL, 0, noF⟩
theorem lit_Is : ctrIs 0 noF := fun i hi => absurd hi (Nat.not_lt_zero i)
theorem CtrB_zeL : CtrB zeL := ⟨by decide, fun i hi => absurd hi (Nat.not_lt_zero i)⟩
theorem lit_le (k : Int) (a b c : P2) (r : Int) : SLe (litS k a b c r) (toSh (leafS k a b c r zeL)) := ⟨rfl, rfl, rfl, rfl, rfl, rfl, rfl, fun i hi => absurd hi (Nat.not_lt_zero i)⟩
theorem PdS_lit (k : Int) (a b c : P2) (r : Int) : PdS (litS k a b c r) := PdS_le (leaf_B k a b c r CtrB_zeL) (lit_le k a b c r)
theorem ofSh_lit (k : Int) (a b c : P2) (r : Int) : ∃ add sub, ofSh (litS k a b c r) = .mk k a b c r zeL 0 add sub := by
  obtain ⟨add, sub, h, _⟩ := PdS_of (PdS_lit k a b c r)
  exact ⟨add, sub, h⟩
def okL (k : Int) (a b c : P2) (r : Int) (l : Ctr) : Bool := (validF (leafS k a b c r l) 0 1000).1
theorem okE_lit (k : Int) (a b c : P2) (r : Int) : okE (litS k a b c r) = okL k a b c r zeL := by
  obtain ⟨add, sub, h⟩ := ofSh_lit k a b c r
  unfold okE vE okL
  rw [h]
  rfl
theorem okE_leaf (k : Int) (a b c : P2) (r : Int) (l : Ctr) : okE (toSh (leafS k a b c r l)) = okL k a b c r l := by
  unfold okE okL
  rw [vE_eq]
theorem turn_line (a b c : P2) (r : Int) (t : Tn) : turnE (litS 3 a b c r) t = toSh (leafS 3 (turnPtF a t) (turnPtF b t) ze r zeC) := by
  obtain ⟨add, sub, h⟩ := ofSh_lit 3 a b c r
  unfold turnE
  rw [h]
  rfl
def awT : Tn := ⟨true, false, 1, ⟨1, 0⟩⟩
def noT : Tn := ⟨false, false, 0, ⟨0, 0⟩⟩
def awS : Sh := litS 3 ze ⟨4, 0⟩ ze 1
theorem aw_1 : moveE awS awT = toSh (leafS 3 ⟨1, 0⟩ ⟨1, -4⟩ ze 1 zeC) ∧ movesE awS awT = true := by
  have e1 : okE awS = true := by unfold awS; rw [okE_lit]; kernel_rfl
  have e2 : turnE awS awT = toSh (leafS 3 ⟨1, 0⟩ ⟨1, -4⟩ ze 1 zeC) := by unfold awS; rw [turn_line]; kernel_rfl
  have e3 : okE (turnE awS awT) = true := by rw [e2, okE_leaf]; kernel_rfl
  unfold moveE movesE
  rw [e1, e3, e2]
  exact ⟨rfl, rfl⟩
theorem aw_2 : movesE (litS 0 ze ze ze 0) noT = false := by
  have e1 : okE (litS 0 ze ze ze 0) = false := by rw [okE_lit]; kernel_rfl
  unfold movesE
  rw [e1]; rfl
noncomputable def tdW : List Dyn.EntryD := [(20, en2D (qAnd qS PdS) qT fun x t => .tup [dvS (moveE x t), dvB (movesE x t)])]
def drW (K : Nat) : Bool := Nat.beq K 20
noncomputable def tabW : Dyn.Tabs := Dyn.tabs tbF tdW drW dtyS
theorem tabW_ok : Dyn.TabsOk Try.prog tabW := Dyn.tabs_ok tbF_ok (List.forall_mem_cons.2 ⟨en2D_ok (qAnd_ok qS_ok) qT_ok fun x t h _ => move_ok x h.1 t, fun _ h => by cases h⟩)
def eqT (x y : Tn) : Bool := bif x.mx == y.mx then bif x.my == y.my then bif x.q == y.q then bif eqP x.u y.u then true else false else false else false else false
def awV (M : Sh) (m n : Bool) : Bool :=
  bif bif bif bif bif eqP (turnPtF ⟨1, 0⟩ ⟨false, false, 1, ⟨0, 0⟩⟩) ⟨0, 1⟩ then m else false then eqP M.a ⟨1, 0⟩ else false then eqP M.b ⟨1, -4⟩ else false then !n else false then eqT (thenF ⟨false, true, 0, ⟨0, 0⟩⟩ noT) ⟨true, false, 2, ⟨0, 0⟩⟩ else false
theorem aw_O : (Dyn.dfun Try.prog tabW Dyn.noLp 3 Try.f15 []).ro Try.prog Try.f15.results = .side [PdS awS, ctrIs 0 noF] (.side [PdS (litS 0 ze ze ze 0), ctrIs 0 noF] (.leaf (rB (awV (moveE awS awT) (movesE awS awT) (movesE (litS 0 ze ze ze 0) noT))))) := by kernel_rfl
theorem awake11_ok : Dyn.CallD Try.prog 15 [] (rB true) :=
  Dyn.dcontract (lp := Dyn.noLp) (fuel := 3) tabW_ok mo Try.func15 (by kernel_rfl) (c := bodyD Try.f15.body) (by kernel_rfl) (fun w0 => Dyn.noLp_ok _ w0) (by kernel_rfl) aw_O (by
    refine ⟨⟨PdS_lit _ _ _ _ _, lit_Is, trivial⟩, ⟨PdS_lit _ _ _ _ _, lit_Is, trivial⟩, ?_⟩
    rw [aw_1.1, aw_1.2, aw_2, show awV (toSh (leafS 3 ⟨1, 0⟩ ⟨1, -4⟩ ze 1 zeC)) true false = true by kernel_rfl]
    exact ro_leaf rfl)
end Go.Proofs.Ytfooaikpcbnchaa

/-! ## Fiq -/
namespace Go.Proofs.Ytfooaikpcbnchaa
open Go Go.RowKit Sym
set_option maxRecDepth 100000

theorem PB_mono {X Y : Int} {q : P2} (h : PB X q) (k : X ≤ Y) : PB Y q := ⟨⟨by have := h.1; omega, by have := h.1; omega⟩, ⟨by have := h.2; omega, by have := h.2; omega⟩⟩
theorem PB_add {B C : Int} {m : Bool} {k : Int} {p u : P2} (h : PB B p) (g : PB C u) : PB (B + C) ⟨(rt m k p).x + u.x, (rt m k p).y + u.y⟩ := by
  obtain ⟨⟨a1, a2⟩, a3, a4⟩ := rt_PB m k h
  obtain ⟨⟨c1, c2⟩, c3, c4⟩ := g
  exact ⟨⟨by dsimp only; omega, by dsimp only; omega⟩, ⟨by dsimp only; omega, by dsimp only; omega⟩⟩
theorem turn_PB {B C : Int} {p : P2} {t : Tn} (h : PB B p) (g : PB C t.u) (b : B ≤ 1000000000000) (c : C ≤ 1000000000000) : PB (B + C) (turnPtF p t) := by
  rw [turnPt_rt (PB_mono h b) (PB_mono g c)]
  exact PB_add h g
theorem rt_inj {m : Bool} {k : Int} (hk : Q4 k) {p q : P2} (h : rt m k p = rt m k q) : p = q := by
  have hx := congrArg P2.x h
  have hy := congrArg P2.y h
  unfold rt at hx hy
  dsimp only at hx hy
  rcases hk with rfl | rfl | rfl | rfl <;> cases m <;> simp at hx hy <;> exact P2.ext' (by omega) (by omega)
theorem turn_inj {B C : Int} {p q : P2} {t : Tn} (h : PB B p) (h2 : PB B q) (g : PB C t.u) (b : B ≤ 1000000000000) (c : C ≤ 1000000000000) (e : turnPtF p t = turnPtF q t) : p = q := by
  rw [turnPt_rt (PB_mono h b) (PB_mono g c), turnPt_rt (PB_mono h2 b) (PB_mono g c)] at e
  have hx := congrArg P2.x e
  have hy := congrArg P2.y e
  dsimp only at hx hy
  exact rt_inj (m := plX t) (k := plQ t) (plQ_Q4 t) (P2.ext' (by omega) (by omega))
theorem turn_dist {B C : Int} {p q : P2} {t : Tn} (h : PB B p) (h2 : PB B q) (g : PB C t.u) (b : B ≤ 1000000000000) (c : C ≤ 1000000000000) : distI (turnPtF p t) (turnPtF q t) = distI p q := by
  rw [turnPt_rt (PB_mono h b) (PB_mono g c), turnPt_rt (PB_mono h2 b) (PB_mono g c)]
  unfold distI rt
  dsimp only
  rcases plQ_Q4 t with e | e | e | e <;> rw [e] <;> cases plX t <;> simp <;> grind
theorem turn_okI {B C : Int} {c p q : P2} {t : Tn} (hc : PB B c) (h : PB B p) (h2 : PB B q) (g : PB C t.u) (b : B ≤ 1000000000000) (c' : C ≤ 1000000000000) (k : okI c p q) : okI (turnPtF c t) (turnPtF p t) (turnPtF q t) := by
  unfold okI at *
  rw [turn_dist h hc g b c', turn_dist h2 hc g b c']; exact k
theorem okI_swap {c p q : P2} (k : okI c p q) : okI c q p := ⟨by rw [← k.2]; exact k.1, k.2.symm⟩
theorem turn_fine {B C : Int} {t : Tn} (g : PB C t.u) (b : B ≤ 1000000000000) (c' : C ≤ 1000000000000) : ∀ (s : Shp) (d : Int), Fine (PB B) s d → Fine (PB (B + C)) (turnS s t) d := by
  intro s
  induction s with
  | nil => intro d h; exact h.elim
  | mk k a b' c r l n add sub ih =>
    intro d h
    rcases h with ⟨rfl, rfl, rfl, rfl, rfl, ha, hr⟩ | ⟨rfl, rfl, rfl, rfl, ha, hb, hr⟩ | ⟨rfl, rfl, rfl, rfl, ha, hb, hr, hn⟩ | ⟨rfl, rfl, rfl, ha, hb, hc, hr, ho⟩ | ⟨rfl, rfl, rfl, rfl, rfl, rfl, hc⟩ | ⟨rfl, rfl, rfl, rfl, rfl, rfl, h5, hm, hs⟩
    · exact .inl ⟨rfl, rfl, rfl, rfl, rfl, turn_PB ha g b c', hr⟩
    · exact .inr (.inl ⟨rfl, rfl, rfl, rfl, turn_PB ha g b c', turn_PB hb g b c', hr⟩)
    · exact .inr (.inr (.inl ⟨rfl, rfl, rfl, rfl, turn_PB ha g b c', turn_PB hb g b c', hr, fun e => hn (turn_inj ha hb g b c' e)⟩))
    · refine .inr (.inr (.inr (.inl ?_)))
      show (5 : Int) = 5 ∧ zeC = zeC ∧ 0 = 0 ∧ PB (B + C) (bif t.mx != t.my then turnPtF b' t else turnPtF a t) ∧ PB (B + C) (bif t.mx != t.my then turnPtF a t else turnPtF b' t) ∧ PB (B + C) (turnPtF c t) ∧ widF r = true ∧ okI (turnPtF c t) (bif t.mx != t.my then turnPtF b' t else turnPtF a t) (bif t.mx != t.my then turnPtF a t else turnPtF b' t)
      have o := turn_okI hc ha hb g b c' ho
      cases t.mx != t.my
      · exact ⟨rfl, rfl, rfl, turn_PB ha g b c', turn_PB hb g b c', turn_PB hc g b c', hr, o⟩
      · exact ⟨rfl, rfl, rfl, turn_PB hb g b c', turn_PB ha g b c', turn_PB hc g b c', hr, okI_swap o⟩
    · exact .inr (.inr (.inr (.inr (.inl ⟨rfl, rfl, rfl, rfl, rfl, rfl, hc.1, fun i hi => ⟨(hc.2 i hi).1, fun k hk => turn_PB ((hc.2 i hi).2 k hk) g b c'⟩⟩))))
    · exact .inr (.inr (.inr (.inr (.inr ⟨rfl, rfl, rfl, rfl, rfl, rfl, h5, hm, fun i hi => ih i (d + 1) (hs i hi)⟩))))
/-! ### the same -/
/-! ### moved -/
theorem fine_B {P : P2 → Prop} : ∀ (s : Shp) (d : Int), Fine P s d → 0 ≤ d → ShB s := by
  intro s
  induction s with
  | nil => intro d h; exact h.elim
  | mk k a b' c r l n add sub ih =>
    intro d h h0
    have z : ∀ i, i < 0 → ShB (sub i) := fun i hi => absurd hi (Nat.not_lt_zero i)
    rcases h with ⟨rfl, rfl, rfl, rfl, rfl, ha, hr⟩ | ⟨rfl, rfl, rfl, rfl, ha, hb, hr⟩ | ⟨rfl, rfl, rfl, rfl, ha, hb, hr, hn⟩ | ⟨rfl, rfl, rfl, ha, hb, hc, hr, ho⟩ | ⟨rfl, rfl, rfl, rfl, rfl, rfl, hc⟩ | ⟨rfl, rfl, rfl, rfl, rfl, rfl, h5, hm, hs⟩
    · exact ⟨CtrB_ze, by decide, z⟩
    · exact ⟨CtrB_ze, by decide, z⟩
    · exact ⟨CtrB_ze, by decide, z⟩
    · exact ⟨CtrB_ze, by decide, z⟩
    · exact ⟨⟨by have := hc.1; omega, fun i hi => by have := (hc.2 i hi).1; omega⟩, by decide, z⟩
    · exact ⟨CtrB_ze, by omega, fun i hi => ih i (d + 1) (hs i hi) (by omega)⟩
theorem move_fine {B C : Int} {s : Shp} {t : Tn} (h : Fine (PB B) s 0) (g : PB C t.u) (b : B ≤ 536870912) (c : B + C ≤ 536870912) (c' : C ≤ 1000000000000) : movesE (toSh s) t = true ∧ moveE (toSh s) t = toSh (turnS s t) ∧ Fine (PB (B + C)) (turnS s t) 0 := by
  have f := turn_fine g (by omega) c' s 0 h
  have e1 : okE (toSh s) = true := fine_ok (fun p hp => PB_near b hp) h
  have e2 : okE (turnE (toSh s) t) = true := by rw [turnE_eq]; exact fine_ok (fun p hp => PB_near c hp) f
  refine ⟨?_, ?_, f⟩
  · unfold movesE; rw [e1, e2]; rfl
  · unfold moveE; rw [e1, e2, turnE_eq]; rfl
theorem tameT_PB (t : Tn) {n : Int} (h0 : 0 ≤ n) (h1 : n ≤ 9223372036854775806) : PB n (tameT t n).u := lClose_r t.u h0 h1
end Go.Proofs.Ytfooaikpcbnchaa

/-! ## Fit -/
namespace Go.Proofs.Ytfooaikpcbnchaa
open Go Go.RowKit Sym
set_option maxRecDepth 100000

end Go.Proofs.Ytfooaikpcbnchaa

/-! ## Dla -/
namespace Go.Proofs.Ytfooaikpcbnchaa
open Go Go.RowKit Sym
set_option maxRecDepth 100000

inductive DLe : Dyn.DC → Dyn.DC → Prop where
  | refl (c : Dyn.DC) : DLe c c
  | row (n : Nat) (f g : Nat → List Dyn.DC) : (∀ i, i < n → (f i).length = (g i).length) → (∀ i j, i < n → j < (f i).length → DLe ((f i).getD j default) ((g i).getD j default)) → DLe (.row n f) (.row n g)
theorem DLe.den {w : World} {F : Nat → Prop} {c d : Dyn.DC} (h : DLe c d) : ∀ {u : Value}, Dyn.DenC w F c u → Dyn.DenC w F d u := by
  induction h with
  | refl c => exact fun h => h
  | row n f g hl _ ih =>
    intro u k
    cases k with
    | nil _ oa cap => exact .nil g oa cap
    | row _ _ b off cap size V hk hF hc hd =>
      refine .row n g b off cap size V hk hF (fun i hi => ⟨(hl i hi) ▸ (hc i hi).1, (hc i hi).2⟩) (fun i j hi hj => ih i j hi ?_ (hd i j hi hj))
      rw [(hc i hi).1]; exact hj
def DLL : List Dyn.DC → List Dyn.DC → Prop
  | [], [] => True
  | c :: cs, d :: ds => DLe c d ∧ DLL cs ds
  | _, _ => False
theorem DLL.refl : ∀ cs, DLL cs cs
  | [] => trivial
  | c :: cs => ⟨.refl c, DLL.refl cs⟩
theorem DLL.den {w : World} {F : Nat → Prop} : ∀ {cs ds : List Dyn.DC} {us : List Value}, DLL cs ds → Dyn.DenL w F cs us → Dyn.DenL w F ds us
  | [], [], [], _, h => h
  | [], [], _ :: _, _, h => h
  | [], _ :: _, _, h, _ => h.elim
  | _ :: _, [], _, h, _ => h.elim
  | c :: cs, d :: ds, [], _, k => k.elim
  | c :: cs, d :: ds, u :: us, h, k => ⟨h.1.den k.1, DLL.den h.2 k.2⟩
theorem DLL.get : ∀ {cs ds : List Dyn.DC}, DLL cs ds → cs.length = ds.length ∧ ∀ j, DLe (cs.getD j default) (ds.getD j default)
  | [], [], _ => ⟨rfl, fun j => .refl _⟩
  | [], _ :: _, h => h.elim
  | _ :: _, [], h => h.elim
  | c :: cs, d :: ds, h => by
    have k := DLL.get h.2
    exact ⟨congrArg Nat.succ k.1, fun j => match j with
      | 0 => h.1
      | j + 1 => k.2 j⟩
theorem DLe.rowL {n : Nat} {f g : Nat → List Dyn.DC} (h : ∀ i, i < n → DLL (f i) (g i)) : DLe (.row n f) (.row n g) := .row n f g (fun i hi => (h i hi).get.1) (fun i j hi _ => (h i hi).get.2 j)
def DVd : Dyn.DV → Dyn.DV → Prop
  | .one c, .one d => DLe c d
  | .agg cs, .agg ds => DLL cs ds
  | _, _ => False
theorem DVd.refl : ∀ v, DVd v v
  | .one c => DLe.refl c
  | .agg cs => DLL.refl cs
theorem DVd.den {w : World} {F : Nat → Prop} : ∀ {c d : Dyn.DV} {u : Value}, DVd c d → Dyn.DenV w F c u → Dyn.DenV w F d u
  | .one _, .one _, _, h, k => DLe.den h k
  | .agg _, .agg _, _, h, ⟨us, e, k⟩ => ⟨us, e, DLL.den h k⟩
  | .one _, .agg _, _, h, _ => h.elim
  | .agg _, .one _, _, h, _ => h.elim
/-- a contract, told of a first argument that shows the same -/
theorem CallD_d1 {P : Program} {K : Nat} {v v' : Dyn.DV} {l : List Dyn.DV} {r : Dyn.RV} (h : DVd v v') (k : Dyn.CallD P K (v' :: l) r) : Dyn.CallD P K (v :: l) r := fun w F us hF hd => k w F us hF (by
  cases us with
  | nil => exact hd
  | cons u us => exact ⟨DVd.den h hd.1, hd.2⟩)
end Go.Proofs.Ytfooaikpcbnchaa

/-! ## Dle -/
namespace Go.Proofs.Ytfooaikpcbnchaa
open Go Go.RowKit Sym
set_option maxRecDepth 100000

end Go.Proofs.Ytfooaikpcbnchaa

/-! ## Bou -/
namespace Go.Proofs.Ytfooaikpcbnchaa
open Go Go.RowKit Sym
set_option maxRecDepth 100000

/-! ### take -/
end Go.Proofs.Ytfooaikpcbnchaa

/-! ## Awt -/
namespace Go.Proofs.Ytfooaikpcbnchaa
open Go Go.RowKit Sym
set_option maxRecDepth 100000

end Go.Proofs.Ytfooaikpcbnchaa
