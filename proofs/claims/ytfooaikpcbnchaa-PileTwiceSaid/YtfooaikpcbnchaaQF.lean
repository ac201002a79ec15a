/-
  OWN WORK. Joined by merge.py: Shf Wid Bar Box Lin Disc Bas Disd Bat Lio Bau Lis Lit Rin Tam Sam San Tua Tub Roe Pia Rof Cpa Cqa Cqb.
-/
import Derived.Test.YtfooaikpcbnchaaQE
import Derived.LaidEql
import Derived.MapKept
/-! ## Shf -/
namespace Go.Proofs.Ytfooaikpcbnchaa
open Go Go.RowKit Sym
set_option maxRecDepth 100000

/-- a shape as an input may be: any lengths -/
def ShW : Shp → Prop
  | .nil => False
  | .mk _ _ _ _ _ _ n _ sub => ∀ i, i < n → ShW (sub i)
def smL (l : Ctr) (i : Nat) (_ : Unit) : Bool × Unit := (!(decide ((l.m i : Int) > 40)), ())
def smP (g : Sh → Int → Bool) (sh : Nat → Sh) (deep : Int) (i : Nat) (_ : Unit) : Bool × Unit := (g (sh i) (W (deep + 1)), ())
def smallG (g : Sh → Int → Bool) (sh : Nat → Sh) (s : Sh) (deep : Int) : Bool :=
  bif bif bif decide ((s.n : Int) > 12) then true else decide ((s.l.n : Int) > 12) then true else decide (deep > 12) then false else
  bif (runN (smL s.l) () s.l.n).1 then (runN (smP g sh deep) () s.n).1 else false
def tdSm (Pd : Sh → Prop) (g : Sh → Int → Bool) : List Dyn.EntryD := [(14, en2D (qAnd qS Pd) qI fun x d => rB (g x d))]
def smR : Dyn.St := mkS 52 [(4, .k (vb false))] []
def smK0 : List Nat := [1, 2, 4, 5]
def smK1 : List Nat := [1, 2, 4, 6]
theorem sm_blocks : blocksL (bodyD Try.f14.body) = [(0, .loop (unloopD (blkD Try.f14.body 0))), (1, blkD Try.f14.body 1), (2, .loop (unloopD (blkD Try.f14.body 2))), (3, blkD Try.f14.body 3)] := by kernel_rfl
theorem sm_b0 : blocksL (unloopD (blkD Try.f14.body 0)) = [(1, blkD Try.f14.body 1)] := by kernel_rfl
theorem sm_b2 : blocksL (unloopD (blkD Try.f14.body 2)) = [(3, blkD Try.f14.body 3)] := by kernel_rfl
def smBig (s : Sh) (deep : Int) : Bool := bif bif decide ((s.n : Int) > 12) then true else decide ((s.l.n : Int) > 12) then true else decide (deep > 12)
def smallF : Shp → Int → Bool
  | .nil, _ => false
  | .mk _ _ _ _ _ l n _ sub, deep =>
    bif bif bif decide ((n : Int) > 12) then true else decide ((l.n : Int) > 12) then true else decide (deep > 12) then false else
    bif (runN (smL l) () l.n).1 then (runN (fun i (_ : Unit) => (smallF (sub i) (W (deep + 1)), ())) () n).1 else false
noncomputable def smallE (x : Sh) (d : Int) : Bool := smallF (ofSh x) d
theorem smallE_eq (s : Shp) (d : Int) : smallE (toSh s) d = smallF s d := by unfold smallE; rw [ofSh_toSh]
theorem smallF_lvl (k : Int) (a b c : P2) (r : Int) (l : Ctr) (n : Nat) (add : Nat → Bool) (sub : Nat → Shp) (d : Int) : smallF (.mk k a b c r l n add sub) d = smallG smallE (fun i => toSh (sub i)) (toSh (.mk k a b c r l n add sub)) d := by
  unfold smallG smP
  simp only [smallE_eq]
  rfl
def PdW (x : Sh) : Prop := ShW (ofSh x) ∧ SLe x (toSh (ofSh x))
theorem PdW_mk {s : Shp} (h : ShW s) : PdW (toSh s) := by unfold PdW; rw [ofSh_toSh]; exact ⟨h, SLe.refl _⟩
/-- what is small is short -/
theorem runN_all {α : Type} {g : Nat → α → Bool × α} {a : α} : ∀ {n : Nat}, (runN g a n).1 = true → ∀ k, k < n → ∃ b, runN g a k = (true, b) ∧ (g k b).1 = true
  | 0, _ => fun k hk => by omega
  | n + 1, h => fun k hk => by
    have hn : (runN g a n).1 = true := by
      cases hr : runN g a n with
      | mk q b => cases q with
        | true => rfl
        | false => rw [runN_stop hr (Nat.le_succ n)] at h; cases h
    rcases Nat.lt_or_eq_of_le (Nat.le_of_lt_succ hk) with hlt | rfl
    · exact runN_all hn k hlt
    · cases hr : runN g a k with
      | mk q b =>
        rw [hr] at hn
        simp only at hn; subst hn
        exact ⟨b, rfl, by rw [runN_go hr] at h; exact h⟩
theorem small_B : ∀ (s : Shp) (d : Int), smallF s d = true → ShB s := by
  intro s
  induction s with
  | nil => intro d h; cases h
  | mk k a b c r l n add sub ih =>
    intro d h
    unfold smallF at h
    by_cases h1 : ((n : Int) > 12)
    · rw [decide_eq_true h1] at h; cases h
    · by_cases h2 : ((l.n : Int) > 12)
      · rw [decide_eq_true h2, decide_eq_false h1] at h; cases h
      · by_cases h3 : (d > 12)
        · rw [decide_eq_true h3, decide_eq_false h1, decide_eq_false h2] at h; cases h
        · rw [decide_eq_false h1, decide_eq_false h2, decide_eq_false h3] at h
          simp only [cond_false] at h
          cases hl : (runN (smL l) () l.n).1 with
          | false => rw [hl] at h; cases h
          | true =>
            rw [hl] at h
            simp only [cond_true] at h
            refine ⟨⟨by omega, fun i hi => ?_⟩, by omega, fun i hi => ?_⟩
            · obtain ⟨_, _, hx⟩ := runN_all hl i hi
              unfold smL at hx
              simp only [Bool.not_eq_true', decide_eq_false_iff_not] at hx
              omega
            · obtain ⟨_, _, hx⟩ := runN_all h i hi
              exact ih i _ hx
end Go.Proofs.Ytfooaikpcbnchaa

/-! ## Wid -/
namespace Go.Proofs.Ytfooaikpcbnchaa
open Go Go.RowKit

structure In64 (x : Int) : Prop where
  lo : 0 ≤ x
  hi : x < 18446744073709551616
/-! ### the planar products -/
/-- the line through a and c passes within r of p -/
def clear (p a c : P2) (r : Int) : Bool := decide (crossI a c p * crossI a c p ≤ r * r * distI a c)
end Go.Proofs.Ytfooaikpcbnchaa

/-! ## Bar -/
namespace Go.Proofs.Ytfooaikpcbnchaa
open Go Go.RowKit
set_option maxRecDepth 100000

def all4 (f : P2 → Bool) (b : B4) : Bool := f ⟨b.x0, b.y0⟩ && f ⟨b.x1, b.y0⟩ && f ⟨b.x0, b.y1⟩ && f ⟨b.x1, b.y1⟩
structure Cs (b : B4) (f g : P2 → Bool) : Prop where
  h : all4 f b = all4 g b
/-! ### bars -/
def same (a c : P2) : Prop := a.x = c.x ∧ a.y = c.y
instance (a c : P2) : Decidable (same a c) := inferInstanceAs (Decidable (_ ∧ _))
end Go.Proofs.Ytfooaikpcbnchaa

/-! ## Box -/
namespace Go.Proofs.Ytfooaikpcbnchaa
open Go Go.RowKit Sym
set_option maxRecDepth 100000

/-- the segment's own box has no point of b -/
def sepI (b : B4) (p q : P2) : Bool := decide (max p.x q.x < b.x0) || decide (min p.x q.x > b.x1) || decide (max p.y q.y < b.y0) || decide (min p.y q.y > b.y1)
def meetsI (b : B4) (p q : P2) : Bool := !(sepI b p q) && (!(all4 (fun c => decide (crossI p q c > 0)) b) && !(all4 (fun c => decide (crossI p q c < 0)) b))
/-! ### quarters -/
def q0 (b : B4) : B4 := ⟨spl b 0 b.x0, spl b 0 b.y0, spl b 0 (midX b), spl b 0 (midY b)⟩
def q1 (b : B4) : B4 := ⟨spl b 0 (midX b), spl b 0 b.y0, spl b 0 b.x1, spl b 0 (midY b)⟩
def q2 (b : B4) : B4 := ⟨spl b 0 b.x0, spl b 0 (midY b), spl b 0 (midX b), spl b 0 b.y1⟩
def q3 (b : B4) : B4 := ⟨spl b 0 (midX b), spl b 0 (midY b), spl b 0 b.x1, spl b 0 b.y1⟩
structure Fits (b : B4) : Prop where
  x0 : -536870912 ≤ b.x0
  x : b.x0 ≤ b.x1
  x1 : b.x1 ≤ 536870912
  y0 : -536870912 ≤ b.y0
  y : b.y0 ≤ b.y1
  y1 : b.y1 ≤ 536870912
end Go.Proofs.Ytfooaikpcbnchaa

/-! ## Lin -/
namespace Go.Proofs.Ytfooaikpcbnchaa
open Go Go.RowKit Sym
set_option maxRecDepth 100000

/-! ### corners say all of what is linear -/
def isC (b : B4) (c : P2) : Prop := (c.x = b.x0 ∨ c.x = b.x1) ∧ (c.y = b.y0 ∨ c.y = b.y1)
theorem all4_iff {f : P2 → Bool} {b : B4} : all4 f b = true ↔ ∀ c, isC b c → f c = true := by
  unfold all4
  simp only [Bool.and_eq_true]
  constructor
  · rintro ⟨⟨⟨h1, h2⟩, h3⟩, h4⟩ ⟨x, y⟩ ⟨hx, hy⟩
    dsimp only at hx hy
    rcases hx with rfl | rfl <;> rcases hy with rfl | rfl <;> assumption
  · intro h
    exact ⟨⟨⟨h _ ⟨.inl rfl, .inl rfl⟩, h _ ⟨.inr rfl, .inl rfl⟩⟩, h _ ⟨.inl rfl, .inr rfl⟩⟩, h _ ⟨.inr rfl, .inr rfl⟩⟩
theorem isC_has {b : B4} {c : P2} (hx : b.x0 ≤ b.x1) (hy : b.y0 ≤ b.y1) (h : isC b c) : hasI b c := by
  obtain ⟨h1, h2⟩ := h
  exact ⟨by omega, by omega, by omega, by omega⟩
/-- some corner has at least so much of a linear form -/
theorem corner_ge {b : B4} {q : P2} (u v : Int) (h : hasI b q) : ∃ c, isC b c ∧ u * q.x + v * q.y ≤ u * c.x + v * c.y := by
  obtain ⟨h1, h2, h3, h4⟩ := h
  have one : ∀ u x lo hi : Int, lo ≤ x → x ≤ hi → u * x ≤ u * lo ∨ u * x ≤ u * hi := fun u x lo hi a c => by
    rcases Int.le_total 0 u with k | k
    · right; exact Int.mul_le_mul_of_nonneg_left c k
    · left
      have := Int.mul_nonneg (show 0 ≤ -u by omega) (show 0 ≤ x - lo by omega)
      have e : -u * (x - lo) = u * lo - u * x := by grind
      omega
  rcases one u q.x b.x0 b.x1 h1 h2 with k | k <;> rcases one v q.y b.y0 b.y1 h3 h4 with k' | k'
  · exact ⟨⟨b.x0, b.y0⟩, ⟨.inl rfl, .inl rfl⟩, by dsimp only; omega⟩
  · exact ⟨⟨b.x0, b.y1⟩, ⟨.inl rfl, .inr rfl⟩, by dsimp only; omega⟩
  · exact ⟨⟨b.x1, b.y0⟩, ⟨.inr rfl, .inl rfl⟩, by dsimp only; omega⟩
  · exact ⟨⟨b.x1, b.y1⟩, ⟨.inr rfl, .inr rfl⟩, by dsimp only; omega⟩
theorem cross_lin (a c p : P2) : crossI a c p = -(c.y - a.y) * p.x + (c.x - a.x) * p.y + ((c.y - a.y) * a.x - (c.x - a.x) * a.y) := by unfold crossI; grind
theorem cross_ge {b : B4} {q : P2} (a c : P2) (h : hasI b q) : ∃ k, isC b k ∧ crossI a c q ≤ crossI a c k := by
  obtain ⟨k, hk, hl⟩ := corner_ge (-(c.y - a.y)) (c.x - a.x) h
  exact ⟨k, hk, by rw [cross_lin, cross_lin]; omega⟩
theorem cross_le {b : B4} {q : P2} (a c : P2) (h : hasI b q) : ∃ k, isC b k ∧ crossI a c k ≤ crossI a c q := by
  obtain ⟨k, hk, hl⟩ := corner_ge (c.y - a.y) (-(c.x - a.x)) h
  refine ⟨k, hk, ?_⟩
  rw [cross_lin, cross_lin a c q]
  have e1 : -(c.y - a.y) * q.x = -((c.y - a.y) * q.x) := by grind
  have e2 : -(c.x - a.x) * q.y = -((c.x - a.x) * q.y) := by grind
  have e3 : -(c.y - a.y) * k.x = -((c.y - a.y) * k.x) := by grind
  have e4 : -(c.x - a.x) * k.y = -((c.x - a.x) * k.y) := by grind
  rw [e1, e3]; rw [e2, e4] at hl; omega
end Go.Proofs.Ytfooaikpcbnchaa

/-! ## Disc -/
namespace Go.Proofs.Ytfooaikpcbnchaa
open Go Go.RowKit Sym
set_option maxRecDepth 100000

theorem pt_BR {p : P2} (h : PR p) : BR ⟨p.x, p.y, p.x, p.y⟩ := ⟨h.x, h.y, h.x, h.y⟩
theorem discHas_eq {p c : P2} {r : Int} (hp : PR p) (hc : PR c) (h1 : 1 ≤ r) (h2 : r ≤ 2147483648) : discHas p c r = decide (distI p c ≤ r * r) := by
  unfold discHas
  rw [decide_eq_false (show ¬ r < 1 by omega), bif_f, (near_eq (pt_BR hc) hp).1, dist_near, square_eq (by omega) h2]
theorem discClass_eq {b : B4} {c : P2} {r : Int} (hb : BR b) (hc : PR c) (hx : b.x0 ≤ b.x1) (hy : b.y0 ≤ b.y1) (h1 : 1 ≤ r) (h2 : r ≤ 2147483648) :
    discClass b c r = if nearI b c > r * r then 0 else if mostI b c ≤ r * r then 2 else 1 := by
  unfold discClass
  have hh : boxHas b ⟨b.x0, b.y0⟩ = true := (boxHas_eq _ _).2 ⟨by simp, hx, by simp, hy⟩
  rw [decide_eq_false (show ¬ r < 1 by omega), hh, (near_eq hb hc).1, (most_eq hb hc).1, square_eq (by omega) h2]
  show (bif decide (nearI b c > r * r) then 0 else bif decide (mostI b c ≤ r * r) then 2 else 1) = _
  by_cases k : nearI b c > r * r
  · rw [decide_eq_true k, if_pos k]; rfl
  · rw [decide_eq_false k, if_neg k, bif_f]
    by_cases k' : mostI b c ≤ r * r
    · rw [decide_eq_true k', if_pos k']; rfl
    · rw [decide_eq_false k', if_neg k']; rfl

/-! ### the reference -/
/-! ### DiscFar -/
/-! ### DiscTells -/
end Go.Proofs.Ytfooaikpcbnchaa

/-! ## Bas -/
namespace Go.Proofs.Ytfooaikpcbnchaa
open Go Go.RowKit Sym
set_option maxRecDepth 100000

/-! ### BarParts -/
end Go.Proofs.Ytfooaikpcbnchaa

/-! ## Disd -/
namespace Go.Proofs.Ytfooaikpcbnchaa
open Go Go.RowKit Sym
set_option maxRecDepth 100000

/-! ### DiscSure -/
theorem lSmall_In (b : B4) : lInOk (lSmall b) := (lIn_has 0 0 (lSmall_R b) (lSmall_r b).2.2.1 (lSmall_r b).2.2.2.2.2.2.1).2

/-! ### DiscMoves -/
def mvP (p by_ : P2) : P2 := ⟨W (p.x + by_.x), W (p.y + by_.y)⟩
theorem lSmall_R' {b : B4} (h : -19 ≤ b.x0 ∧ b.x0 ≤ b.x1 ∧ b.x1 ≤ 26 ∧ -19 ≤ b.y0 ∧ b.y0 ≤ b.y1 ∧ b.y1 ≤ 26) : BR b := ⟨⟨by omega, by omega⟩, ⟨by omega, by omega⟩, ⟨by omega, by omega⟩, ⟨by omega, by omega⟩⟩
end Go.Proofs.Ytfooaikpcbnchaa

/-! ## Bat -/
namespace Go.Proofs.Ytfooaikpcbnchaa
open Go Go.RowKit Sym
set_option maxRecDepth 100000

/-! ### BarLine -/
end Go.Proofs.Ytfooaikpcbnchaa

/-! ## Lio -/
namespace Go.Proofs.Ytfooaikpcbnchaa
open Go Go.RowKit Sym
set_option maxRecDepth 100000

/-- the point at m / n of the segment is near p: the square of the distance is at most R -/
structure Seg (p a c : P2) (R m n : Int) : Prop where
  n0 : 0 < n
  m0 : 0 ≤ m
  mn : m ≤ n
  d : (n * (p.x - a.x) - m * (c.x - a.x)) * (n * (p.x - a.x) - m * (c.x - a.x)) + (n * (p.y - a.y) - m * (c.y - a.y)) * (n * (p.y - a.y) - m * (c.y - a.y)) ≤ n * n * R
/-! ### strokes are convex -/
/-! ### outside -/
end Go.Proofs.Ytfooaikpcbnchaa

/-! ## Bau -/
namespace Go.Proofs.Ytfooaikpcbnchaa
open Go Go.RowKit Sym
set_option maxRecDepth 100000

end Go.Proofs.Ytfooaikpcbnchaa

/-! ## Lis -/
namespace Go.Proofs.Ytfooaikpcbnchaa
open Go Go.RowKit Sym
set_option maxRecDepth 100000

/-! ### LineTells -/
/-! ### LineSure -/
/-! ### LineMeans -/
/-! ### LineThick -/
end Go.Proofs.Ytfooaikpcbnchaa

/-! ## Lit -/
namespace Go.Proofs.Ytfooaikpcbnchaa
open Go Go.RowKit Sym
set_option maxRecDepth 100000

end Go.Proofs.Ytfooaikpcbnchaa

/-! ## Rin -/
namespace Go.Proofs.Ytfooaikpcbnchaa
open Go Go.RowKit Sym
set_option maxRecDepth 100000

/-! ### arcs of the laws -/
def circX (i : Int) : Int :=
  bif decide (i = ((0 : Nat) : Int)) then 5 else bif decide (i = ((1 : Nat) : Int)) then 4 else bif decide (i = ((2 : Nat) : Int)) then 3 else bif decide (i = ((3 : Nat) : Int)) then 0 else bif decide (i = ((4 : Nat) : Int)) then -3 else bif decide (i = ((5 : Nat) : Int)) then -4 else
  bif decide (i = ((6 : Nat) : Int)) then -5 else bif decide (i = ((7 : Nat) : Int)) then -4 else bif decide (i = ((8 : Nat) : Int)) then -3 else bif decide (i = ((9 : Nat) : Int)) then 0 else bif decide (i = ((10 : Nat) : Int)) then 3 else 4
def circY (i : Int) : Int :=
  bif decide (i = ((0 : Nat) : Int)) then 0 else bif decide (i = ((1 : Nat) : Int)) then 3 else bif decide (i = ((2 : Nat) : Int)) then 4 else bif decide (i = ((3 : Nat) : Int)) then 5 else bif decide (i = ((4 : Nat) : Int)) then 4 else bif decide (i = ((5 : Nat) : Int)) then 3 else
  bif decide (i = ((6 : Nat) : Int)) then 0 else bif decide (i = ((7 : Nat) : Int)) then -3 else bif decide (i = ((8 : Nat) : Int)) then -4 else bif decide (i = ((9 : Nat) : Int)) then -5 else bif decide (i = ((10 : Nat) : Int)) then -4 else -3
def arcI (f : Int) : Int := (band f 255).tmod 12
def arcK0 (s : Int) : Int := W (W ((U s).tmod 20000000) + 1)
def arcK1 (s : Int) : Int := W (band (arcK0 s) 3 + 1)
def arcC0 (c : P2) : P2 := lClose c 400000000
def arcC1 (c : P2) : P2 := lClose (arcC0 c) 15
def arcC (c : P2) (sm : Bool) : P2 := ⟨bif sm then (arcC1 c).x else (arcC0 c).x, bif sm then (arcC1 c).y else (arcC0 c).y⟩
def arcAt (c : P2) (f s : Int) (sm : Bool) : P2 :=
  ⟨bif sm then W ((arcC1 c).x + W (arcK1 s * circX (arcI f))) else W ((arcC0 c).x + W (arcK0 s * circX (arcI f))), bif sm then W ((arcC1 c).y + W (arcK1 s * circY (arcI f))) else W ((arcC0 c).y + W (arcK0 s * circY (arcI f)))⟩
theorem band255 (x : Int) : 0 ≤ band x 255 ∧ band x 255 ≤ 255 := by
  have h : (BitVec.ofInt 64 x &&& BitVec.ofInt 64 255).toNat ≤ 255 := by
    rw [BitVec.toNat_and]
    exact Nat.le_trans Nat.and_le_right (by decide)
  unfold band
  rw [W_id (by omega) (by omega)]
  omega
theorem arcI_bd (f : Int) : 0 ≤ arcI f ∧ arcI f < 12 := by
  have a := band255 f
  have b := Int.tmod_nonneg (a := band f 255) 12 a.1
  have c := (tmod_bd (band f 255) (n := 12) (by decide)).2
  unfold arcI; omega
def arcIx (f : Int) : Prop := 0 ≤ arcI f ∧ arcI f < ((12 : Nat) : Int)
theorem n16 : W (15 + 1) ≠ 0 := by decide
theorem n4e8 : W (400000000 + 1) ≠ 0 := by decide
theorem arc_ok (c : P2) (f t s : Int) (sm : Bool) : CallOk Try.prog 44 [pt c, vi f, vi t, vi s, vb sm] (.tuple ⟨[pt (arcC c sm), pt (arcAt c f s sm), pt (arcAt c t s sm)]⟩) :=
  fnOkS (fuel := 16) (tbOf_ok tbA_ok) mo Try.func44 (by kernel_rfl) (by kernel_rfl) (by kernel_rfl)
    (show _ = [arcIx f, arcIx t, W (400000000 + 1) ≠ 0, sm = true → W (15 + 1) ≠ 0] by kernel_rfl) ⟨arcI_bd f, arcI_bd t, n4e8, fun _ => n16, trivial⟩
/-- what an arc is: a centre, k times two of the points of the circle of 5 -/
structure Circ (u : P2) : Prop where
  x : -5 ≤ u.x ∧ u.x ≤ 5
  y : -5 ≤ u.y ∧ u.y ≤ 5
  n : u.x * u.x + u.y * u.y = 25
def circ (f : Int) : P2 := ⟨circX (arcI f), circY (arcI f)⟩
theorem circ_ok (f : Int) : Circ (circ f) := by
  have h := arcI_bd f
  have : arcI f = 0 ∨ arcI f = 1 ∨ arcI f = 2 ∨ arcI f = 3 ∨ arcI f = 4 ∨ arcI f = 5 ∨ arcI f = 6 ∨ arcI f = 7 ∨ arcI f = 8 ∨ arcI f = 9 ∨ arcI f = 10 ∨ arcI f = 11 := by omega
  unfold circ
  rcases this with h | h | h | h | h | h | h | h | h | h | h | h <;> rw [h] <;> exact ⟨by decide, by decide, by decide⟩
theorem arcK0_bd (s : Int) : 1 ≤ arcK0 s ∧ arcK0 s ≤ 20000000 := by
  have h0 : 0 ≤ U s := by rw [U_eq]; omega
  have a := Int.tmod_nonneg (a := U s) 20000000 h0
  have b := (tmod_bd (U s) (n := 20000000) (by decide)).2
  unfold arcK0
  rw [W_id (x := (U s).tmod 20000000) (by omega) (by omega), W_id (by omega) (by omega)]; omega
theorem arcK1_bd (s : Int) : 1 ≤ arcK1 s ∧ arcK1 s ≤ 4 := by
  have a := band3 (arcK0 s)
  unfold arcK1; rw [W_id (by omega) (by omega)]; omega
def arcK (s : Int) (sm : Bool) : Int := bif sm then arcK1 s else arcK0 s
theorem arcK_bd (s : Int) (sm : Bool) : 1 ≤ arcK s sm ∧ arcK s sm ≤ 20000000 := by
  have a := arcK0_bd s; have b := arcK1_bd s
  cases sm
  · exact a
  · exact ⟨b.1, by show arcK1 s ≤ _; omega⟩
theorem arcC_r (c : P2) (sm : Bool) : (-400000000 ≤ (arcC c sm).x ∧ (arcC c sm).x ≤ 400000000) ∧ (-400000000 ≤ (arcC c sm).y ∧ (arcC c sm).y ≤ 400000000) := by
  have a := lClose_r c (n := 400000000) (by decide) (by decide)
  have b := lClose_r (arcC0 c) (n := 15) (by decide) (by decide)
  cases sm
  · exact a
  · show (_ ≤ (arcC1 c).x ∧ (arcC1 c).x ≤ _) ∧ (_ ≤ (arcC1 c).y ∧ (arcC1 c).y ≤ _)
    unfold arcC1; omega
theorem arcC_s (c : P2) : (-15 ≤ (arcC c true).x ∧ (arcC c true).x ≤ 15) ∧ (-15 ≤ (arcC c true).y ∧ (arcC c true).y ≤ 15) := lClose_r (arcC0 c) (n := 15) (by decide) (by decide)
/-- the point of the arc, without wraps -/
def onC (c : P2) (k : Int) (u : P2) : P2 := ⟨c.x + k * u.x, c.y + k * u.y⟩
theorem arcAt_eq (c : P2) (f s : Int) (sm : Bool) : arcAt c f s sm = onC (arcC c sm) (arcK s sm) (circ f) := by
  have h := circ_ok f
  have kk := arcK_bd s sm
  have cc := arcC_r c sm
  have x := mul_bd (A := 20000000) (B := 5) (x := arcK s sm) (y := (circ f).x) (by omega) (by omega) h.x.1 h.x.2
  have y := mul_bd (A := 20000000) (B := 5) (x := arcK s sm) (y := (circ f).y) (by omega) (by omega) h.y.1 h.y.2
  have e : arcAt c f s sm = ⟨W ((arcC c sm).x + W (arcK s sm * (circ f).x)), W ((arcC c sm).y + W (arcK s sm * (circ f).y))⟩ := by cases sm <;> rfl
  rw [e, W_id (x := arcK s sm * (circ f).x) (by omega) (by omega), W_id (x := arcK s sm * (circ f).y) (by omega) (by omega), W_id (by omega) (by omega), W_id (by omega) (by omega)]
  rfl
theorem onC_r {c : P2} {k : Int} {u : P2} (hc : (-400000000 ≤ c.x ∧ c.x ≤ 400000000) ∧ (-400000000 ≤ c.y ∧ c.y ≤ 400000000)) (hk : 1 ≤ k ∧ k ≤ 20000000) (hu : Circ u) : PR (onC c k u) ∧ distI (onC c k u) c = 25 * (k * k) := by
  have x := mul_bd (A := 20000000) (B := 5) (x := k) (y := u.x) (by omega) (by omega) hu.x.1 hu.x.2
  have y := mul_bd (A := 20000000) (B := 5) (x := k) (y := u.y) (by omega) (by omega) hu.y.1 hu.y.2
  refine ⟨⟨⟨by unfold onC; dsimp only; omega, by unfold onC; dsimp only; omega⟩, ⟨by unfold onC; dsimp only; omega, by unfold onC; dsimp only; omega⟩⟩, ?_⟩
  have e : distI (onC c k u) c = k * k * (u.x * u.x + u.y * u.y) := by unfold distI onC; dsimp only; grind
  rw [e, hu.n]; omega

/-! ### rings -/
def okI (c a e : P2) : Prop := distI a c ≠ 0 ∧ distI a c = distI e c
theorem ringOk_eq {c a e : P2} (hc : PR c) (ha : PR a) (he : PR e) : ringOk c a e = true ↔ okI c a e := by
  have e1 := near_eq (b := ⟨c.x, c.y, c.x, c.y⟩) ⟨hc.x, hc.y, hc.x, hc.y⟩ ha
  have e2 := near_eq (b := ⟨c.x, c.y, c.x, c.y⟩) ⟨hc.x, hc.y, hc.x, hc.y⟩ he
  unfold ringOk ringApart okI
  rw [e1.1, e2.1, dist_near, dist_near, andB_eq]
  simp
theorem near_most {b : B4} {p : P2} (hx : b.x0 ≤ b.x1) (hy : b.y0 ≤ b.y1) : nearI b p ≤ mostI b p := by
  have q1 : hasI b ⟨b.x0, b.y0⟩ := ⟨by simp, hx, by simp, hy⟩
  have := near_le (p := p) q1; have := most_ge (p := p) q1; omega
end Go.Proofs.Ytfooaikpcbnchaa

/-! ## Tam -/
namespace Go.Proofs.Ytfooaikpcbnchaa
open Go Go.RowKit Sym
set_option maxRecDepth 100000

def tbT : List Entry := (44, en5 dP dI dI dI dB (fun c f t s sm => .tuple ⟨[pt (arcC c sm), pt (arcAt c f s sm), pt (arcAt c t s sm)]⟩)) :: tbF
theorem tbT_ok : ∀ e ∈ tbT, EntryOk Try.prog e := List.forall_mem_cons.2 ⟨en5_ok dP_eq dI_eq dI_eq dI_eq dB_eq arc_ok, tbF_ok⟩
def atP (p : P2) (sm : Bool) : P2 := ⟨bif sm then (lClose p 20).x else (lPt p).x, bif sm then (lClose p 20).y else (lPt p).y⟩
def dptB (q : Bool) : Dyn.DV := .one (.ptr [.p (vb q)])
def enPb (F : P2 → Bool → Dyn.RV) : List Dyn.DV → Option (Dyn.RV × List Prop)
  | [.agg [.p (.int .i64 x), .p (.int .i64 y)], .one (.ptr [.p (.bool q)])] => some (F ⟨x, y⟩ q, [])
  | _ => none
theorem enPb_ok {P : Program} {K : Nat} {F : P2 → Bool → Dyn.RV} (h : ∀ x u, Dyn.CallD P K [dvP x, dptB u] (F x u)) : Dyn.EntryDOk P (K, enPb F) := fun args r ps hr hp => by
  dsimp only at hr
  unfold enPb at hr
  split at hr
  · simp only [Option.some.injEq, Prod.mk.injEq] at hr
    obtain ⟨rfl, rfl⟩ := hr
    rename_i x y u
    exact h ⟨x, y⟩ u
  · cases hr
def RV.pt (p : P2) : Dyn.RV := .val (dvP p)
def tabA1 : Dyn.Tabs := Dyn.tabs tbT [] noD noD
theorem tabA1_ok : Dyn.TabsOk Try.prog tabA1 := Dyn.tabs_ok tbT_ok (fun _ h => by cases h)
theorem at_O (p : P2) (sm : Bool) : (Dyn.dfun Try.prog tabA1 Dyn.noLp 3 Try.f43 [dvP p, dptB sm]).ro Try.prog Try.f43.results = .ite sm (.side [W (20 + 1) ≠ 0] (.leaf (RV.pt (lClose p 20)))) (.leaf (RV.pt (lPt p))) := by kernel_rfl
theorem at_ok (p : P2) (sm : Bool) : Dyn.CallD Try.prog 43 [dvP p, dptB sm] (RV.pt (atP p sm)) :=
  Dyn.dcontract (lp := Dyn.noLp) (fuel := 3) (X := tabA1) tabA1_ok mo Try.func43 (by kernel_rfl) (c := bodyD Try.f43.body) (by kernel_rfl) (fun w0 => Dyn.noLp_ok _ w0)
    (by kernel_rfl) (at_O p sm) ⟨fun h => by subst h; exact ⟨⟨by decide, trivial⟩, ro_leaf rfl⟩, fun h => by subst h; exact ro_leaf rfl⟩
def drTm (K : Nat) : Bool := Nat.beq K 18 || Nat.beq K 45
/-! ### what it makes -/
def tmK0 (s : Sh) : Int := W ((W (s.k.tmod 6 + 6)).tmod 6 + 1)
def tmKk (s : Sh) (d : Int) : Int := bif bif decide (d > 5) then tmK0 s == 6 else false then 1 else tmK0 s
def tmR (s : Sh) (sm : Bool) : Int := bif sm then W ((lR s.r).tmod 15 + 1) else lR s.r
def eqP (a b : P2) : Bool := bif a.x == b.x then bif a.y == b.y then true else false else false
def tmB (s : Sh) (sm : Bool) : P2 :=
  bif bif eqP (atP s.a sm) (atP s.b sm) then decide ((atP s.b sm).x > 0) else false then ⟨W ((atP s.b sm).x - 1), (atP s.b sm).y⟩ else bif eqP (atP s.a sm) (atP s.b sm) then ⟨W ((atP s.b sm).x + 1), (atP s.b sm).y⟩ else atP s.b sm
def ze : P2 := ⟨0, 0⟩
def zeC : Ctr := ⟨0, fun _ => 0, fun _ _ => ⟨0, 0⟩⟩
def noF (_ : Nat) : List Dyn.DC := []
def tmN (s : Sh) (d : Int) : Nat := min s.n (imax (W (4 - d)) 1).toNat
def tmF (g : Sh → Bool → Int → Sh) (sh : Nat → Sh) (add : Nat → Bool) (sm : Bool) (d : Int) (i : Nat) : List Dyn.DC := partC (add i) (g (sh i) sm (W (d + 1)))
/-- Tame, by what it makes of parts -/
def tameG (g : Sh → Bool → Int → Sh) (sh : Nat → Sh) (add : Nat → Bool) (s : Sh) (sm : Bool) (d : Int) : Sh :=
  bif tmKk s d == 1 then ⟨tmKk s d, atP s.a sm, ze, ze, tmR s sm, zeC, 0, noF⟩
  else bif bif tmKk s d == 3 then tmKk s d == 3 else tmKk s d == 4 then ⟨tmKk s d, atP s.a sm, tmB s sm, ze, tmR s sm, zeC, 0, noF⟩
  else bif tmKk s d == 5 then ⟨tmKk s d, arcAt s.c (band s.a.x 65535) s.b.x sm, arcAt s.c (band s.a.y 65535) s.b.x sm, arcC s.c sm, tmR s sm, zeC, 0, noF⟩
  else bif tmKk s d == 2 then ⟨tmKk s d, ze, ze, ze, 0, tameC s.l sm, 0, noF⟩
  else ⟨tmKk s d, ze, ze, ze, 0, zeC, tmN s d, tmF g sh add sm d⟩
def tmZ : List Value := [vi 0, vi 0, vi 0, vi 0, vi 0, vi 0, vi 0, vi 0, .slice none 0 0, .slice none 0 0]
def tmO10 (k : Int) (nm n : Nat) : List Value := [vi k, vi 0, vi 0, vi 0, vi 0, vi 0, vi 0, vi 0, .slice none 0 0, .slice (some ⟨nm, 0, some 0⟩) n 0]
def tmK : List Nat := [2, 3, 4, 6, 8, 10]
theorem tm_blocks : blocksL (bodyD Try.f18.body) = [(0, blkD Try.f18.body 0), (1, .loop (unloopD (blkD Try.f18.body 1))), (2, blkD Try.f18.body 2)] := by kernel_rfl
theorem tm_b1 : blocksL (unloopD (blkD Try.f18.body 1)) = [(2, blkD Try.f18.body 2)] := by kernel_rfl
def rvT (k : Int) (a b c : P2) (r : Int) (L : Dyn.DC) (n : Nat) (f : Nat → List Dyn.DC) : Dyn.RV := .val (.agg [cI k, cI a.x, cI a.y, cI b.x, cI b.y, cI c.x, cI c.y, cI r, L, .row n f])
def nilR : Dyn.DC := .row 0 noF
theorem rvT_le {k : Int} {a b c : P2} {r : Int} {L : Dyn.DC} {n : Nat} {f : Nat → List Dyn.DC} {x : Sh} (hk : x.k = k) (ha : x.a = a) (hb : x.b = b) (hc : x.c = c) (hr : x.r = r) (hL : Dyn.DCLe L (cCtr x.l)) (hn : n = x.n) (hf : ∀ i, i < n → f i = x.f i) : (Dyn.RO.leaf (rvT k a b c r L n f)).sat fun q => Dyn.RVLe q (.val (dvS x)) := by
  subst hk; subst ha; subst hb; subst hc; subst hr
  exact ⟨rfl, rfl, rfl, rfl, rfl, rfl, rfl, rfl, hL, ⟨hn, hf⟩, trivial⟩
theorem nilR_le : Dyn.DCLe nilR (cCtr zeC) := ⟨rfl, fun i hi => by omega⟩
/-- a shape without parts -/
def leafS (k : Int) (a b c : P2) (r : Int) (l : Ctr) : Shp := .mk k a b c r l 0 (fun _ => false) (fun _ => .nil)
def tameS : Shp → Bool → Int → Shp
  | .nil, _, _ => .nil
  | .mk k a b c r l n add sub, sm, d =>
    let s : Sh := ⟨k, a, b, c, r, l, n, noF⟩
    bif tmKk s d == 1 then leafS (tmKk s d) (atP a sm) ze ze (tmR s sm) zeC
    else bif bif tmKk s d == 3 then tmKk s d == 3 else tmKk s d == 4 then leafS (tmKk s d) (atP a sm) (tmB s sm) ze (tmR s sm) zeC
    else bif tmKk s d == 5 then leafS (tmKk s d) (arcAt c (band a.x 65535) b.x sm) (arcAt c (band a.y 65535) b.x sm) (arcC c sm) (tmR s sm) zeC
    else bif tmKk s d == 2 then leafS (tmKk s d) ze ze ze 0 (tameC l sm)
    else .mk (tmKk s d) ze ze ze 0 zeC (tmN s d) add (fun i => tameS (sub i) sm (W (d + 1)))
noncomputable def tameE (x : Sh) (sm : Bool) (d : Int) : Sh := toSh (tameS (ofSh x) sm d)
theorem tameE_eq (s : Shp) (sm : Bool) (d : Int) : tameE (toSh s) sm d = toSh (tameS s sm d) := by unfold tameE; rw [ofSh_toSh]
theorem dvS_leaf (k : Int) (a b c : P2) (r : Int) (l : Ctr) : Dyn.DVLe (dvS ⟨k, a, b, c, r, l, 0, noF⟩) (dvS (toSh (leafS k a b c r l))) := ⟨rfl, rfl, rfl, rfl, rfl, rfl, rfl, rfl, Dyn.DCLe.refl _, ⟨rfl, fun i hi => absurd hi (Nat.not_lt_zero _)⟩, trivial⟩
theorem tm_pick {K : Int} (D1 D2 D3 D4 D5 : Sh) (E1 E2 E3 E4 E5 : Shp) (h1 : Dyn.DVLe (dvS D1) (dvS (toSh E1))) (h2 : Dyn.DVLe (dvS D2) (dvS (toSh E2))) (h3 : Dyn.DVLe (dvS D3) (dvS (toSh E3))) (h4 : Dyn.DVLe (dvS D4) (dvS (toSh E4))) (h5 : Dyn.DVLe (dvS D5) (dvS (toSh E5))) :
    Dyn.DVLe (dvS (bif K == 1 then D1 else bif bif K == 3 then K == 3 else K == 4 then D2 else bif K == 5 then D3 else bif K == 2 then D4 else D5)) (dvS (toSh (bif K == 1 then E1 else bif bif K == 3 then K == 3 else K == 4 then E2 else bif K == 5 then E3 else bif K == 2 then E4 else E5))) := by
  cases K == 1
  · cases (bif K == 3 then K == 3 else K == 4)
    · cases K == 5
      · cases K == 2
        · exact h5
        · exact h4
      · exact h3
    · exact h2
  · exact h1
theorem tameS_lvl (k : Int) (a b c : P2) (r : Int) (l : Ctr) (n : Nat) (add : Nat → Bool) (sub : Nat → Shp) (sm : Bool) (d : Int) :
    Dyn.DVLe (dvS (tameG tameE (fun i => toSh (sub i)) add (mkSh k a b c r l n add (fun i => toSh (sub i))) sm d)) (dvS (toSh (tameS (.mk k a b c r l n add sub) sm d))) := by
  refine tm_pick (K := tmKk ⟨k, a, b, c, r, l, n, noF⟩ d) _ _ _ _ _ _ _ _ _ _ (dvS_leaf _ _ _ _ _ _) (dvS_leaf _ _ _ _ _ _) (dvS_leaf _ _ _ _ _ _) (dvS_leaf _ _ _ _ _ _) ?_
  refine ⟨rfl, rfl, rfl, rfl, rfl, rfl, rfl, rfl, Dyn.DCLe.refl _, ⟨rfl, fun i hi => ?_⟩, trivial⟩
  show partC (add i) (tameE (toSh (sub i)) sm (W (d + 1))) = partC (add i) (toSh (tameS (sub i) sm (W (d + 1))))
  rw [tameE_eq]
end Go.Proofs.Ytfooaikpcbnchaa

/-! ## Sam -/
namespace Go.Proofs.Ytfooaikpcbnchaa
open Go Go.RowKit Sym
set_option maxRecDepth 100000

end Go.Proofs.Ytfooaikpcbnchaa

/-! ## San -/
namespace Go.Proofs.Ytfooaikpcbnchaa
open Go Go.RowKit Sym
set_option maxRecDepth 100000

end Go.Proofs.Ytfooaikpcbnchaa

/-! ## Tua -/
namespace Go.Proofs.Ytfooaikpcbnchaa
open Go Go.RowKit Sym
set_option maxRecDepth 100000

def zl (b : Bool) : List Dyn.DC → List Dyn.DC → List Dyn.DC
  | a :: us, z :: zs => (bif b then a else z) :: zl b us zs
  | _, _ => []
theorem zl_t : ∀ {us zs : List Dyn.DC}, us.length = zs.length → zl true us zs = us
  | [], [], _ => rfl
  | a :: us, z :: zs, h => by show a :: zl true us zs = _; rw [zl_t (Nat.succ.inj h)]
theorem zl_f : ∀ {us zs : List Dyn.DC}, us.length = zs.length → zl false us zs = zs
  | [], [], _ => rfl
  | a :: us, z :: zs, h => by show z :: zl false us zs = _; rw [zl_f (Nat.succ.inj h)]
/-- a row being filled: i of its elements are made -/
def fil (F : Nat → List Dyn.DC) (z : List Dyn.DC) (i : Nat) : Nat → List Dyn.DC := fun j => zl (Nat.blt j i) (F j) z
theorem fil_in {F : Nat → List Dyn.DC} {z : List Dyn.DC} {i j : Nat} (hl : (F j).length = z.length) (h : j < i) : fil F z i j = F j := by
  unfold fil
  rw [show Nat.blt j i = true from Nat.ble_eq_true_of_le h]; exact zl_t hl
theorem fil_out {F : Nat → List Dyn.DC} {z : List Dyn.DC} {i j : Nat} (hl : (F j).length = z.length) (h : ¬ j < i) : fil F z i j = z := by
  unfold fil
  rw [show Nat.blt j i = false by rw [Bool.eq_false_iff]; exact fun e => h (Nat.le_of_ble_eq_true e)]; exact zl_f hl
theorem le_upd {t : TypeId} {n i : Nat} {F : Nat → List Dyn.DC} {z ds : List Dyn.DC} {off : Nat} (hl : ∀ j, (F j).length = z.length) (h : Dyn.setMany' z off ds = F i) : Dyn.HeLe (some (.own t n (Dyn.updF (fil F z i) i off ds))) (some (.own t n (fil F z (i + 1)))) := by
  refine ⟨rfl, rfl, fun j hj => ?_⟩
  unfold Dyn.updF
  by_cases e : j = i
  · subst e
    rw [show Nat.beq j j = true from Nat.beq_refl j, fil_in (hl j) (show j < j + 1 by omega), fil_out (hl j) (by omega)]
    exact h
  · rw [show Nat.beq j i = false by rw [Bool.eq_false_iff]; exact fun q => e (Nat.eq_of_beq_eq_true q)]
    by_cases l : j < i
    · rw [fil_in (hl j) l, fil_in (hl j) (by omega)]; rfl
    · rw [fil_out (hl j) l, fil_out (hl j) (by omega)]; rfl
theorem leaf_fits {P : Program} {w0 : Dyn.Base P} {id : Nat} {c : Code} {s s1 s2 : Dyn.St} {e : AExit} (h : Dyn.BlockSound P w0 id c s (.leaf e s1)) (f : Dyn.Fits s1 s2) : Dyn.BlockSound P w0 id c s (.leaf e s2) := fun Q a w β m ng ho => h Q a w β m ng (fun β a w m ng => by
  obtain ⟨β', m', ng'⟩ := Dyn.Ent.fits f β a w m ng
  exact ho β' a w m' ng')
def szM (b n : Nat) : Prop := 0 ≤ (n : Int) ∧ (n : Int) ≤ n ∧ (n : Int) ≤ 9223372036854775807 ∧ (b : Int) * (n : Int) ≤ 281474976710656
theorem szM_ok {b n : Nat} (hb : b ≤ 1000) (hn : n ≤ 1000000000) : szM b n := by
  refine ⟨by omega, by omega, by omega, ?_⟩
  have : b * n ≤ 1000 * 1000000000 := Nat.mul_le_mul hb hn
  have h2 : (b : Int) * (n : Int) = ((b * n : Nat) : Int) := by rw [Int.natCast_mul]
  rw [h2]; omega
end Go.Proofs.Ytfooaikpcbnchaa

/-! ## Tub -/
namespace Go.Proofs.Ytfooaikpcbnchaa
open Go Go.RowKit Sym
set_option maxRecDepth 100000

theorem CtrB_ze : CtrB zeC := ⟨by decide, fun i hi => absurd hi (Nat.not_lt_zero i)⟩
/-- no shape -/
def noS : Shp := leafS 0 ze ze ze 0 zeC
def zeroRV : Dyn.RV := .tup [.agg [cI 0, cI 0, cI 0, cI 0, cI 0, cI 0, cI 0, cI 0, nilR, nilR], dvB false]
theorem zero_le : Dyn.RVLe zeroRV (.tup [dvS (toSh noS), dvB false]) := ⟨⟨rfl, rfl, rfl, rfl, rfl, rfl, rfl, rfl, nilR_le, ⟨rfl, fun i hi => absurd hi (Nat.not_lt_zero _)⟩, trivial⟩, rfl, trivial⟩
end Go.Proofs.Ytfooaikpcbnchaa

/-! ## Roe -/
namespace Go.Proofs.Ytfooaikpcbnchaa
open Go Go.ChangeShapes Go.WideShapes Go.ChangeAt Go.RowKit Go.Joins Go.Deep
set_option maxRecDepth 100000

section
variable {H : Type} {enc : TypeId × Value → H} {P : Program} {w : World} {base : Nat} {spare : Nat → Bool} {held : Bool}
theorem ctr_den {fuel : Nat} {x : DataW H × List MemPlace} {t e2 e : TypeId} {f0 f1 : Field} {v : Value} (ht : P.underlying t = some (.slice e2)) (hc2 : P.cellsOf e2 = 1) (ht2 : P.underlying e2 = some (.slice e)) (he : P.underlying e = some (.struct #[f0, f1]))
    (ce : P.cellsOf e = 2) (o0 : f0.offset = 0) (o1 : f1.offset = 1) (c0 : P.cellsOf f0.type = 1) (c1 : P.cellsOf f1.type = 1) (k0 : P.underlying f0.type = some (.int .i64)) (k1 : P.underlying f1.type = some (.int .i64))
    (hf : DataW.trod enc P w base spare held fuel t [v] = some x) : ∃ l : Ctr, Dyn.DenC w (fun b => b < w.heap.size) (cCtr l) v := by
  rcases open_slice1 ht hc2 hf with ⟨h, _⟩ | ⟨a', len', cap', m, n, V, D, Pl, h, hb, hl, hcap, hm, hx, hall⟩
  · simp only [List.cons.injEq, and_true] at h
    rw [h]
    exact ⟨⟨0, fun _ => 0, fun _ _ => ⟨0, 0⟩⟩, .nil _ none 0⟩
  · simp only [List.cons.injEq, and_true] at h
    rw [h]
    have hlm : len' ≤ m := by rw [hm]; split <;> omega
    by_cases hz : len' = 0
    · subst hz
      exact ⟨⟨0, fun _ => 0, fun _ _ => ⟨0, 0⟩⟩, .nil _ (some a') cap'⟩
    · have h0 := (hall 0 (by omega)).1
      obtain ⟨hlt, hsp⟩ := addr_cell h0
      have hsp := hsp rfl
      obtain ⟨b, off, sp⟩ := a'
      dsimp only at hsp
      subst hsp
      simp only [addr_add] at hall hlt
      haveI : Inhabited (Nat × (Nat → P2)) := ⟨0, fun _ => ⟨0, 0⟩⟩
      obtain ⟨g, hg⟩ := choose_lt (α := Nat × (Nat → P2)) (n := len') (p := fun i q => Dyn.DenC w (fun b => b < w.heap.size) (cRow q.1 q.2) (V i)) (fun i hi => by
        obtain ⟨q, p, hq⟩ := row_P ht2 he ce o0 o1 c0 c1 k0 k1 (hall i (by omega)).2
        exact ⟨(q, p), hq⟩)
      refine ⟨⟨len', fun i => (g i).1, fun i => (g i).2⟩, .row len' _ b off cap' 1 (fun i _ => V i) hl hlt (fun i hi => ⟨rfl, fun j hj => ?_⟩) (fun i j hi hj => ?_)⟩
      · obtain rfl : j = 0 := by omega
        rw [Nat.mul_one, Nat.add_zero]; exact (hall i (by omega)).1
      · obtain rfl : j = 0 := by omega
        exact hg i hi
theorem pt_den {F : Nat → Prop} {fuel : Nat} {x : DataW H × List MemPlace} {t : TypeId} {f0 f1 : Field} {u v : Value} (ht : P.underlying t = some (.struct #[f0, f1])) (o0 : f0.offset = 0) (o1 : f1.offset = 1) (c0 : P.cellsOf f0.type = 1) (c1 : P.cellsOf f1.type = 1) (k0 : P.underlying f0.type = some (.int .i64)) (k1 : P.underlying f1.type = some (.int .i64))
    (hf : DataW.trod enc P w base spare held fuel t [u, v] = some x) : ∃ p : P2, u = vi p.x ∧ v = vi p.y ∧ Dyn.DenC w F (cI p.x) u ∧ Dyn.DenC w F (cI p.y) v := by
  obtain ⟨y0, y1, n, _, _, h0, h1⟩ := trod_struct2 ht hf
  rw [o0, c0] at h0
  rw [o1, c1] at h1
  obtain ⟨x0, e0, _⟩ := DataW.trod_int k0 h0
  obtain ⟨x1, e1, _⟩ := DataW.trod_int k1 h1
  simp only [List.drop_zero, List.take_succ_cons, List.take_zero, List.cons.injEq, and_true, List.drop_succ_cons] at e0 e1
  subst e0; subst e1
  exact ⟨⟨x0, x1⟩, rfl, rfl, .p _ rfl, .p _ rfl⟩
theorem DenL_get {F : Nat → Prop} : ∀ {ds : List Dyn.DC} {us : List Value} {j : Nat}, Dyn.DenL w F ds us → j < us.length → Dyn.DenC w F (ds.getD j default) (us.getD j default)
  | [], [], _, _, h => absurd h (Nat.not_lt_zero _)
  | d :: ds, u :: us, 0, h, _ => h.1
  | d :: ds, u :: us, j + 1, h, hj => DenL_get (ds := ds) (us := us) (j := j) h.2 (Nat.lt_of_succ_lt_succ hj)
/-- what the types of a shape are -/
structure ShT (P : Program) (tS tK tP tR tL tL1 tQ tE tB tI : TypeId) : Prop where
  s : ∃ f0 f1 f2 f3 f4 f5 f6 : Field, P.underlying tS = some (.struct #[f0, f1, f2, f3, f4, f5, f6]) ∧ (f0.type = tK ∧ f1.type = tP ∧ f2.type = tP ∧ f3.type = tP ∧ f4.type = tR ∧ f5.type = tL ∧ f6.type = tQ) ∧ f0.offset = 0 ∧ f1.offset = 1 ∧ f2.offset = 3 ∧ f3.offset = 5 ∧ f4.offset = 7 ∧ f5.offset = 8 ∧ f6.offset = 9
  sc : P.cellsOf tS = 10
  kc : P.cellsOf tK = 1
  pc : P.cellsOf tP = 2
  rc : P.cellsOf tR = 1
  lc : P.cellsOf tL = 1
  qc : P.cellsOf tQ = 1
  k : P.underlying tK = some (.int .i64)
  r : P.underlying tR = some (.int .i64)
  p : ∃ g0 g1 : Field, P.underlying tP = some (.struct #[g0, g1]) ∧ g0.offset = 0 ∧ g1.offset = 1 ∧ g0.type = tI ∧ g1.type = tI
  ic : P.cellsOf tI = 1
  i : P.underlying tI = some (.int .i64)
  l : P.underlying tL = some (.slice tL1)
  l1c : P.cellsOf tL1 = 1
  l1 : P.underlying tL1 = some (.slice tP)
  q : P.underlying tQ = some (.slice tE)
  ec : P.cellsOf tE = 11
  e : ∃ h0 h1 : Field, P.underlying tE = some (.struct #[h0, h1]) ∧ h0.offset = 0 ∧ h1.offset = 1 ∧ h0.type = tB ∧ h1.type = tS
  bc : P.cellsOf tB = 1
  b : P.underlying tB = some .bool
theorem shape_den {tS tK tP tR tL tL1 tQ tE tB tI : TypeId} (T : ShT P tS tK tP tR tL tL1 tQ tE tB tI) : ∀ (fuel : Nat) (cs : List Value) (x : DataW H × List MemPlace), DataW.trod enc P w base spare held fuel tS cs = some x →
    ∃ s : Shp, ShW s ∧ Dyn.DenL w (fun b => b < w.heap.size) (cS (toSh s)) cs := by
  intro fuel
  induction fuel using Nat.strongRecOn with
  | _ fuel ih =>
    intro cs x hx
    obtain ⟨f0, f1, f2, f3, f4, f5, f6, hs, ⟨t0, t1, t2, t3, t4, t5, t6⟩, o0, o1, o2, o3, o4, o5, o6⟩ := T.s
    obtain ⟨g0, g1, hp, p0, p1, q0, q1⟩ := T.p
    obtain ⟨h0, h1, he, a0, a1, b0, b1⟩ := T.e
    obtain ⟨xs, n, rfl, _, hl, hlen, hf⟩ := DataW.trod_struct hs hx
    rw [T.sc] at hl
    obtain ⟨v0, v1, v2, v3, v4, v5, v6, v7, v8, v9, rfl⟩ : ∃ v0 v1 v2 v3 v4 v5 v6 v7 v8 v9 : Value, cs = [v0, v1, v2, v3, v4, v5, v6, v7, v8, v9] := by
      match cs, hl with
      | [v0, v1, v2, v3, v4, v5, v6, v7, v8, v9], _ => exact ⟨v0, v1, v2, v3, v4, v5, v6, v7, v8, v9, rfl⟩
    have hxl : xs.length = 7 := hlen
    have get : ∀ i, i < 7 → ∃ y, xs[i]? = some y := fun i hi => ⟨xs[i], List.getElem?_eq_getElem (by omega)⟩
    obtain ⟨y0, e0⟩ := get 0 (by decide)
    obtain ⟨y1, e1⟩ := get 1 (by decide)
    obtain ⟨y2, e2⟩ := get 2 (by decide)
    obtain ⟨y3, e3⟩ := get 3 (by decide)
    obtain ⟨y4, e4⟩ := get 4 (by decide)
    obtain ⟨y5, e5⟩ := get 5 (by decide)
    obtain ⟨y6, e6⟩ := get 6 (by decide)
    have k0 := hf 0 f0 rfl
    have k1 := hf 1 f1 rfl
    have k2 := hf 2 f2 rfl
    have k3 := hf 3 f3 rfl
    have k4 := hf 4 f4 rfl
    have k5 := hf 5 f5 rfl
    have k6 := hf 6 f6 rfl
    rw [e0, t0, o0, T.kc] at k0
    rw [e1, t1, o1, T.pc] at k1
    rw [e2, t2, o2, T.pc] at k2
    rw [e3, t3, o3, T.pc] at k3
    rw [e4, t4, o4, T.rc] at k4
    rw [e5, t5, o5, T.lc] at k5
    rw [e6, t6, o6, T.qc] at k6
    simp only [List.drop_zero, List.take_succ_cons, List.take_zero, List.drop_succ_cons] at k0 k1 k2 k3 k4 k5 k6
    obtain ⟨z0, r0, _⟩ := DataW.trod_int T.k k0
    obtain ⟨z4, r4, _⟩ := DataW.trod_int T.r k4
    simp only [List.cons.injEq, and_true] at r0 r4
    subst r0; subst r4
    obtain ⟨pa, _, _, a1', a2'⟩ := pt_den (F := fun b => b < w.heap.size) hp p0 p1 (by rw [q0]; exact T.ic) (by rw [q1]; exact T.ic) (by rw [q0]; exact T.i) (by rw [q1]; exact T.i) k1
    obtain ⟨pb, _, _, b1', b2'⟩ := pt_den (F := fun b => b < w.heap.size) hp p0 p1 (by rw [q0]; exact T.ic) (by rw [q1]; exact T.ic) (by rw [q0]; exact T.i) (by rw [q1]; exact T.i) k2
    obtain ⟨pc, _, _, c1', c2'⟩ := pt_den (F := fun b => b < w.heap.size) hp p0 p1 (by rw [q0]; exact T.ic) (by rw [q1]; exact T.ic) (by rw [q0]; exact T.i) (by rw [q1]; exact T.i) k3
    obtain ⟨l, hL⟩ := ctr_den T.l T.l1c T.l1 hp T.pc p0 p1 (by rw [q0]; exact T.ic) (by rw [q1]; exact T.ic) (by rw [q0]; exact T.i) (by rw [q1]; exact T.i) k5
    have parts : ∃ (m : Nat) (add : Nat → Bool) (sub : Nat → Shp), (∀ i, i < m → ShW (sub i)) ∧ Dyn.DenC w (fun b => b < w.heap.size) (.row m fun i => partC (add i) (toSh (sub i))) v9 := by
      rcases DataW.trod_slice T.q k6 with ⟨hv, _⟩ | ⟨a, len, cap, elems, rest, m, rfl, hv, _, hb, hle, _, hel, hall, _⟩
      · simp only [List.cons.injEq, and_true] at hv
        subst hv
        exact ⟨0, fun _ => false, fun _ => .nil, fun i hi => absurd hi (Nat.not_lt_zero i), .nil _ none 0⟩
      · simp only [List.cons.injEq, and_true] at hv
        subst hv
        have part : ∀ i, i < len → ∃ q : (Bool × Shp) × (Nat → Value), ShW q.1.2 ∧ (∀ j, j < 11 → w.cell? ((a.add (i * 11)).add j) = some (q.2 j)) ∧ (∀ j, j < 11 → Dyn.DenC w (fun b => b < w.heap.size) ((partC q.1.1 (toSh q.1.2)).getD j default) (q.2 j)) := fun i hi => by
          have key := hall i hi
          rw [T.ec, List.getElem?_eq_getElem (by omega)] at key
          obtain ⟨cs', h1', h2'⟩ := Option.bind_eq_some_iff.1 key
          obtain ⟨_, hlen', hcell⟩ := World.cells?_some h1'
          obtain ⟨ys, n', rfl, _, _, hyl, hfy⟩ := DataW.trod_struct he h2'
          have hyl : ys.length = 2 := hyl
          have m0 := hfy 0 h0 rfl
          have m1 := hfy 1 h1 rfl
          rw [List.getElem?_eq_getElem (by omega), b0, a0, T.bc] at m0
          rw [List.getElem?_eq_getElem (by omega), b1, a1, T.sc] at m1
          obtain ⟨c, cs'', rfl⟩ : ∃ c cs'', cs' = c :: cs'' := by
            match cs', hlen' with
            | c :: cs'', _ => exact ⟨c, cs'', rfl⟩
          simp only [List.drop_zero, List.take_succ_cons, List.take_zero, List.drop_succ_cons] at m0 m1
          rw [List.take_of_length_le (by simp only [List.length_cons] at hlen'; omega)] at m1
          obtain ⟨q, hq, _⟩ := DataW.trod_bool T.b m0
          simp only [List.cons.injEq, and_true] at hq
          subst hq
          obtain ⟨s', hW', hD'⟩ := ih n' (by omega) _ _ m1
          refine ⟨((q, s'), fun j => ((.bool q : Value) :: cs'').getD j default), hW', fun j hj => ?_, fun j hj => ?_⟩
          · rw [hcell j hj]
            show _ = some ((Value.bool q :: cs'').getD j default)
            rw [List.getD_eq_getElem?_getD, List.getElem?_eq_getElem (by omega)]; rfl
          · exact DenL_get (ds := partC q (toSh s')) (us := .bool q :: cs'') ⟨.p _ rfl, hD'⟩ (by omega)
        by_cases hz : len = 0
        · subst hz
          exact ⟨0, fun _ => false, fun _ => .nil, fun i hi => absurd hi (Nat.not_lt_zero i), .nil _ (some a) cap⟩
        · haveI : Inhabited ((Bool × Shp) × (Nat → Value)) := ⟨((false, .nil), fun _ => default)⟩
          obtain ⟨g, hg⟩ := choose_lt part
          have z0 := (hg 0 (by omega)).2.1 0 (by decide)
          have za : (a.add (0 * 11)).add 0 = a.add 0 := rfl
          rw [za] at z0
          obtain ⟨hlt, hsp⟩ := addr_cell z0
          have hsp := hsp rfl
          obtain ⟨b, off, sp⟩ := a
          dsimp only at hsp
          subst hsp
          simp only [addr_add] at hg hlt
          exact ⟨len, fun i => (g i).1.1, fun i => (g i).1.2, fun i hi => (hg i hi).1, .row len _ b off cap 11 (fun i j => (g i).2 j) hle hlt (fun i hi => ⟨rfl, fun j hj => (hg i hi).2.1 j hj⟩) (fun i j hi hj => (hg i hi).2.2 j hj)⟩
    obtain ⟨m, add, sub, hW, hQ⟩ := parts
    exact ⟨.mk z0 pa pb pc z4 l m add sub, hW, .p _ rfl, a1', a2', b1', b2', c1', c2', .p _ rfl, hL, hQ, trivial⟩
theorem open_S {tS tK tP tR tL tL1 tQ tE tB tI : TypeId} (T : ShT P tS tK tP tR tL tL1 tQ tE tB tI) {r : Reach} {b0 : Nat} {v : Value} {d : DataW H} {ps : List MemPlace} (hval : Value.okWide P w r b0 tS v) (hd : DataW.Trod enc P w base spare held tS v d ps) :
    ∃ s : Shp, ShW s ∧ Dyn.DenV w (fun b => b < w.heap.size) (dvS (toSh s)) v := by
  obtain ⟨f0, f1, f2, f3, f4, f5, f6, hs, _⟩ := T.s
  obtain ⟨cs, rfl, _⟩ := okWide_struct hs hval
  obtain ⟨fuel, hf⟩ := hd
  obtain ⟨s, h1, h2⟩ := shape_den T fuel _ _ hf
  exact ⟨s, h1, ⟨cs, rfl, h2⟩⟩
end
theorem shT : ShT Try.prog 29 3 23 2 26 78 27 45 4 2 where
  s := ⟨_, _, _, _, _, _, _, Try.underlying29, ⟨rfl, rfl, rfl, rfl, rfl, rfl, rfl⟩, rfl, rfl, rfl, rfl, rfl, rfl, rfl⟩
  sc := by kernel_rfl
  kc := by kernel_rfl
  pc := by kernel_rfl
  rc := by kernel_rfl
  lc := by kernel_rfl
  qc := by kernel_rfl
  k := Try.underlying3
  r := Try.underlying2
  p := ⟨_, _, Try.underlying23, rfl, rfl, rfl, rfl⟩
  ic := by kernel_rfl
  i := Try.underlying2
  l := Try.underlying26
  l1c := by kernel_rfl
  l1 := Try.underlying78
  q := Try.underlying27
  ec := by kernel_rfl
  e := ⟨_, _, Try.underlying45, rfl, rfl, rfl, rfl⟩
  bc := by kernel_rfl
  b := Try.underlying4
end Go.Proofs.Ytfooaikpcbnchaa

/-! ## Pia -/
namespace Go.Proofs.Ytfooaikpcbnchaa
open Go Go.RowKit Sym
set_option maxRecDepth 100000

/-! ### a list of objects, as the parts of a form -/
def dvL (x : Sh) : Dyn.DV := .one (.row x.n x.f)
def obX (n : Nat) (f : Nat → List Dyn.DC) : Sh := ⟨6, ze, ze, ze, 0, zeC, n, f⟩
def mkL (n : Nat) (add : Nat → Bool) (sh : Nat → Sh) : Sh := mkSh 6 ze ze ze 0 zeC n add sh
def qL : Dec Sh
  | .one (.row n f) => some (obX n f, [])
  | _ => none
theorem qL_ok : DecOk qL dvL (fun _ => True) := fun d x ps h hp => by
  unfold qL at h; split at h
  · simp only [Option.some.injEq, Prod.mk.injEq] at h
    obtain ⟨rfl, rfl⟩ := h
    exact ⟨⟨rfl, fun _ _ => rfl⟩, trivial⟩
  · cases h
theorem SLe.dvL {x y : Sh} (h : SLe x y) : Dyn.DVLe (dvL x) (dvL y) := ⟨h.2.2.2.2.2.2.1, h.2.2.2.2.2.2.2⟩
def dtyO (t : TypeId) : Bool := dtyS t || Nat.beq t 67 || Nat.beq t 63
def lForm (n : Nat) (add : Nat → Bool) (sub : Nat → Shp) : Shp := .mk 6 ze ze ze 0 zeC n add sub
def nuO : Shp → Nat
  | .nil => 0
  | .mk _ _ _ _ _ _ n _ _ => n
def adO : Shp → Nat → Bool
  | .nil, _ => false
  | .mk _ _ _ _ _ _ _ add _, i => add i
def suO : Shp → Nat → Shp
  | .nil, _ => .nil
  | .mk _ _ _ _ _ _ _ _ sub, i => sub i

/-! ### Small -/
noncomputable def sbG (sh : Nat → Sh) (i : Nat) (_ : Unit) : Bool × Unit := (smallE (sh i) 0, ())
noncomputable def small21 (s : Shp) : Bool := bif decide ((nuO s : Int) > 20) then false else (runN (fun i (_ : Unit) => (smallF (suO s i) 0, ())) () (nuO s)).1
noncomputable def tdSb : List Dyn.EntryD := [(14, en2D (qAnd qS PdW) qI fun x d => rB (smallE x d))]
def sbR : Dyn.St := mkS 20 [(2, .k (vb false))] []
def sbK : List Nat := [0, 2, 3]
theorem sb_blocks : blocksL (bodyD Try.f36.body) = [(0, .loop (unloopD (blkD Try.f36.body 0))), (1, blkD Try.f36.body 1)] := by kernel_rfl
theorem sb_b0 : blocksL (unloopD (blkD Try.f36.body 0)) = [(1, blkD Try.f36.body 1)] := by kernel_rfl
/-! ### Tame -/
noncomputable def tame21 (s : Shp) (sm : Bool) : Shp := .mk 6 ze ze ze 0 zeC (min (nuO s) 12) (adO s) (fun i => tameS (suO s i) sm 2)
noncomputable def tdTl : List Dyn.EntryD := [(18, en3D (qAnd qS PdS) qB qI fun x q d => .val (dvS (tameE x q d)))]
def drTl (K : Nat) : Bool := Nat.beq K 18
noncomputable def tlF (add : Nat → Bool) (sh : Nat → Sh) (sm : Bool) (i : Nat) : List Dyn.DC := partC (add i) (tameE (sh i) sm 2)
def tlK : List Nat := [0, 1, 4, 5, 6]
theorem tl_blocks : blocksL (bodyD Try.f38.body) = [(0, .loop (unloopD (blkD Try.f38.body 0))), (1, blkD Try.f38.body 1)] := by kernel_rfl
theorem tl_b0 : blocksL (unloopD (blkD Try.f38.body 0)) = [(1, blkD Try.f38.body 1)] := by kernel_rfl
/-! ### Class -/
noncomputable def figClassS (s : Shp) (b : B4) : Int := bif !(okE (toSh s)) then 0 else classF s b
noncomputable def pClass (s : Shp) (b : B4) : Int := foldN (fun i acc => foldF acc (figClassS (suO s i) b) (adO s i)) 0 (nuO s)
theorem figClassE_eq (s : Shp) (b : B4) : figClassE (toSh s) b = figClassS s b := by unfold figClassE figClassS; rw [classE_eq]
noncomputable def tdPc : List Dyn.EntryD := [(29, en2D (qAnd qS PdS) qX fun x b => rI (figClassE x b))]
noncomputable def tabPc : Dyn.Tabs := Dyn.tabs tbF tdPc noD dtyO
theorem tabPc_ok : Dyn.TabsOk Try.prog tabPc := Dyn.tabs_ok tbF_ok (List.forall_mem_cons.2 ⟨en2D_ok (qAnd_ok qS_ok) qX_ok fun x b h _ => figClass_ok x h.1 b, fun _ h => by cases h⟩)
noncomputable def pcG (sh : Nat → Sh) (add : Nat → Bool) (b : B4) (i : Nat) (acc : Int) : Int := foldF acc (figClassE (sh i) b) (add i)
def pcS (s : Sh) (b : B4) (acc i : Int) : Dyn.St := mkS 24 [(3, sL 1), (4, .k (vi 0)), (5, sI acc), (8, sH 0 0 s.n), (9, sI s.n), (10, sI i)] [some (.deep [.row s.n s.f]), some (.cells 47 [vi b.x0, vi b.y0, vi b.x1, vi b.y1])]
def pcK : List Nat := [3, 4, 5, 8, 9, 10]
noncomputable def pcLp (sh : Nat → Sh) (add : Nat → Bool) (s : Sh) (b : B4) : Dyn.Lp := fun id st => match id with
  | 0 => some (.side [keepA 24 [0, 1] [] pcK (2 ^ 5 + 2 ^ 10) st = pcS s b 0 0] (.leaf .normal (pcS s b (foldN (pcG sh add b) 0 s.n) s.n)))
  | _ => none
noncomputable def pcB (sh : Nat → Sh) (add : Nat → Bool) (s : Sh) (b : B4) (i : Nat) (acc : Int) : Dyn.Out :=
  .ite (decide ((i : Int) < s.n)) (.side [0 ≤ (i : Int) ∧ (i : Int) < s.n] (.side [PdS (sh i), ctrSelf (sh i).l] (.leaf .normal (pcS s b (foldF acc (figClassE (sh i) b) (add i)) (W (i + 1)))))) (.leaf (.exit 0) (pcS s b acc i))
theorem pc_B (n : Nat) (add : Nat → Bool) (sh : Nat → Sh) (b : B4) (i : Nat) (acc : Int) : (Dyn.lexec Try.prog tabPc (pcLp sh add (mkL n add sh) b) 3 (unloopD (blkD Try.f40.body 0)) .leaf (pcS (mkL n add sh) b acc i)).rl (keepR 24 [0, 1] [] pcK []) = pcB sh add (mkL n add sh) b i acc := by kernel_rfl
theorem pc_blocks : blocksL (bodyD Try.f40.body) = [(0, .loop (unloopD (blkD Try.f40.body 0))), (1, blkD Try.f40.body 1)] := by kernel_rfl
theorem pc_b0 : blocksL (unloopD (blkD Try.f40.body 0)) = [(1, blkD Try.f40.body 1)] := by kernel_rfl
theorem pc_loop (n : Nat) (add : Nat → Bool) (sh : Nat → Sh) (hn : n ≤ 1000000000) (hP : ∀ i, i < n → PdS (sh i)) (b : B4) (w0 : Dyn.Base Try.prog) (s : Dyn.St) (o : Dyn.Out) (h : pcLp sh add (mkL n add sh) b 0 s = some o) : Dyn.BlockSound Try.prog w0 0 (.loop (unloopD (blkD Try.f40.body 0))) s o := by
  simp only [pcLp, Option.some.injEq] at h
  subst h
  refine side_one fun hS => ?_
  refine fold_block (fuel := 3) tabPc_ok mo (lp := pcLp sh add (mkL n add sh) b) (by rw [pc_b0]; exact lpOk_cons (fun s o h => by cases h) lpOk_nil) (fun i acc => pcS (mkL n add sh) b acc i) n (pcG sh add b) 0 (keepR 24 [0, 1] [] pcK []) (keepR_ent 24 _ _ _ _) (fun i acc => pcB sh add (mkL n add sh) b i acc) (fun i acc => pc_B n add sh b i acc) (fun i hi => ?_) ?_ (hS ▸ keepA_ent 24 _ _ _ _ s)
  · refine ⟨fun _ => ⟨⟨⟨by omega, by show (i : Int) < (n : Int); omega⟩, trivial⟩, ⟨hP i hi, ctrSelf_ok _, trivial⟩, rfl, ?_⟩, fun hf => ?_⟩
    · rw [Wn1 hi hn]; exact Dyn.Fits.refl _
    · rw [decide_eq_false_iff_not] at hf
      exact absurd (show (i : Int) < (n : Int) by omega) hf
  · refine ⟨fun ht => ?_, fun _ => ⟨rfl, Dyn.Fits.refl _⟩⟩
    rw [decide_eq_true_eq] at ht
    exact absurd (show (n : Int) < (n : Int) from ht) (by omega)
theorem pc_O (sh : Nat → Sh) (add : Nat → Bool) (s : Sh) (b : B4) : (Dyn.dfun Try.prog tabPc (pcLp sh add s b) 3 Try.f40 [dvL s, dvX b]).ro Try.prog Try.f40.results = .side [pcS s b 0 0 = pcS s b 0 0] (.leaf (rI (foldN (pcG sh add b) 0 s.n))) := by kernel_rfl
theorem pc_lvl (n : Nat) (add : Nat → Bool) (sh : Nat → Sh) (hn : n ≤ 1000000000) (hP : ∀ i, i < n → PdS (sh i)) (b : B4) : Dyn.CallD Try.prog 40 [dvL (mkL n add sh), dvX b] (rI (foldN (pcG sh add b) 0 n)) :=
  Dyn.dcontract (lp := pcLp sh add (mkL n add sh) b) (fuel := 3) tabPc_ok mo Try.func40 (by kernel_rfl) (c := bodyD Try.f40.body) (by kernel_rfl)
    (fun w0 => by rw [pc_blocks]; exact lpOk_cons (pc_loop n add sh hn hP b w0) (lpOk_cons (fun s o h => by cases h) lpOk_nil))
    (by kernel_rfl) (pc_O sh add _ b) ⟨⟨rfl, trivial⟩, ro_leaf rfl⟩
theorem pClass_ok : ∀ s : Shp, ShB s → ∀ b, Dyn.CallD Try.prog 40 [dvL (toSh s), dvX b] (rI (pClass s b)) := by
  intro s h b
  cases s with
  | nil => exact h.elim
  | mk k a b' c r l n add sub =>
    have q := pc_lvl n add (fun i => toSh (sub i)) h.2.1 (fun i hi => PdS_mk (h.2.2 i hi)) b
    unfold pcG at q
    simp only [figClassE_eq] at q
    exact q
end Go.Proofs.Ytfooaikpcbnchaa

/-! ## Rof -/
namespace Go.Proofs.Ytfooaikpcbnchaa
open Go Go.ChangeShapes Go.WideShapes Go.ChangeAt Go.RowKit Go.Joins Go.Deep
set_option maxRecDepth 100000

section
variable {H : Type} {enc : TypeId × Value → H} {P : Program} {w : World} {base : Nat} {spare : Nat → Bool} {held : Bool}
theorem objs_den {tS tK tP tR tL tL1 tQ tE tB tI tQ' tE' : TypeId} (T : ShT P tS tK tP tR tL tL1 tQ tE tB tI) (q : P.underlying tQ' = some (.slice tE')) (ec : P.cellsOf tE' = 11)
    (he : ∃ h0 h1 : Field, P.underlying tE' = some (.struct #[h0, h1]) ∧ h0.offset = 0 ∧ h1.offset = 1 ∧ h0.type = tB ∧ h1.type = tS) {fuel : Nat} {v9 : Value} {y : DataW H × List MemPlace} (k6 : DataW.trod enc P w base spare held fuel tQ' [v9] = some y) :
    ∃ (m : Nat) (add : Nat → Bool) (sub : Nat → Shp), (∀ i, i < m → ShW (sub i)) ∧ Dyn.DenC w (fun b => b < w.heap.size) (.row m fun i => partC (add i) (toSh (sub i))) v9 := by
  obtain ⟨h0, h1, he, a0, a1, b0, b1⟩ := he
  rcases DataW.trod_slice q k6 with ⟨hv, _⟩ | ⟨a, len, cap, elems, rest, m, rfl, hv, _, hb, hle, _, hel, hall, _⟩
  · simp only [List.cons.injEq, and_true] at hv
    subst hv
    exact ⟨0, fun _ => false, fun _ => .nil, fun i hi => absurd hi (Nat.not_lt_zero i), .nil _ none 0⟩
  · simp only [List.cons.injEq, and_true] at hv
    subst hv
    have part : ∀ i, i < len → ∃ q : (Bool × Shp) × (Nat → Value), ShW q.1.2 ∧ (∀ j, j < 11 → w.cell? ((a.add (i * 11)).add j) = some (q.2 j)) ∧ (∀ j, j < 11 → Dyn.DenC w (fun b => b < w.heap.size) ((partC q.1.1 (toSh q.1.2)).getD j default) (q.2 j)) := fun i hi => by
      have key := hall i hi
      rw [ec, List.getElem?_eq_getElem (by omega)] at key
      obtain ⟨cs', h1', h2'⟩ := Option.bind_eq_some_iff.1 key
      obtain ⟨_, hlen', hcell⟩ := World.cells?_some h1'
      obtain ⟨ys, n', rfl, _, _, hyl, hfy⟩ := DataW.trod_struct he h2'
      have hyl : ys.length = 2 := hyl
      have m0 := hfy 0 h0 rfl
      have m1 := hfy 1 h1 rfl
      rw [List.getElem?_eq_getElem (by omega), b0, a0, T.bc] at m0
      rw [List.getElem?_eq_getElem (by omega), b1, a1, T.sc] at m1
      obtain ⟨c, cs'', rfl⟩ : ∃ c cs'', cs' = c :: cs'' := by
        match cs', hlen' with
        | c :: cs'', _ => exact ⟨c, cs'', rfl⟩
      simp only [List.drop_zero, List.take_succ_cons, List.take_zero, List.drop_succ_cons] at m0 m1
      rw [List.take_of_length_le (by simp only [List.length_cons] at hlen'; omega)] at m1
      obtain ⟨q, hq, _⟩ := DataW.trod_bool T.b m0
      simp only [List.cons.injEq, and_true] at hq
      subst hq
      obtain ⟨s', hW', hD'⟩ := shape_den T n' _ _ m1
      refine ⟨((q, s'), fun j => ((.bool q : Value) :: cs'').getD j default), hW', fun j hj => ?_, fun j hj => ?_⟩
      · rw [hcell j hj]
        show _ = some ((Value.bool q :: cs'').getD j default)
        rw [List.getD_eq_getElem?_getD, List.getElem?_eq_getElem (by omega)]; rfl
      · exact DenL_get (ds := partC q (toSh s')) (us := .bool q :: cs'') ⟨.p _ rfl, hD'⟩ (by omega)
    by_cases hz : len = 0
    · subst hz
      exact ⟨0, fun _ => false, fun _ => .nil, fun i hi => absurd hi (Nat.not_lt_zero i), .nil _ (some a) cap⟩
    · haveI : Inhabited ((Bool × Shp) × (Nat → Value)) := ⟨((false, .nil), fun _ => default)⟩
      obtain ⟨g, hg⟩ := choose_lt part
      have z0 := (hg 0 (by omega)).2.1 0 (by decide)
      have za : (a.add (0 * 11)).add 0 = a.add 0 := rfl
      rw [za] at z0
      obtain ⟨hlt, hsp⟩ := addr_cell z0
      have hsp := hsp rfl
      obtain ⟨b, off, sp⟩ := a
      dsimp only at hsp
      subst hsp
      simp only [addr_add] at hg hlt
      exact ⟨len, fun i => (g i).1.1, fun i => (g i).1.2, fun i hi => (hg i hi).1, .row len _ b off cap 11 (fun i j => (g i).2 j) hle hlt (fun i hi => ⟨rfl, fun j hj => (hg i hi).2.1 j hj⟩) (fun i j hi hj => (hg i hi).2.2 j hj)⟩
theorem open_O {tS tK tP tR tL tL1 tQ tE tB tI tQ' tE' : TypeId} (T : ShT P tS tK tP tR tL tL1 tQ tE tB tI) (q : P.underlying tQ' = some (.slice tE')) (ec : P.cellsOf tE' = 11)
    (he : ∃ h0 h1 : Field, P.underlying tE' = some (.struct #[h0, h1]) ∧ h0.offset = 0 ∧ h1.offset = 1 ∧ h0.type = tB ∧ h1.type = tS) {r : Reach} {b0 : Nat} {v : Value} {d : DataW H} {ps : List MemPlace} (hval : Value.okWide P w r b0 tQ' v) (hd : DataW.Trod enc P w base spare held tQ' v d ps) :
    ∃ s : Shp, ShW s ∧ Dyn.DenV w (fun b => b < w.heap.size) (dvL (toSh s)) v := by
  obtain ⟨a, len, cap, rfl⟩ := okWide_slice q hval
  obtain ⟨fuel, hf⟩ := hd
  obtain ⟨m, add, sub, hW, hD⟩ := objs_den T q ec he hf
  exact ⟨lForm m add sub, hW, hD⟩
end
end Go.Proofs.Ytfooaikpcbnchaa

/-! ## Cpa -/
namespace Go.Proofs.Ytfooaikpcbnchaa
open Go Go.RowKit Sym
set_option maxRecDepth 100000

def sumC (f : Nat → Nat) : Nat → Nat
  | 0 => 0
  | n + 1 => sumC f n + f n
theorem sumC_congr {f g : Nat → Nat} : ∀ {n}, (∀ i, i < n → f i = g i) → sumC f n = sumC g n
  | 0, _ => rfl
  | n + 1, h => by unfold sumC; rw [sumC_congr fun i hi => h i (by omega), h n (by omega)]
theorem sumC_le {f : Nat → Nat} : ∀ {n i : Nat}, i < n → f i ≤ sumC f n
  | 0, i, h => absurd h (Nat.not_lt_zero i)
  | n + 1, i, h => by
    unfold sumC
    by_cases e : i = n
    · subst e; omega
    · have := sumC_le (f := f) (n := n) (i := i) (by omega); omega
/-- the shapes of a shape's parts -/
def cntS : Shp → Nat
  | .nil => 0
  | .mk _ _ _ _ _ _ n _ sub => sumC (fun i => 1 + cntS (sub i)) n
/-- a list of n parts at an address shows c shapes -/
inductive PC (w : World) (F : Nat → Prop) : Option Addr → Nat → Nat → Prop where
  | nil (oa : Option Addr) : PC w F oa 0 0
  | row (b off n : Nat) (a : Nat → Option Addr) (m q c : Nat → Nat) : 0 < n → F b → (∀ i, i < n → w.cell? ⟨b, off + i * 11 + 10, none⟩ = some (.slice (a i) (m i) (q i))) →
      (∀ i, i < n → PC w F (a i) (m i) (c i)) → PC w F (some ⟨b, off, none⟩) n (sumC (fun i => 1 + c i) n)
theorem PC.mono {w w' : World} {F F' : Nat → Prop} (h : ∀ b, F b → F' b ∧ w'.heap[b]? = w.heap[b]?) {oa : Option Addr} {n c : Nat} (k : PC w F oa n c) : PC w' F' oa n c := by
  induction k with
  | nil oa => exact .nil oa
  | row b off n a m q c hn hF hc _ ih => exact .row b off n a m q c hn (h b hF).1 (fun i hi => (Dyn.cell_congr (h b hF).2 _).trans (hc i hi)) ih
theorem PC.det {w : World} {F F' : Nat → Prop} {oa : Option Addr} {n c : Nat} (k : PC w F oa n c) : ∀ {c' : Nat}, PC w F' oa n c' → c = c' := by
  induction k with
  | nil oa =>
    intro c' k'
    cases k' with
    | nil => rfl
    | row b off n a m q c hn => exact absurd hn (Nat.lt_irrefl 0)
  | row b off n a m q c hn hF hc _ ih =>
    intro c' k'
    cases k' with
    | nil => exact absurd hn (Nat.lt_irrefl 0)
    | row _ _ _ a' m' q' d hn' hF' hc' hs =>
      refine sumC_congr fun i hi => ?_
      have e := (hc i hi).symm.trans (hc' i hi)
      simp only [Option.some.injEq, Value.slice.injEq] at e
      obtain ⟨e1, e2, _⟩ := e
      have := hs i hi
      rw [← e1, ← e2] at this
      rw [ih i hi this]
/-- what shows the parts of a shape shows that many -/
theorem den_PC {w : World} {F : Nat → Prop} : ∀ (s : Shp), ShB s → ∀ {v : Value}, Dyn.DenC w F (.row (toSh s).n (toSh s).f) v → ∃ oa cap, v = .slice oa (toSh s).n cap ∧ PC w F oa (toSh s).n (cntS s) := by
  intro s
  induction s with
  | nil => intro h; exact h.elim
  | mk k a b c r l n add sub ih =>
    intro hB v h
    have h : Dyn.DenC w F (.row n fun i => partC (add i) (toSh (sub i))) v := h
    show ∃ oa cap, v = .slice oa n cap ∧ PC w F oa n (sumC (fun i => 1 + cntS (sub i)) n)
    generalize hf : (fun i => partC (add i) (toSh (sub i))) = f at h
    cases h with
    | nil f oa cap => exact ⟨oa, cap, rfl, .nil oa⟩
    | row _ _ b off cap size g hk hF hc hd =>
      refine ⟨_, cap, rfl, ?_⟩
      by_cases hz : n = 0
      · subst hz; exact .nil _
      · have es : size = 11 := by rw [← (hc 0 (by omega)).1, ← hf]; rfl
        subst es
        have key : ∀ i, i < n → ∃ oa cap, g i 10 = .slice oa (toSh (sub i)).n cap ∧ PC w F oa (toSh (sub i)).n (cntS (sub i)) := fun i hi => by
          have := hd i 10 hi (by decide)
          rw [← hf] at this
          exact ih i (hB.2.2 i hi) this
        have ch : ∃ (a : Nat → Option Addr) (q : Nat → Nat), ∀ i, i < n → g i 10 = .slice (a i) (toSh (sub i)).n (q i) ∧ PC w F (a i) (toSh (sub i)).n (cntS (sub i)) := by
          refine ⟨fun i => (match g i 10 with | .slice oa _ _ => oa | _ => none), fun i => (match g i 10 with | .slice _ _ q => q | _ => 0), fun i hi => ?_⟩
          obtain ⟨oa, cap, e, p⟩ := key i hi
          dsimp only
          rw [e]; exact ⟨rfl, p⟩
        obtain ⟨a, q, h⟩ := ch
        exact .row b off n a _ q _ (by omega) hF (fun i hi => by rw [(hc i hi).2 10 (by decide), (h i hi).1]) (fun i hi => (h i hi).2)

/-! ### a map of numbers, by its entries -/
abbrev PKey := Nat × Nat × Nat
def keyV (k : PKey) : Value := .agg #[.pointer (some ⟨k.1, k.2.1, none⟩), .int .i64 (k.2.2 : Int)]
def lkP (k : PKey) : List (PKey × Int) → Option Int
  | [] => none
  | x :: l => if x.1 = k then some x.2 else lkP k l
def ixP (k : PKey) : List (PKey × Int) → Option Nat
  | [] => none
  | x :: l => if x.1 = k then some 0 else (ixP k l).map (· + 1)
def upP (k : PKey) (v : Int) : List (PKey × Int) → List (PKey × Int)
  | [] => [(k, v)]
  | x :: l => if x.1 = k then (k, v) :: l else x :: upP k v l
theorem lk_up (k : PKey) (v : Int) (k' : PKey) : ∀ l, lkP k' (upP k v l) = if k = k' then some v else lkP k' l
  | [] => by simp only [upP, lkP]
  | x :: l => by
    unfold upP
    by_cases e : x.1 = k
    · rw [if_pos e]
      simp only [lkP]
      by_cases e' : k = k'
      · rw [if_pos e', if_pos e']
      · rw [if_neg e', if_neg e', if_neg (fun z => e' (e.symm.trans z))]
    · rw [if_neg e]
      simp only [lkP]
      by_cases e' : x.1 = k'
      · rw [if_pos e', if_pos e', if_neg (fun z => e (e'.trans z.symm))]
      · rw [if_neg e', if_neg e']; exact lk_up k v k' l
/-- a block is a map with these entries -/
def MapIs (w : World) (b : Nat) (l : List (PKey × Int)) : Prop :=
  ∃ es clock, w.heap[b]? = some (.map es clock) ∧ es.toList.map (fun e => (e.key, e.val)) = l.map (fun x => (keyV x.1, .int .i64 x.2))
/-- a type of maps from an address and a number -/
structure KeyT (P : Program) (t k e el size : Nat) (f1 f2 : Field) : Prop where
  m : P.underlying t = some (.map k e)
  s : P.underlying k = some (.struct #[f1, f2])
  p : P.underlying f1.type = some (.pointer el)
  q : ∃ i, P.underlying f2.type = some (.int i)
  z : sizeO P el = some (size + 1)
  n1 : (f1.name != "_") = true
  n2 : (f2.name != "_") = true
  o1 : f1.offset = 0
  o2 : f2.offset = 1
  h : P.stoodInHeld k = false
  a1 : isAggB P f1.type = some false
  a2 : isAggB P f2.type = some false
section
variable {P : Program} {t k e el size : Nat} {f1 f2 : Field} {w : World}
theorem key_check (T : KeyT P t k e el size f1 f2) (x : PKey) (em : Bool) : (Instr.checkKey em 10000 k (keyV x)).run P w = .ok () w := by
  have p1 : (part f1.type #[Value.pointer (some ⟨x.1, x.2.1, none⟩), .int .i64 (x.2.2 : Int)] f1.offset).run P w = .ok (.pointer (some ⟨x.1, x.2.1, none⟩)) w := part_run (by unfold partOf; rw [T.a1, T.o1]; rfl)
  have p2 : (part f2.type #[Value.pointer (some ⟨x.1, x.2.1, none⟩), .int .i64 (x.2.2 : Int)] f2.offset).run P w = .ok (.int .i64 (x.2.2 : Int)) w := part_run (by unfold partOf; rw [T.a2, T.o2]; rfl)
  have n1' : f1.name ≠ "_" := by simpa using T.n1
  have n2' : f2.name ≠ "_" := by simpa using T.n2
  obtain ⟨i, hq⟩ := T.q
  have c1 : ∀ d, (Instr.checkKey em (d + 1) f1.type (.pointer (some ⟨x.1, x.2.1, none⟩))).run P w = .ok () w := fun d => by simp [Instr.checkKey, run_underlying T.p]
  have c2 : ∀ d, (Instr.checkKey em (d + 1) f2.type (.int .i64 (x.2.2 : Int))).run P w = .ok () w := fun d => by simp [Instr.checkKey, run_underlying hq]
  show (Instr.checkKey em (9998 + 2) k _).run P w = _
  unfold keyV
  rw [Instr.checkKey]
  simp [run_underlying T.s, n1', n2', p1, p2, c1 9998, c2 9998]
theorem key_equal (T : KeyT P t k e el size f1 f2) (x y : PKey) (hx : Dyn.PlainB w x.1) (hy : Dyn.PlainB w y.1) : (Op.equal k (keyV x) (keyV y)).run P w = .ok (decide (x = y)) w := by
  have p1 : ∀ x : PKey, (part f1.type #[Value.pointer (some ⟨x.1, x.2.1, none⟩), .int .i64 (x.2.2 : Int)] f1.offset).run P w = .ok (.pointer (some ⟨x.1, x.2.1, none⟩)) w := fun x => part_run (by unfold partOf; rw [T.a1, T.o1]; rfl)
  have p2 : ∀ x : PKey, (part f2.type #[Value.pointer (some ⟨x.1, x.2.1, none⟩), .int .i64 (x.2.2 : Int)] f2.offset).run P w = .ok (.int .i64 (x.2.2 : Int)) w := fun x => part_run (by unfold partOf; rw [T.a2, T.o2]; rfl)
  have n1' : f1.name ≠ "_" := by simpa using T.n1
  have n2' : f2.name ≠ "_" := by simpa using T.n2
  obtain ⟨i, hq⟩ := T.q
  obtain ⟨b1, o1, m1⟩ := x
  obtain ⟨b2, o2, m2⟩ := y
  obtain ⟨c1, t1, hx⟩ := hx
  obtain ⟨c2, t2, hy⟩ := hy
  dsimp only at hx hy
  have e1 : ∀ d, (Op.equalIn (d + 1) f1.type (.pointer (some ⟨b1, o1, none⟩)) (.pointer (some ⟨b2, o2, none⟩))).run P w = .ok (decide (b1 = b2 ∧ o1 = o2)) w := by
    intro d
    by_cases he : b1 = b2 ∧ o1 = o2
    · obtain ⟨rfl, rfl⟩ := he
      simp [Op.equalIn, run_underlying T.p, sizeOf_run T.z, run_sameAddr_same]
    · have hne : (⟨b1, o1, none⟩ : Addr) ≠ ⟨b2, o2, none⟩ := fun z => he (by simpa using z)
      simp [Op.equalIn, run_underlying T.p, sizeOf_run T.z, run_sameAddr_other w hne hx hy, he]
  have e2 : ∀ d, (Op.equalIn (d + 1) f2.type (.int .i64 (m1 : Int)) (.int .i64 (m2 : Int))).run P w = .ok (decide (m1 = m2)) w := by
    intro d
    have e : ((m1 : Int) == (m2 : Int)) = decide (m1 = m2) := by rw [Bool.eq_iff_iff]; simp only [beq_iff_eq, decide_eq_true_eq]; omega
    simp [Op.equalIn, run_underlying hq, e]
  show (Op.equalIn (9998 + 2) k _ _).run P w = _
  unfold keyV
  rw [Op.equalIn]
  by_cases h1 : b1 = b2 ∧ o1 = o2
  · by_cases h2 : m1 = m2
    · obtain ⟨rfl, rfl⟩ := h1
      subst h2
      simp [run_underlying T.s, T.h, n1', n2', p1 (b1, o1, m1), p2 (b1, o1, m1), e1 9998, e2 9998]
    · obtain ⟨rfl, rfl⟩ := h1
      simp [run_underlying T.s, T.h, n1', n2', p1 (b1, o1, m1), p2 (b1, o1, m1), p1 (b1, o1, m2), p2 (b1, o1, m2), e1 9998, e2 9998, h2]
  · have : ¬ ((b1, o1, m1) : PKey) = (b2, o2, m2) := fun z => h1 (by simp only [Prod.mk.injEq] at z; exact ⟨z.1, z.2.1⟩)
    simp [run_underlying T.s, T.h, n1', n2', p1 (b1, o1, m1), p1 (b2, o2, m2), e1 9998, h1, this]
theorem find_run (T : KeyT P t k e el size f1 f2) (x : PKey) (hx : Dyn.PlainB w x.1) : ∀ (es : List MapEntry) (l : List (PKey × Int)) (i : Nat), es.map (fun e => (e.key, e.val)) = l.map (fun x => (keyV x.1, .int .i64 x.2)) → (∀ y ∈ l, Dyn.PlainB w y.1.1) →
    (Instr.findAsking k (keyV x) es i).run P w = .ok ((ixP x l).map fun j => (i + j, .int .i64 ((lkP x l).getD 0))) w
  | [], [], i, _, _ => rfl
  | [], _ :: _, _, h, _ => by simp at h
  | _ :: _, [], _, h, _ => by simp at h
  | a :: es, y :: l, i, h, hp => by
    simp only [List.map_cons, List.cons.injEq, Prod.mk.injEq] at h
    obtain ⟨⟨hk, hv⟩, hr⟩ := h
    have he := key_equal (w := w) T x y.1 hx (hp y (by simp))
    have ih := find_run T x hx es l (i + 1) hr fun z hz => hp z (by simp [hz])
    rw [Instr.findAsking]
    simp only [Sem.run_bind, hk, he, Result.andThen_ok]
    by_cases e : x = y.1
    · have e' : y.1 = x := e.symm
      simp [ixP, lkP, e, hv]
    · have e' : ¬ y.1 = x := fun z => e z.symm
      simp only [ixP, lkP, e', e, if_false, decide_false, Bool.false_eq_true, ih]
      congr 1
      cases ixP x l <;> simp [Nat.add_comm, Nat.add_left_comm]
theorem findKey_run (T : KeyT P t k e el size f1 f2) (x : PKey) (hx : Dyn.PlainB w x.1) (es : List MapEntry) (l : List (PKey × Int)) (h : es.map (fun e => (e.key, e.val)) = l.map (fun x => (keyV x.1, .int .i64 x.2))) (hp : ∀ y ∈ l, Dyn.PlainB w y.1.1) :
    (Instr.findKey k (keyV x) es).run P w = .ok ((ixP x l).map fun j => (j, .int .i64 ((lkP x l).getD 0))) w := by
  have q := find_run (w := w) T x hx es l 0 h hp
  simp only [Nat.zero_add] at q
  unfold Instr.findKey
  simp only [Sem.run_bind, run_underlying T.s, Result.andThen_ok]
  cases es with
  | nil =>
    cases l with
    | nil => rfl
    | cons y l => simp at h
  | cons a es =>
    have : Instr.findNow (.struct #[f1, f2]) (keyV x) (a :: es) 0 = none := by unfold keyV; simp [Instr.findNow, Instr.sameNow]
    rw [this]; exact q
theorem ix_lk (x : PKey) : ∀ l : List (PKey × Int), (ixP x l = none ↔ lkP x l = none)
  | [] => by simp [ixP, lkP]
  | y :: l => by
    unfold ixP lkP
    by_cases e : y.1 = x
    · simp [e]
    · rw [if_neg e, if_neg e, ← ix_lk x l]; simp
/-- 'v, ok := m[k]' -/
theorem lookup_run (T : KeyT P t k e el size f1 f2) (hz : ∀ w, (zeroValue e).run P w = .ok (.int .i64 0) w) {b : Nat} {l : List (PKey × Int)} (hm : MapIs w b l) (x : PKey) (hx : Dyn.PlainB w x.1) (hp : ∀ y ∈ l, Dyn.PlainB w y.1.1) :
    (Instr.lookup t (.map (some b)) (keyV x) true).run P w = .ok (.tuple #[.int .i64 ((lkP x l).getD 0), .bool (lkP x l).isSome]) w := by
  obtain ⟨es, clock, hb, hl⟩ := hm
  have hf := findKey_run (w := w) T x hx es.toList l hl hp
  have hi := ix_lk x l
  unfold Instr.lookup
  simp only [Sem.run_bind, run_underlying T.m, Result.andThen_ok, MapKept.run_getObj_map hb, Sem.run_pure, key_check T x, hf]
  cases hq : ixP x l with
  | none =>
    rw [hi.1 hq]
    simp [hz]
  | some j =>
    have : lkP x l ≠ none := fun z => by rw [hi.2 z] at hq; cases hq
    cases hv : lkP x l with
    | none => exact absurd hv this
    | some v => simp
/-- .. of a nil map -/
theorem lookup_nil (T : KeyT P t k e el size f1 f2) {z : Value} (hz : (zeroValue e).run P w = .ok z w) (x : PKey) :
    (Instr.lookup t (.map none) (keyV x) true).run P w = .ok (.tuple #[z, .bool false]) w := by
  unfold Instr.lookup
  simp only [Sem.run_bind, run_underlying T.m, Result.andThen_ok, Sem.run_pure, key_check T x]
  have : (Instr.findKey k (keyV x) (#[] : Array MapEntry).toList).run P w = .ok none w := by
    unfold Instr.findKey
    simp only [Sem.run_bind, run_underlying T.s, Result.andThen_ok]
    rfl
  simp [this, hz]
theorem same_key (x : PKey) : Instr.sameBits 10000 (keyV x) (keyV x) = true := by
  unfold keyV; simp [Instr.sameBits]
theorem up_ix (x : PKey) (v : Int) : ∀ (es : List MapEntry) (l : List (PKey × Int)) (f : MapEntry → MapEntry), es.map (fun e => (e.key, e.val)) = l.map (fun x => (keyV x.1, .int .i64 x.2)) → (∀ a, ((f a).key, (f a).val) = (keyV x, .int .i64 v)) →
    ∀ j, ixP x l = some j → (es.modify j f).map (fun e => (e.key, e.val)) = (upP x v l).map (fun x => (keyV x.1, .int .i64 x.2)) ∧ ∃ a, es[j]? = some a ∧ a.key = keyV x
  | [], [], f, _, _, j, h => by simp [ixP] at h
  | [], _ :: _, _, h, _, _, _ => by simp at h
  | _ :: _, [], _, h, _, _, _ => by simp at h
  | a :: es, y :: l, f, h, hf, j, hj => by
    simp only [List.map_cons, List.cons.injEq, Prod.mk.injEq] at h
    obtain ⟨⟨hk, hv⟩, hr⟩ := h
    unfold ixP at hj
    unfold upP
    by_cases e : y.1 = x
    · rw [if_pos e] at hj ⊢
      simp only [Option.some.injEq] at hj; subst hj
      simp only [List.modify_zero_cons, List.map_cons, hr]
      rw [hf a]
      exact ⟨rfl, a, rfl, by rw [hk, e]⟩
    · rw [if_neg e] at hj ⊢
      cases hq : ixP x l with
      | none => rw [hq] at hj; simp at hj
      | some i =>
        rw [hq] at hj
        simp only [Option.map_some, Option.some.injEq] at hj; subst hj
        obtain ⟨i1, a', i2, i3⟩ := up_ix x v es l f hr hf i hq
        simp only [List.modify_succ_cons, List.map_cons, i1, hk, hv]
        exact ⟨trivial, a', by simpa using i2, i3⟩
theorem up_none (x : PKey) (v : Int) : ∀ l : List (PKey × Int), ixP x l = none → upP x v l = l ++ [(x, v)]
  | [], _ => rfl
  | y :: l, h => by
    unfold ixP at h
    unfold upP
    by_cases e : y.1 = x
    · rw [if_pos e] at h; cases h
    · rw [if_neg e] at h ⊢
      rw [up_none x v l (by simpa using h)]; rfl
/-- 'm[k] = v' -/
theorem update_run (T : KeyT P t k e el size f1 f2) {b : Nat} {l : List (PKey × Int)} (hm : MapIs w b l) (x : PKey) (v : Int) (hx : Dyn.PlainB w x.1) (hp : ∀ y ∈ l, Dyn.PlainB w y.1.1) :
    ∃ w', (Instr.mapUpdate t (.map (some b)) (keyV x) (.int .i64 v)).run P w = .ok () w' ∧ MapIs w' b (upP x v l) ∧ w.grownBy w' (some b) ∧ w'.heap.size = w.heap.size := by
  obtain ⟨es, clock, hb, hl⟩ := hm
  have hf := findKey_run (w := w) T x hx es.toList l hl hp
  have hlt : b < w.heap.size := (Array.getElem?_eq_some_iff.1 hb).1
  have post : ∀ o : Obj, w.grownBy { w with heap := w.heap.setIfInBounds b o } (some b) ∧ ({ w with heap := w.heap.setIfInBounds b o } : World).heap.size = w.heap.size := fun o =>
    ⟨⟨rfl, rfl, rfl, by simp, fun i hi hn => by
      show (w.heap.setIfInBounds b o)[i]? = _
      rw [Array.getElem?_setIfInBounds, if_neg (fun e => hn (by rw [e]))]⟩, by simp⟩
  have at_ : ∀ o : Obj, ({ w with heap := w.heap.setIfInBounds b o } : World).heap[b]? = some o := fun o => by
    show (w.heap.setIfInBounds b o)[b]? = _
    rw [Array.getElem?_setIfInBounds, if_pos rfl, if_pos hlt]
  cases hq : ixP x l with
  | none =>
    rw [hq] at hf
    refine ⟨{ w with heap := w.heap.setIfInBounds b (.map (es.push { key := keyV x, val := .int .i64 v, born := clock }) (clock + 1)) }, ?_, ⟨_, _, at_ _, ?_⟩, (post _).1, (post _).2⟩
    · unfold Instr.mapUpdate
      simp [run_underlying T.m, MapKept.run_getObj_map hb, key_check T x, hf, MapKept.run_setObj_map _ hb]
    · rw [Array.toList_push, List.map_append, hl, up_none x v l hq]; simp
  | some j =>
    rw [hq] at hf
    obtain ⟨i1, a, i2, i3⟩ := up_ix x v es.toList l (fun q => { q with key := keyV x, val := .int .i64 v }) hl (fun _ => rfl) j hq
    have i2' : es[j]? = some a := by rw [← Array.getElem?_toList]; exact i2
    refine ⟨{ w with heap := w.heap.setIfInBounds b (.map (es.modify j fun q => { q with key := keyV x, val := .int .i64 v }) clock) }, ?_, ⟨_, _, at_ _, ?_⟩, (post _).1, (post _).2⟩
    · unfold Instr.mapUpdate
      simp [run_underlying T.m, MapKept.run_getObj_map hb, key_check T x, hf, i2', i3, Instr.keyThatStays, same_key, MapKept.run_setObj_map _ hb]
    · rw [Array.toList_modify]; exact i1
end
end Go.Proofs.Ytfooaikpcbnchaa

/-! ## Cqa -/
namespace Go.Proofs.Ytfooaikpcbnchaa
open Go Go.RowKit Sym
set_option maxRecDepth 100000

/-- the parts of a shape, as a row -/
def dPt (s : Shp) : Dyn.DC := .row (toSh s).n (toSh s).f
/-- what shapes are made of -/
inductive TyD : Dyn.DC → Prop where
  | i (x : Int) : TyD (.p (vi x))
  | b (x : Bool) : TyD (.p (vb x))
  | pts (m : Nat) (p : Nat → P2) : TyD (cRow m p)
  | ctr (l : Ctr) : TyD (cCtr l)
  | prt (s : Shp) : ShB s → TyD (dPt s)
/-- the first cell tells how wide the elements are -/
theorem TyD.wide {n : Nat} {f : Nat → List Dyn.DC} (h : TyD (.row n f)) (hn : 0 < n) : (∃ x, (f 0).getD 0 default = .p (vi x)) ∧ (∀ i, i < n → (f i).length = 2) ∨ (∃ m p, (f 0).getD 0 default = cRow m p) ∧ (∀ i, i < n → (f i).length = 1) ∨ (∃ x, (f 0).getD 0 default = .p (vb x)) ∧ (∀ i, i < n → (f i).length = 11) := by
  generalize hd : Dyn.DC.row n f = d at h
  cases h with
  | i x => cases hd
  | b x => cases hd
  | pts m p => cases hd; exact .inl ⟨⟨_, rfl⟩, fun i _ => rfl⟩
  | ctr l => cases hd; exact .inr (.inl ⟨⟨_, _, rfl⟩, fun i _ => rfl⟩)
  | prt s hs =>
    cases s with
    | nil => exact hs.elim
    | mk k a b c r l n add sub => cases hd; exact .inr (.inr ⟨⟨_, rfl⟩, fun i _ => rfl⟩)
theorem TyD.part {n : Nat} {f : Nat → List Dyn.DC} (h : TyD (.row n f)) {i j : Nat} (hi : i < n) (hj : j < (f i).length) : TyD ((f i).getD j default) := by
  generalize hd : Dyn.DC.row n f = d at h
  cases h with
  | i x => cases hd
  | b x => cases hd
  | pts m p =>
    cases hd
    have : j = 0 ∨ j = 1 := by have : j < 2 := hj; omega
    rcases this with rfl | rfl
    · exact .i _
    · exact .i _
  | ctr l =>
    cases hd
    obtain rfl : j = 0 := by have : j < 1 := hj; omega
    exact .pts _ _
  | prt s hs =>
    cases s with
    | nil => exact hs.elim
    | mk k a b c r l n add sub =>
      cases hd
      have hB := hs.2.2 i hi
      have : j = 0 ∨ j = 1 ∨ j = 2 ∨ j = 3 ∨ j = 4 ∨ j = 5 ∨ j = 6 ∨ j = 7 ∨ j = 8 ∨ j = 9 ∨ j = 10 := by have : j < 11 := hj; omega
      rcases this with rfl | rfl | rfl | rfl | rfl | rfl | rfl | rfl | rfl | rfl | rfl
      · exact .b _
      · exact .i _
      · exact .i _
      · exact .i _
      · exact .i _
      · exact .i _
      · exact .i _
      · exact .i _
      · exact .i _
      · exact .ctr _
      · exact .prt _ hB
theorem den_p {w : World} {F : Nat → Prop} {x v : Value} (h : Dyn.DenC w F (.p x) v) : v = x := by cases h; rfl
theorem TyD.noSl {x : Value} (h : TyD (.p x)) : ∀ o n c, x ≠ .slice o n c := by
  generalize hd : Dyn.DC.p x = d at h
  cases h with
  | i x => cases hd; exact fun _ _ _ e => by cases e
  | b x => cases hd; exact fun _ _ _ e => by cases e
  | pts m p => cases hd
  | ctr l => cases hd
  | prt s hs => cases hd
theorem den_row {w : World} {F : Nat → Prop} {n : Nat} {f : Nat → List Dyn.DC} {v : Value} (h : Dyn.DenC w F (.row n f) v) : ∃ oa cap, v = .slice oa n cap := by
  cases h with
  | nil => exact ⟨_, _, rfl⟩
  | row => exact ⟨_, _, rfl⟩
theorem first_det {w : World} {F F' : Nat → Prop} {d d' : Dyn.DC} {v : Value} (h : Dyn.DenC w F d v) (h' : Dyn.DenC w F' d' v) :
    (∀ x, d = .p (vi x) → (∀ m p, d' ≠ cRow m p) ∧ (∀ y, d' ≠ .p (vb y))) ∧ (∀ x, d = .p (vb x) → (∀ m p, d' ≠ cRow m p)) := by
  refine ⟨fun x e => ⟨fun m p e' => ?_, fun y e' => ?_⟩, fun x e m p e' => ?_⟩
  · subst e; subst e'
    obtain ⟨oa, cap, q⟩ := den_row h'
    rw [den_p h] at q; cases q
  · subst e; subst e'
    have := (den_p h).symm.trans (den_p h'); cases this
  · subst e; subst e'
    obtain ⟨oa, cap, q⟩ := den_row h'
    rw [den_p h] at q; cases q
/-- what one value shows in two ways, every value shows so -/
theorem den_det {w : World} {F F' : Nat → Prop} {d : Dyn.DC} {u : Value} (h : Dyn.DenC w F d u) : ∀ {d' : Dyn.DC}, TyD d → TyD d' → Dyn.DenC w F' d' u → ∀ {w2 : World} {F2 : Nat → Prop} {v : Value}, Dyn.DenC w2 F2 d v → Dyn.DenC w2 F2 d' v := by
  induction h with
  | p x hx =>
    intro d' t t' h' w2 F2 v hv
    cases h' with
    | p _ => exact hv
    | nil f oa cap => exact absurd rfl (t.noSl _ _ _)
    | row n f b off cap size g => exact absurd rfl (t.noSl _ _ _)
    | ptr => cases t'
  | nil f oa cap =>
    intro d' t t' h' w2 F2 v hv
    obtain ⟨oa2, cap2, rfl⟩ := den_row hv
    generalize hu : Value.slice oa 0 cap = u at h'
    cases h' with
    | p _ => subst hu; exact absurd rfl (t'.noSl _ _ _)
    | nil f' oa' cap' => exact .nil _ _ _
    | row n f' b off cap' size g => cases hu; exact .nil _ _ _
    | ptr => cases hu
  | row n f b off cap size g hk hF hc hd ih =>
    intro d' t t' h' w2 F2 v hv
    by_cases hz : n = 0
    · subst hz
      obtain ⟨oa2, cap2, rfl⟩ := den_row hv
      generalize hu : Value.slice (some ⟨b, off, none⟩) 0 cap = u at h'
      cases h' with
      | p _ => subst hu; exact absurd rfl (t'.noSl _ _ _)
      | nil f' oa' cap' => exact .nil _ _ _
      | row n f' b off cap' size g => cases hu; exact .nil _ _ _
      | ptr => cases hu
    · have h0 : 0 < n := by omega
      cases h' with
      | p _ => exact absurd rfl (t'.noSl _ _ _)
      | nil => exact absurd rfl hz
      | row _ f' _ _ _ size' g' hk' hF' hc' hd' =>
        have es : size = size' := by
          have a := t.wide h0
          have a' := t'.wide h0
          have l := (hc 0 h0).1
          have l' := (hc' 0 h0).1
          have hs0 : 0 < size := by
            rcases a with ⟨_, a⟩ | ⟨_, a⟩ | ⟨_, a⟩ <;> have := a 0 h0 <;> omega
          have hs0' : 0 < size' := by
            rcases a' with ⟨_, a⟩ | ⟨_, a⟩ | ⟨_, a⟩ <;> have := a 0 h0 <;> omega
          have e0 : g 0 0 = g' 0 0 := by
            have q := (hc 0 h0).2 0 hs0
            have q' := (hc' 0 h0).2 0 hs0'
            rw [Nat.zero_mul] at q q'
            exact Option.some.inj (q.symm.trans q')
          have p := hd 0 0 h0 hs0
          have p' := hd' 0 0 h0 hs0'
          rw [← e0] at p'
          have k := first_det p p'
          have k' := first_det p' p
          rcases a with ⟨⟨x, e⟩, z⟩ | ⟨⟨m, q, e⟩, z⟩ | ⟨⟨x, e⟩, z⟩ <;> rcases a' with ⟨⟨x', e'⟩, z'⟩ | ⟨⟨m', q', e'⟩, z'⟩ | ⟨⟨x', e'⟩, z'⟩ <;> have y := z 0 h0 <;> have y' := z' 0 h0
          · omega
          · exact absurd e' ((k.1 _ e).1 _ _)
          · exact absurd e' ((k.1 _ e).2 _)
          · exact absurd e ((k'.1 _ e').1 _ _)
          · omega
          · exact absurd e (k'.2 _ e' _ _)
          · exact absurd e ((k'.1 _ e').2 _)
          · exact absurd e' (k.2 _ e _ _)
          · omega
        subst es
        have eg : ∀ i j, i < n → j < size → g i j = g' i j := fun i j hi hj => Option.some.inj (((hc i hi).2 j hj).symm.trans ((hc' i hi).2 j hj))
        cases hv with
        | nil => exact absurd rfl hz
        | row _ _ b2 off2 cap2 size2 g2 hk2 hF2 hc2 hd2 =>
          have e2 : size2 = size := by rw [← (hc2 0 h0).1, ← (hc 0 h0).1]
          subst e2
          exact .row n f' b2 off2 cap2 size2 g2 hk2 hF2 (fun i hi => ⟨(hc' i hi).1, (hc2 i hi).2⟩) fun i j hi hj =>
            ih i j hi hj (t.part hi (by rw [(hc i hi).1]; exact hj)) (t'.part hi (by rw [(hc' i hi).1]; exact hj)) (by rw [eg i j hi hj]; exact hd' i j hi hj) (hd2 i j hi hj)
  | ptr => intro d' t; cases t
/-- one cell is written over -/
theorem den_over {w w' : World} {G G' : Nat → Prop} {cb co : Nat} {u u' : Value} {d0 : Dyn.DC} (t0 : TyD d0) (h0 : Dyn.DenC w G d0 u) (h1 : Dyn.DenC w' G' d0 u') (hc : w.cell? ⟨cb, co, none⟩ = some u) (hc' : w'.cell? ⟨cb, co, none⟩ = some u')
    (hs : ∀ b i, G b → (b ≠ cb ∨ i ≠ co) → w'.cell? ⟨b, i, none⟩ = w.cell? ⟨b, i, none⟩) (hG : ∀ b, G b → G' b) {d : Dyn.DC} {v : Value} (h : Dyn.DenC w G d v) : TyD d → Dyn.DenC w' G' d v := by
  induction h with
  | p x hx => exact fun _ => .p x hx
  | nil f oa cap => exact fun _ => .nil f oa cap
  | row n f b off cap size g hk hF hcl hd ih =>
    intro t
    refine .row n f b off cap size (fun i j => if b = cb ∧ off + i * size + j = co then u' else g i j) hk (hG b hF) (fun i hi => ⟨(hcl i hi).1, fun j hj => ?_⟩) fun i j hi hj => ?_
    · by_cases e : b = cb ∧ off + i * size + j = co
      · rw [if_pos e, e.1, e.2]; exact hc'
      · rw [if_neg e, hs b _ hF (by omega)]; exact (hcl i hi).2 j hj
    · have tp := t.part hi (j := j) (by rw [(hcl i hi).1]; exact hj)
      by_cases e : b = cb ∧ off + i * size + j = co
      · rw [if_pos e]
        have q := (hcl i hi).2 j hj
        rw [e.1, e.2, hc] at q
        have q' := Option.some.inj q
        have dd := hd i j hi hj
        rw [← q'] at dd
        exact den_det h0 t0 tp dd h1
      · rw [if_neg e]; exact ih i j hi hj tp
  | ptr => intro t; cases t
/-! ### the value that is written does not run through the cell -/
inductive Rk : Dyn.DC → Nat → Prop where
  | i (x : Int) : Rk (.p (vi x)) 0
  | b (x : Bool) : Rk (.p (vb x)) 0
  | pts (m : Nat) (p : Nat → P2) : Rk (cRow m p) 1
  | ctr (l : Ctr) : Rk (cCtr l) 2
  | prt (s : Shp) : ShB s → Rk (dPt s) (3 + cntS s)
theorem Rk.ty {d : Dyn.DC} {r : Nat} (h : Rk d r) : TyD d := by
  cases h with
  | i x => exact .i x
  | b x => exact .b x
  | pts m p => exact .pts m p
  | ctr l => exact .ctr l
  | prt s hs => exact .prt s hs
theorem Rk.part {n : Nat} {f : Nat → List Dyn.DC} {r : Nat} (h : Rk (.row n f) r) {i j : Nat} (hi : i < n) (hj : j < (f i).length) : ∃ q, q < r ∧ Rk ((f i).getD j default) q := by
  generalize hd : Dyn.DC.row n f = d at h
  cases h with
  | i x => cases hd
  | b x => cases hd
  | pts m p =>
    cases hd
    have : j = 0 ∨ j = 1 := by have : j < 2 := hj; omega
    rcases this with rfl | rfl
    · exact ⟨0, by omega, .i _⟩
    · exact ⟨0, by omega, .i _⟩
  | ctr l =>
    cases hd
    obtain rfl : j = 0 := by have : j < 1 := hj; omega
    exact ⟨1, by omega, .pts _ _⟩
  | prt s hs =>
    cases s with
    | nil => exact hs.elim
    | mk k a b c r l n add sub =>
      cases hd
      have hB := hs.2.2 i hi
      have hc : 1 + cntS (sub i) ≤ sumC (fun i => 1 + cntS (sub i)) n := sumC_le (f := fun i => 1 + cntS (sub i)) hi
      have e : cntS (.mk k a b c r l n add sub) = sumC (fun i => 1 + cntS (sub i)) n := rfl
      have : j = 0 ∨ j = 1 ∨ j = 2 ∨ j = 3 ∨ j = 4 ∨ j = 5 ∨ j = 6 ∨ j = 7 ∨ j = 8 ∨ j = 9 ∨ j = 10 := by have : j < 11 := hj; omega
      rcases this with rfl | rfl | rfl | rfl | rfl | rfl | rfl | rfl | rfl | rfl | rfl
      · exact ⟨0, by omega, .b _⟩
      · exact ⟨0, by omega, .i _⟩
      · exact ⟨0, by omega, .i _⟩
      · exact ⟨0, by omega, .i _⟩
      · exact ⟨0, by omega, .i _⟩
      · exact ⟨0, by omega, .i _⟩
      · exact ⟨0, by omega, .i _⟩
      · exact ⟨0, by omega, .i _⟩
      · exact ⟨0, by omega, .i _⟩
      · exact ⟨2, by omega, .ctr _⟩
      · exact ⟨3 + cntS (sub i), by omega, .prt _ hB⟩
/-- which of the three a row is -/
theorem Rk.kind {n : Nat} {f : Nat → List Dyn.DC} {r : Nat} (h : Rk (.row n f) r) (hn : 0 < n) : r = 1 ∧ (∃ x, (f 0).getD 0 default = .p (vi x)) ∧ 0 < (f 0).length ∨ r = 2 ∧ (∃ m p, (f 0).getD 0 default = cRow m p) ∧ 0 < (f 0).length ∨ (∃ s, ShB s ∧ Dyn.DC.row n f = dPt s ∧ r = 3 + cntS s) ∧ (∃ x, (f 0).getD 0 default = .p (vb x)) ∧ 0 < (f 0).length := by
  generalize hd : Dyn.DC.row n f = d at h
  cases h with
  | i x => cases hd
  | b x => cases hd
  | pts m p => cases hd; exact .inl ⟨rfl, ⟨_, rfl⟩, Nat.zero_lt_succ _⟩
  | ctr l => cases hd; exact .inr (.inl ⟨rfl, ⟨_, _, rfl⟩, Nat.zero_lt_succ _⟩)
  | prt s hs =>
    refine .inr (.inr ⟨⟨s, hs, rfl, rfl⟩, ?_⟩)
    cases s with
    | nil => exact hs.elim
    | mk k a b c r l n add sub => cases hd; exact ⟨⟨_, rfl⟩, Nat.zero_lt_succ _⟩
theorem rk_det {w : World} {F : Nat → Prop} {n n' : Nat} {f f' : Nat → List Dyn.DC} {u : Value} {r r' : Nat} (k : Rk (.row n f) r) (k' : Rk (.row n' f') r') (h : Dyn.DenC w F (.row n f) u) (h' : Dyn.DenC w F (.row n' f') u) : n = n' ∧ (0 < n → r = r') := by
  obtain ⟨oa, cap, rfl⟩ := den_row h
  obtain ⟨oa', cap', e⟩ := den_row h'
  cases e
  refine ⟨rfl, fun hn => ?_⟩
  have a := k.kind hn
  have a' := k'.kind hn
  have hl : 0 < (f 0).length := by rcases a with ⟨_, _, a⟩ | ⟨_, _, a⟩ | ⟨_, _, a⟩ <;> exact a
  have hl' : 0 < (f' 0).length := by rcases a' with ⟨_, _, a⟩ | ⟨_, _, a⟩ | ⟨_, _, a⟩ <;> exact a
  have hh := h
  have hh' := h'
  cases h with
  | nil => exact absurd hn (Nat.lt_irrefl 0)
  | row _ _ b off _ size g hk hF hc hd =>
    cases h' with
    | nil => exact absurd hn (Nat.lt_irrefl 0)
    | row _ _ _ _ _ size' g' hk' hF' hc' hd' =>
      have l := (hc 0 hn).1
      have l' := (hc' 0 hn).1
      have q := (hc 0 hn).2 0 (by omega)
      have q' := (hc' 0 hn).2 0 (by omega)
      rw [Nat.zero_mul] at q q'
      have e0 := Option.some.inj (q.symm.trans q')
      have p := hd 0 0 hn (by omega)
      have p' := hd' 0 0 hn (by omega)
      rw [← e0] at p'
      have z := first_det p p'
      have z' := first_det p' p
      rcases a with ⟨rfl, ⟨x, e⟩, _⟩ | ⟨rfl, ⟨m, y, e⟩, _⟩ | ⟨⟨s, hs, es, rfl⟩, ⟨x, e⟩, _⟩ <;> rcases a' with ⟨rfl, ⟨x', e'⟩, _⟩ | ⟨rfl, ⟨m', y', e'⟩, _⟩ | ⟨⟨s', hs', es', rfl⟩, ⟨x', e'⟩, _⟩
      · rfl
      · exact absurd e' ((z.1 _ e).1 _ _)
      · exact absurd e' ((z.1 _ e).2 _)
      · exact absurd e ((z'.1 _ e').1 _ _)
      · rfl
      · exact absurd e (z'.2 _ e' _ _)
      · exact absurd e ((z'.1 _ e').2 _)
      · exact absurd e' (z.2 _ e _ _)
      · rw [es] at hh
        rw [es'] at hh'
        obtain ⟨oa1, cap1, q1, q2⟩ := den_PC s hs hh
        obtain ⟨oa2, cap2, q3, q4⟩ := den_PC s' hs' hh'
        have en : (toSh s).n = (toSh s').n := by
          have a1 := congrArg (fun d => match d with | Dyn.DC.row n _ => n | _ => 0) es
          have a2 := congrArg (fun d => match d with | Dyn.DC.row n _ => n | _ => 0) es'
          exact a1.symm.trans a2
        rw [q1] at q3
        simp only [Value.slice.injEq] at q3
        rw [← q3.1, ← en] at q4
        rw [q2.det q4]
theorem den_self {w : World} {G : Nat → Prop} {cb co : Nat} {u u' : Value} {n0 : Nat} {f0 : Nat → List Dyn.DC} {r0 : Nat} (k0 : Rk (.row n0 f0) r0) (hc : w.cell? ⟨cb, co, none⟩ = some u) (h0 : Dyn.DenC w G (.row n0 f0) u) (h1 : Dyn.DenC w G (.row n0 f0) u') {w' : World} (hc' : w'.cell? ⟨cb, co, none⟩ = some u')
    (hs : ∀ b i, G b → (b ≠ cb ∨ i ≠ co) → w'.cell? ⟨b, i, none⟩ = w.cell? ⟨b, i, none⟩) : Dyn.DenC w' G (.row n0 f0) u' := by
  have key : ∀ {d : Dyn.DC} {v : Value}, Dyn.DenC w G d v → ∀ r, Rk d r → r ≤ r0 → Dyn.DenC w' G d v := by
    intro d v h
    induction h with
    | p x hx => exact fun _ _ _ => .p x hx
    | nil f oa cap => exact fun _ _ _ => .nil f oa cap
    | row n f b off cap size g hk hF hcl hd ih =>
      intro r k hr
      refine .row n f b off cap size (fun i j => if b = cb ∧ off + i * size + j = co then u' else g i j) hk hF (fun i hi => ⟨(hcl i hi).1, fun j hj => ?_⟩) fun i j hi hj => ?_
      · by_cases e : b = cb ∧ off + i * size + j = co
        · rw [if_pos e, e.1, e.2]; exact hc'
        · rw [if_neg e, hs b _ hF (by omega)]; exact (hcl i hi).2 j hj
      · obtain ⟨q, hq, kq⟩ := k.part hi (j := j) (by rw [(hcl i hi).1]; exact hj)
        by_cases e : b = cb ∧ off + i * size + j = co
        · rw [if_pos e]
          have z := (hcl i hi).2 j hj
          rw [e.1, e.2, hc] at z
          have z' := Option.some.inj z
          have dd := hd i j hi hj
          rw [← z'] at dd
          obtain ⟨oa, cap, eu⟩ := den_row h0
          generalize (f i).getD j default = de at dd kq
          cases de with
          | p x => exact absurd (den_p dd).symm (kq.ty.noSl _ _ _ <| eu ▸ ·)
          | ptr => cases kq
          | row m fm =>
            have y := rk_det kq k0 dd h0
            by_cases hm : 0 < m
            · have := y.2 hm; omega
            · have m0 : m = 0 := by omega
              subst m0
              have y0 := y.1
              subst y0
              obtain ⟨oa', cap', eu'⟩ := den_row h1
              rw [eu']; exact .nil _ _ _
        · rw [if_neg e]; exact ih i j hi hj q kq (by omega)
    | ptr => intro r k; cases k
  exact key h1 r0 k0 (Nat.le_refl _)
end Go.Proofs.Ytfooaikpcbnchaa

/-! ## Cqb -/
namespace Go.Proofs.Ytfooaikpcbnchaa
open Go Go.RowKit Sym
set_option maxRecDepth 100000

def tabCt : Dyn.Tabs := Dyn.tabs tbF [] noD dtyS
theorem tabCt_ok : Dyn.TabsOk Try.prog tabCt := Dyn.tabs_ok tbF_ok fun _ h => by cases h
def ctrF (l : Ctr) (i : Nat) : List Dyn.DC := [.row (0 + l.m i) (Dyn.appF 0 (fun _ => []) fun k => cP (l.p i k))]
def ctrZ : List Dyn.DC := [.row 0 fun _ => []]
def ctrS (l : Ctr) (i : Int) (f : Nat → List Dyn.DC) : Dyn.St := mkS 26 [(3, sH 1 0 l.n), (12, sH 0 0 l.n), (13, sI l.n), (14, sI i)] [some (.deep [cCtr l]), some (.own 78 l.n f)]
def ctrK : List Nat := [3, 12, 13, 14]
def ctrLp (l : Ctr) : Dyn.Lp := fun id st => match id with
  | 0 => some (.side [keepA 26 [0] [3] ctrK (2 ^ 14) st = ctrS l 0 (fil (ctrF l) ctrZ 0)] (.leaf .normal (ctrS l (l.n : Nat) (ctrF l))))
  | _ => none
theorem ctr_blocks : blocksL (bodyD Try.f75.body) = [(0, .loop (unloopD (blkD Try.f75.body 0))), (1, blkD Try.f75.body 1)] := by kernel_rfl
theorem ctr_b0 : blocksL (unloopD (blkD Try.f75.body 0)) = [(1, blkD Try.f75.body 1)] := by kernel_rfl
def szA (b n : Nat) : Prop := (n : Int) * (b : Int) ≤ 140737488355328 ∧ (n : Int) ≤ 9223372036854775807
theorem szA_ok {b n : Nat} (hb : b ≤ 1000) (hn : n ≤ 1000000000) : szA b n := by
  refine ⟨?_, by omega⟩
  have : n * b ≤ 1000000000 * 1000 := Nat.mul_le_mul hn hb
  have h2 : (n : Int) * (b : Int) = ((n * b : Nat) : Int) := by rw [Int.natCast_mul]
  rw [h2]; omega
def ctrB (l : Ctr) (i : Nat) : Dyn.Out :=
  .ite (decide ((i : Int) < l.n)) (.side [0 ≤ (i : Int) ∧ (i : Int) < l.n] (.side [szA 16 (0 + l.m i), 0 ≤ (i : Int) ∧ (i : Int) < l.n] (.leaf .normal (ctrS l (W (i + 1)) (Dyn.updF (fil (ctrF l) ctrZ i) i 0 (ctrF l i)))))) (.leaf (.exit 0) (ctrS l i (fil (ctrF l) ctrZ i)))
theorem ctr_B (l : Ctr) (i : Nat) : (Dyn.lexec Try.prog tabCt (ctrLp l) 3 (unloopD (blkD Try.f75.body 0)) .leaf (ctrS l i (fil (ctrF l) ctrZ i))).rl (fun _ s => keepA 26 [0] [3] ctrK 0 s) = ctrB l i := by kernel_rfl
theorem ctr_loop (l : Ctr) (hl : CtrB l) (w0 : Dyn.Base Try.prog) (st : Dyn.St) (o : Dyn.Out) (h : ctrLp l 0 st = some o) : Dyn.BlockSound Try.prog w0 0 (.loop (unloopD (blkD Try.f75.body 0))) st o := by
  simp only [ctrLp, Option.some.injEq] at h
  subst h
  refine side_one fun hS => ?_
  refine leaf_fits (s1 := ctrS l (l.n : Nat) (fil (ctrF l) ctrZ l.n)) (fold_block (fuel := 3) tabCt_ok mo (lp := ctrLp l) (by rw [ctr_b0]; exact lpOk_cons (fun s o h => by cases h) lpOk_nil) (fun i (_ : Unit) => ctrS l i (fil (ctrF l) ctrZ i)) l.n (fun _ _ => ()) () (fun _ s => keepA 26 [0] [3] ctrK 0 s) (fun _ s => keepA_ent 26 _ _ _ 0 s) (fun i _ => ctrB l i) (fun i _ => ctr_B l i) (fun i hi => ?_) ?_ (hS ▸ keepA_ent 26 _ _ _ _ st)) ?_
  · have hb : 0 ≤ (i : Int) ∧ (i : Int) < l.n := ⟨by omega, by omega⟩
    refine ⟨fun _ => ⟨⟨hb, trivial⟩, ⟨szA_ok (by decide) (by have := hl.2 i hi; omega), hb, trivial⟩, rfl, ?_⟩, fun hf => ?_⟩
    · rw [Wn1 hi hl.1]
      exact ⟨rfl, Dyn.HeLe.refl _, le_upd (fun _ => rfl) rfl, trivial⟩
    · rw [decide_eq_false_iff_not] at hf; omega
  · refine ⟨fun ht => ?_, fun _ => ⟨rfl, Dyn.Fits.refl _⟩⟩
    rw [decide_eq_true_eq] at ht; omega
  · exact ⟨rfl, Dyn.HeLe.refl _, ⟨rfl, rfl, fun j hj => fil_in rfl hj⟩, trivial⟩
def ctrO (l : Ctr) : Dyn.RO := .ite ((l.n : Int) == 0) (.leaf (.val (.one (.row 0 fun _ => [])))) (.side [szM 24 l.n] (.side [ctrS l 0 (fil (ctrF l) ctrZ 0) = ctrS l 0 (fil (ctrF l) ctrZ 0)] (.leaf (.val (.one (.row l.n (ctrF l)))))))
theorem ctr_O (l : Ctr) : (Dyn.dfun Try.prog tabCt (ctrLp l) 3 Try.f75 [dvC l]).ro Try.prog Try.f75.results = ctrO l := by kernel_rfl
theorem ctrF_eq (l : Ctr) (i : Nat) : ctrF l i = [cRow (l.m i) (l.p i)] := by
  unfold ctrF; rw [Nat.zero_add]; rfl
theorem pContours_ok (l : Ctr) (hl : CtrB l) : Dyn.CallD Try.prog 75 [dvC l] (.val (dvC l)) :=
  Dyn.dcontract (lp := ctrLp l) (fuel := 3) tabCt_ok mo Try.func75 (by kernel_rfl) (c := bodyD Try.f75.body) (by kernel_rfl)
    (fun w0 => by rw [ctr_blocks]; exact lpOk_cons (ctr_loop l hl w0) (lpOk_cons (fun s o h => by cases h) lpOk_nil))
    (by kernel_rfl) (ctr_O l) (by
      refine ⟨fun h => ?_, fun h => ⟨⟨szM_ok (by decide) hl.1, trivial⟩, ⟨rfl, trivial⟩, rfl, fun i _ => ctrF_eq l i⟩⟩
      have e : l.n = 0 := by have e : (l.n : Int) = 0 := by simpa using h
                             omega
      exact ⟨e.symm, fun i hi => absurd hi (Nat.not_lt_zero i)⟩)
end Go.Proofs.Ytfooaikpcbnchaa
