/-
  OWN WORK. Rings that are moved, turned, mirrored: plain laws.
-/
import Derived.Test.YtidgkcefjfdcbaaRio
namespace Go.Proofs.Ytidgkcefjfdcbaa
open Go Go.RowKit Sym

structure Iso (T : P2 → P2) : Prop where
  d : ∀ p q, distI (T p) (T q) = distI p q
  s : ∀ p q, same (T p) (T q) ↔ same p q
structure IsoB (T : P2 → P2) (b b' : B4) : Prop where
  n : ∀ q, nearI b' (T q) = nearI b q
  m : ∀ q, mostI b' (T q) = mostI b q
  f : ∀ f : P2 → Bool, all4 f b' = all4 (fun q => f (T q)) b
theorem ringI_iso {T : P2 → P2} (h : Iso T) (hc : ∀ o a b, crossI (T o) (T a) (T b) = crossI o a b) (p c a e : P2) (r : Int) : ringI (T p) (T c) (T a) (T e) r = ringI p c a e r := by
  unfold ringI sectI
  simp only [h.d, hc, h.s]
theorem ringCl_iso {T : P2 → P2} {b b' : B4} (h : Iso T) (hb : IsoB T b b') (hc : ∀ o a b, crossI (T o) (T a) (T b) = crossI o a b) (c a e : P2) (r : Int) : ringCl b' (T c) (T a) (T e) r = ringCl b c a e r := by
  unfold ringCl liIn liOff
  simp only [h.d, hc, h.s, hb.n, hb.m, hb.f]
theorem ringI_mir {T : P2 → P2} (h : Iso T) (hc : ∀ o a b, crossI (T o) (T a) (T b) = crossI o b a) {p c a e : P2} {r : Int} (ok : distI a c = distI e c) : ringI (T p) (T c) (T e) (T a) r = ringI p c a e r := by
  unfold ringI sectI
  simp only [h.d, hc, h.s]
  rw [show decide (same e a) = decide (same a e) from decide_eq_decide.2 ⟨fun k => by unfold same at *; omega, fun k => by unfold same at *; omega⟩, ← ok, Bool.or_comm (decide (distI p e ≤ r * r)), Bool.or_comm (decide (crossI c p e ≥ 0)), Bool.and_comm (decide (crossI c p e ≥ 0))]
theorem ringCl_mir {T : P2 → P2} {b b' : B4} (h : Iso T) (hb : IsoB T b b') (hc : ∀ o a b, crossI (T o) (T a) (T b) = crossI o b a) {c a e : P2} {r : Int} (ok : distI a c = distI e c) : ringCl b' (T c) (T e) (T a) r = ringCl b c a e r := by
  unfold ringCl liIn liOff
  simp only [h.d, hc, h.s, hb.n, hb.m, hb.f]
  rw [show decide (same e a) = decide (same a e) from decide_eq_decide.2 ⟨fun k => by unfold same at *; omega, fun k => by unfold same at *; omega⟩, ← ok, Bool.or_comm (all4 (fun q => decide (crossI c q e ≥ 0)) b), Bool.and_comm (all4 (fun q => decide (crossI c q e ≥ 0)) b), Bool.or_comm (all4 (fun q => decide (crossI c q e < 0)) b), Bool.and_comm (all4 (fun q => decide (crossI c q e < 0)) b)]
  simp only [or_comm (a := mostI b e ≤ r * r), or_comm (a := nearI b e ≤ r * r)]
def trP (u : P2) (p : P2) : P2 := ⟨p.x + u.x, p.y + u.y⟩
def roP (p : P2) : P2 := ⟨-p.y, p.x⟩
def mjP (p : P2) : P2 := ⟨-p.x, p.y⟩
def trB (u : P2) (b : B4) : B4 := ⟨b.x0 + u.x, b.y0 + u.y, b.x1 + u.x, b.y1 + u.y⟩
def roB (b : B4) : B4 := ⟨-b.y1, b.x0, -b.y0, b.x1⟩
def mjB (b : B4) : B4 := ⟨-b.x1, b.y0, -b.x0, b.y1⟩
theorem trP_iso (u : P2) : Iso (trP u) := ⟨fun p q => by unfold distI trP; dsimp only; grind, fun p q => by unfold same trP; dsimp only; omega⟩
theorem roP_iso : Iso roP := ⟨fun p q => by unfold distI roP; dsimp only; grind, fun p q => by unfold same roP; dsimp only; omega⟩
theorem mjP_iso : Iso mjP := ⟨fun p q => by unfold distI mjP; dsimp only; grind, fun p q => by unfold same mjP; dsimp only; omega⟩
theorem trP_cross (u o a b : P2) : crossI (trP u o) (trP u a) (trP u b) = crossI o a b := by unfold crossI trP; dsimp only; grind
theorem roP_cross (o a b : P2) : crossI (roP o) (roP a) (roP b) = crossI o a b := by unfold crossI roP; dsimp only; grind
theorem mjP_cross (o a b : P2) : crossI (mjP o) (mjP a) (mjP b) = crossI o b a := by unfold crossI mjP; dsimp only; grind
theorem gap_tr (v u lo hi : Int) : gapI (v + u) (lo + u) (hi + u) = gapI v lo hi := by unfold gapI; split <;> split <;> (try split) <;> (try split) <;> omega
theorem gap_neg {v lo hi : Int} (h : lo ≤ hi) : gapI (-v) (-hi) (-lo) = gapI v lo hi := by unfold gapI; split <;> split <;> (try split) <;> (try split) <;> omega
theorem reach_tr (v u lo hi : Int) : reachI (v + u) (lo + u) (hi + u) = reachI v lo hi := by unfold reachI; omega
theorem reach_neg (v lo hi : Int) : reachI (-v) (-hi) (-lo) = reachI v lo hi := by unfold reachI; omega
theorem trB_iso (u : P2) (b : B4) : IsoB (trP u) b (trB u b) :=
  ⟨fun q => by unfold nearI trP trB; dsimp only; rw [gap_tr, gap_tr], fun q => by unfold mostI trP trB; dsimp only; rw [reach_tr, reach_tr], fun f => rfl⟩
theorem roB_iso {b : B4} (h : b.y0 ≤ b.y1) : IsoB roP b (roB b) :=
  ⟨fun q => by unfold nearI roP roB; dsimp only; rw [gap_neg h, Int.add_comm], fun q => by unfold mostI roP roB; dsimp only; rw [reach_neg, Int.add_comm], fun f => by
    unfold all4 roB roP; dsimp only
    cases f ⟨-b.y0, b.x0⟩ <;> cases f ⟨-b.y0, b.x1⟩ <;> cases f ⟨-b.y1, b.x0⟩ <;> cases f ⟨-b.y1, b.x1⟩ <;> rfl⟩
theorem mjB_iso {b : B4} (h : b.x0 ≤ b.x1) : IsoB mjP b (mjB b) :=
  ⟨fun q => by unfold nearI mjP mjB; dsimp only; rw [gap_neg h], fun q => by unfold mostI mjP mjB; dsimp only; rw [reach_neg], fun f => by
    unfold all4 mjB mjP; dsimp only
    cases f ⟨-b.x0, b.y0⟩ <;> cases f ⟨-b.x0, b.y1⟩ <;> cases f ⟨-b.x1, b.y0⟩ <;> cases f ⟨-b.x1, b.y1⟩ <;> rfl⟩
/-! ### wider rings -/
theorem sq_le_sq {x y : Int} (h0 : 0 ≤ x) (h : x ≤ y) : x * x ≤ y * y := by
  have a := Int.mul_nonneg (show 0 ≤ y - x by omega) (show 0 ≤ y + x by omega)
  have e : (y - x) * (y + x) = y * y - x * x := by grind
  omega
theorem form_mono {L L' d s s' : Int} (h0 : 0 ≤ d) (hs : s ≤ s') (hL : L' ≤ L) (h : L ≤ 0 ∨ L * L ≤ 4 * d * s) : L' ≤ 0 ∨ L' * L' ≤ 4 * d * s' := by
  rcases Int.le_total L' 0 with k | k
  · exact .inl k
  · rcases h with h | h
    · exact .inl (by omega)
    · right
      have a := Int.mul_nonneg (show 0 ≤ 4 * d by omega) (show 0 ≤ s' - s by omega)
      have e : 4 * d * (s' - s) = 4 * d * s' - 4 * d * s := by grind
      have q := sq_le_sq k hL
      omega
theorem outI_wide {d rr r r' : Int} (h0 : 0 ≤ d) (h1 : 0 ≤ r) (h2 : r ≤ r') (h : outI d rr r = true) : outI d rr r' = true := by
  unfold outI at *
  rw [decide_eq_true_eq] at *
  have q := sq_le_sq h1 h2
  exact form_mono h0 q (by omega) h
theorem insI_wide {d rr r r' : Int} (h0 : 0 ≤ rr) (h1 : 0 ≤ r) (h2 : r ≤ r') (h : insI d rr r = true) : insI d rr r' = true := by
  unfold insI at *
  rw [decide_eq_true_eq] at *
  have q := sq_le_sq h1 h2
  exact form_mono h0 q (by omega) h
theorem ringI_wide {p c a e : P2} {r r' : Int} (h1 : 0 ≤ r) (h2 : r ≤ r') (h : ringI p c a e r = true) : ringI p c a e r' = true := by
  unfold ringI at *
  simp only [Bool.or_eq_true, Bool.and_eq_true, decide_eq_true_eq] at *
  have q := sq_le_sq h1 h2
  rcases h with (h | h) | ⟨⟨h3, h4⟩, h5⟩
  · exact .inl (.inl (by omega))
  · exact .inl (.inr (by omega))
  · exact .inr ⟨⟨h3, outI_wide (dist_nn _ _) h1 h2 h4⟩, insI_wide (dist_nn _ _) h1 h2 h5⟩
end Go.Proofs.Ytidgkcefjfdcbaa
