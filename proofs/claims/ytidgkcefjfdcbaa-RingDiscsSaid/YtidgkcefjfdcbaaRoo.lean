/-
  OWN WORK. The contract of Root: a search by halves.
-/
import Derived.Test.YtidgkcefjfdcbaaSymM
import Derived.Test.YtidgkcefjfdcbaaRio
namespace Go.Proofs.Ytidgkcefjfdcbaa
open Go Go.RowKit Sym

/-- the least number from lo to hi whose square is not below n -/
def rootF (n lo hi : Int) : Int :=
  if h : lo < hi then (if (lo + hi) / 2 * ((lo + hi) / 2) ≥ n then rootF n lo ((lo + hi) / 2) else rootF n ((lo + hi) / 2 + 1) hi) else lo
termination_by (hi - lo).toNat
decreasing_by all_goals omega
def intOf : SV → Int
  | .v (.int _ x) => x
  | .k (.int _ x) => x
  | _ => 0
def rootS (n lo hi : Int) : St := { slots := [.v (vi n), .junk, .k (vi 0), .v (vi lo), .v (vi hi)] ++ List.replicate 17 .junk, heap := [] }
def rootJ : Nat := 4194272
def rootV : Nat := 24
def rootLp : Lp := fun id s => match id with
  | 0 =>
    let n := intOf (s.slots.getD 0 .junk)
    let lo := intOf (s.slots.getD 3 .junk)
    let hi := intOf (s.slots.getD 4 .junk)
    some (.side [rootS n lo hi = weak rootJ rootV s, 0 ≤ lo ∧ lo ≤ hi ∧ hi ≤ 2147483648] (.leaf .normal (rootS n (rootF n lo hi) (rootF n lo hi))))
  | _ => none
def rootM (lo hi : Int) : Int := W ((W (lo + hi)).tdiv 2)
def rootB (n : Int) (x : P2) : Out :=
  let m := rootM x.x x.y
  let c := decide (W (m * m) ≥ n)
  .ite (decide (x.x < x.y)) (.leaf .normal (rootS n (bif c then x.x else W (m + 1)) (bif c then m else x.y))) (.leaf (.exit 0) (rootS n x.x x.y))
def blk (c : Option Code) (i : Nat) : Code := match c with
  | some c => ((blocksL c).getD i (0, .skip)).2
  | none => .skip
def bodyOf : Option Code → Code
  | some c => c
  | none => .skip
def unloop : Code → Code
  | .loop c => c
  | c => c
theorem rootS_noG (n lo hi : Int) : NoG (rootS n lo hi) := by
  intro s hs
  simp only [rootS, List.mem_append, List.mem_cons, List.mem_replicate, List.not_mem_nil, or_false] at hs
  rcases hs with (rfl | rfl | rfl | rfl | rfl) | ⟨_, rfl⟩ <;> rfl
theorem root_blocks : blocksL (bodyOf Try.f42.body) = [(0, .loop (unloop (blk Try.f42.body 0))), (1, blk Try.f42.body 1)] := by kernel_rfl
theorem root_inner : blocksL (unloop (blk Try.f42.body 0)) = [(1, blk Try.f42.body 1)] := by kernel_rfl
theorem root_lp (w0 : World) : LpOk Try.prog w0 rootLp (blocksL (bodyOf Try.f42.body)) := by
  rw [root_blocks]
  have h1 : ∀ s o, rootLp 1 s = some o → BlockSound Try.prog w0 1 (blk Try.f42.body 1) s o := fun s o h => by cases h
  have hl : LpOk Try.prog w0 rootLp (blocksL (unloop (blk Try.f42.body 0))) := by
    rw [root_inner]; intro p hp; rw [List.mem_singleton] at hp; subst hp; exact h1
  intro p hp
  simp only [List.mem_cons, List.not_mem_nil, or_false] at hp
  rcases hp with rfl | rfl
  · intro s o h Q a w β m ng ho
    simp only [rootLp, Option.some.injEq] at h
    subst h
    obtain ⟨⟨hS, hr, -⟩, -⟩ := id ho
    revert ho hS hr
    generalize intOf (s.slots.getD 0 .junk) = n
    generalize intOf (s.slots.getD 3 .junk) = lo0
    generalize intOf (s.slots.getD 4 .junk) = hi0
    intro ho hS hr
    refine block_loop' (fuel := 16) (tbOf_ok (es := []) (fun _ h => by cases h)) mo hl (fun x : P2 => rootS n x.x x.y) (fun x => (0 ≤ x.x ∧ x.x ≤ x.y ∧ x.y ≤ 2147483648) ∧ rootF n x.x x.y = rootF n lo0 hi0) (fun x => (x.y - x.x).toNat)
      (fun e s => e = .exit 0 ∧ s = rootS n (rootF n lo0 hi0) (rootF n lo0 hi0)) (fun x => rootS_noG n x.x x.y) rootJ rootV (rootB n) (fun x _ => by kernel_rfl) ?_ (x0 := ⟨lo0, hi0⟩) ⟨hr, rfl⟩ hS ?_ Q a w β m ng ho
    · rintro ⟨lo, hi⟩ ⟨⟨i1, i2, i3⟩, i4⟩
      dsimp only at i1 i2 i3 i4
      have hm : rootM lo hi = (lo + hi) / 2 := by
        unfold rootM
        rw [W_id (x := lo + hi) (by omega) (by omega), Int.tdiv_eq_ediv_of_nonneg (by omega), W_id (by omega) (by omega)]
      have hq := sq_bd (A := 2147483648) (x := (lo + hi) / 2) (by omega) (by omega)
      unfold rootB
      dsimp only
      rw [hm, W_id (x := (lo + hi) / 2 * ((lo + hi) / 2)) (by omega) (by omega), W_id (x := (lo + hi) / 2 + 1) (by omega) (by omega)]
      refine ⟨fun hlt => ?_, fun hge => ?_⟩
      · rw [decide_eq_true_eq] at hlt
        rw [rootF, dif_pos hlt] at i4
        by_cases k : (lo + hi) / 2 * ((lo + hi) / 2) ≥ n
        · rw [if_pos k] at i4
          rw [decide_eq_true k]
          exact ⟨⟨lo, (lo + hi) / 2⟩, ⟨⟨i1, by dsimp only; omega, by dsimp only; omega⟩, i4⟩, by dsimp only; omega, rfl⟩
        · rw [if_neg k] at i4
          rw [decide_eq_false k]
          exact ⟨⟨(lo + hi) / 2 + 1, hi⟩, ⟨⟨by dsimp only; omega, by dsimp only; omega, i3⟩, i4⟩, by dsimp only; omega, rfl⟩
      · rw [decide_eq_false_iff_not] at hge
        rw [rootF, dif_neg hge] at i4
        have : hi = lo := by omega
        subst this
        exact ⟨rfl, by rw [← i4]⟩
    · intro F hF e s hg
      obtain ⟨rfl, rfl⟩ := hg
      dsimp only
      rw [if_pos rfl]
      exact hF.2
  · exact h1
theorem root_ok (n : Int) : CallOk Try.prog 42 [vi n] (vi (rootF n 0 2147483648)) :=
  lfnOkS (lp := rootLp) (fuel := 16) (tbOf_ok (es := []) (fun _ h => by cases h)) mo Try.func42 (by kernel_rfl) (c := bodyOf Try.f42.body) (by kernel_rfl) root_lp (by kernel_rfl)
    (show _ = [rootS n 0 2147483648 = rootS n 0 2147483648, (0 : Int) ≤ 0 ∧ (0 : Int) ≤ 2147483648 ∧ (2147483648 : Int) ≤ 2147483648] by kernel_rfl) ⟨rfl, by decide, trivial⟩
end Go.Proofs.Ytidgkcefjfdcbaa
