/-
  OWN WORK. Contracts that ask something (a divisor, an index), and the closed ones.
-/
import Derived.Test.YtgdjfclpncpnpaaCon
namespace Go.Proofs.Ytgdjfclpncpnpaa
open Go Go.RowKit Sym

theorem close_ok (a : P2) (n : Int) (h : W (n + 1) ≠ 0) : CallOk Try.prog 22 [pt a, vi n] (pt (lClose a n)) :=
  fnOkS (fuel := 8) (tbOf_ok tb5_ok) mo Try.func22 (by kernel_rfl) (by kernel_rfl) (by kernel_rfl) (show _ = [W (n + 1) ≠ 0, W (n + 1) ≠ 0] by kernel_rfl) ⟨h, h, trivial⟩
theorem in_ok (b : B4) (x y : Int) (h : lInOk b) : CallOk Try.prog 25 [bx b, vi x, vi y] (pt (lIn b x y)) :=
  fnOkS (fuel := 8) (tbOf_ok tb5_ok) mo Try.func25 (by kernel_rfl) (by kernel_rfl) (by kernel_rfl) (show _ = [U (W (W (b.x1 - b.x0) + 1)) ≠ 0, U (W (W (b.y1 - b.y0) + 1)) ≠ 0] by kernel_rfl) ⟨h.1, h.2, trivial⟩
def spl (b : B4) (z v : Int) : Int :=
  bif !(boxOk b) then z else
  bif orB (orB (orB (W (b.x1 - b.x0) == 0) (W (b.y1 - b.y0) == 0)) ((W (b.x1 - b.x0)).tmod 2 != 0)) ((W (b.y1 - b.y0)).tmod 2 != 0) then z else v
def splOk (b : B4) : Bool :=
  bif !(boxOk b) then false else
  bif orB (orB (orB (W (b.x1 - b.x0) == 0) (W (b.y1 - b.y0) == 0)) ((W (b.x1 - b.x0)).tmod 2 != 0)) ((W (b.y1 - b.y0)).tmod 2 != 0) then false else true
def midX (b : B4) : Int := W (b.x0 + W ((W (b.x1 - b.x0)).tdiv 2))
def midY (b : B4) : Int := W (b.y0 + W ((W (b.y1 - b.y0)).tdiv 2))
def splits (b : B4) : Value := .agg ⟨[vi (spl b 0 b.x0), vi (spl b 0 b.y0), vi (spl b 0 (midX b)), vi (spl b 0 (midY b)), vi (spl b 0 (midX b)), vi (spl b 0 b.y0), vi (spl b 0 b.x1), vi (spl b 0 (midY b)),
  vi (spl b 0 b.x0), vi (spl b 0 (midY b)), vi (spl b 0 (midX b)), vi (spl b 0 b.y1), vi (spl b 0 (midX b)), vi (spl b 0 (midY b)), vi (spl b 0 b.x1), vi (spl b 0 b.y1)]⟩
theorem split_ok (b : B4) : CallOk Try.prog 32 [bx b] (.tuple ⟨[splits b, vb (splOk b)]⟩) :=
  fnOk (fuel := 8) (tbOf_ok tb5_ok) mo Try.func32 (by kernel_rfl) (by kernel_rfl) (by kernel_rfl) (by kernel_rfl)

/-- an index that is 0, 1 or 2 -/
def idx3 (i : Int) : Prop := 0 ≤ i ∧ i < ((3 : Nat) : Int)
theorem idx3_of {x : Int} (h : x = 0 ∨ x = 1 ∨ x = -1) : idx3 (W (x + 1)) := by
  rcases h with rfl | rfl | rfl <;> exact ⟨by decide, by decide⟩
theorem three (q q' : Bool) : (bif q then 0 else bif q' then 1 else -1 : Int) = 0 ∨ (bif q then 0 else bif q' then 1 else -1 : Int) = 1 ∨ (bif q then 0 else bif q' then 1 else -1 : Int) = -1 := by
  cases q <;> cases q' <;> simp
theorem three' (q q' : Bool) : (bif q then -1 else bif q' then 1 else 0 : Int) = 0 ∨ (bif q then -1 else bif q' then 1 else 0 : Int) = 1 ∨ (bif q then -1 else bif q' then 1 else 0 : Int) = -1 := by
  cases q <;> cases q' <;> simp
theorem past_01 (p a c : P2) : past p a c = 0 ∨ past p a c = 1 ∨ past p a c = -1 := three' _ _
theorem beside_01 (p a c : P2) (h : Int) : beside p a c h = 0 ∨ beside p a c h = 1 ∨ beside p a c h = -1 := three _ _
def barQ (b : B4) (a c : P2) (h i : Int) : Prop := barVoid a c h = false → ((!(boxHas b ⟨b.x0, b.y0⟩)) = false → idx3 (W (i + 1)))
theorem barClass_ok (b : B4) (a c : P2) (h : Int) : CallOk Try.prog 43 [bx b, pt a, pt c, vi h] (vi (barClass b a c h)) :=
  fnOkS (fuel := 16) (tbOf_ok tb5_ok) mo Try.func43 (by kernel_rfl) (by kernel_rfl) (by kernel_rfl)
    (show _ = [barQ b a c h (beside ⟨b.x0, b.y0⟩ a c h), barQ b a c h (beside ⟨b.x0, b.y0⟩ a c h), barQ b a c h (past ⟨b.x0, b.y0⟩ a c), barQ b a c h (past ⟨b.x0, b.y0⟩ a c),
      barQ b a c h (beside ⟨b.x1, b.y0⟩ a c h), barQ b a c h (beside ⟨b.x1, b.y0⟩ a c h), barQ b a c h (past ⟨b.x1, b.y0⟩ a c), barQ b a c h (past ⟨b.x1, b.y0⟩ a c),
      barQ b a c h (beside ⟨b.x0, b.y1⟩ a c h), barQ b a c h (beside ⟨b.x0, b.y1⟩ a c h), barQ b a c h (past ⟨b.x0, b.y1⟩ a c), barQ b a c h (past ⟨b.x0, b.y1⟩ a c),
      barQ b a c h (beside ⟨b.x1, b.y1⟩ a c h), barQ b a c h (beside ⟨b.x1, b.y1⟩ a c h), barQ b a c h (past ⟨b.x1, b.y1⟩ a c), barQ b a c h (past ⟨b.x1, b.y1⟩ a c)] by kernel_rfl)
    (by
      have hs : ∀ p, barQ b a c h (beside p a c h) := fun p _ _ => idx3_of (beside_01 p a c h)
      have hp : ∀ p, barQ b a c h (past p a c) := fun p _ _ => idx3_of (past_01 p a c)
      exact ⟨hs _, hs _, hp _, hp _, hs _, hs _, hp _, hp _, hs _, hs _, hp _, hp _, hs _, hs _, hp _, hp _, trivial⟩)

/-! ### the table of all of them -/
def tc0 : List Entry := (22, en2p dP dI (fun _ n => W (n + 1) ≠ 0) (fun a n => pt (lClose a n))) :: tb5
theorem tc0_ok : ∀ e ∈ tc0, EntryOk Try.prog e := List.forall_mem_cons.2 ⟨en2p_ok dP_eq dI_eq close_ok, tb5_ok⟩
def tc1 : List Entry := (25, en3p dBx dI dI (fun b _ _ => lInOk b) (fun b x y => pt (lIn b x y))) :: tc0
theorem tc1_ok : ∀ e ∈ tc1, EntryOk Try.prog e := List.forall_mem_cons.2 ⟨en3p_ok dBx_eq dI_eq dI_eq in_ok, tc0_ok⟩
def tc2 : List Entry := (32, en1 dBx (fun b => .tuple ⟨[splits b, vb (splOk b)]⟩)) :: tc1
theorem tc2_ok : ∀ e ∈ tc2, EntryOk Try.prog e := List.forall_mem_cons.2 ⟨en1_ok dBx_eq split_ok, tc1_ok⟩
def tc3 : List Entry := (43, en4 dBx dP dP dI (fun b p q h => vi (barClass b p q h))) :: tc2
theorem tc3_ok : ∀ e ∈ tc3, EntryOk Try.prog e := List.forall_mem_cons.2 ⟨en4_ok dBx_eq dP_eq dP_eq dI_eq barClass_ok, tc2_ok⟩
/-- all but the laws' own tests -/
def tbA : List Entry := tc3
theorem tbA_ok : ∀ e ∈ tbA, EntryOk Try.prog e := tc3_ok
theorem awake4_ok : CallOk Try.prog 29 [] (vb true) := fnOk (fuel := 16) (tbOf_ok tbA_ok) mo Try.func29 (by kernel_rfl) (by kernel_rfl) (by kernel_rfl) (by kernel_rfl)
theorem awake5_ok : CallOk Try.prog 19 [] (vb true) := fnOk (fuel := 16) (tbOf_ok tbA_ok) mo Try.func19 (by kernel_rfl) (by kernel_rfl) (by kernel_rfl) (by kernel_rfl)
theorem awake8_ok : CallOk Try.prog 44 [] (vb true) := fnOk (fuel := 16) (tbOf_ok tbA_ok) mo Try.func44 (by kernel_rfl) (by kernel_rfl) (by kernel_rfl) (by kernel_rfl)
def tbA4 : List Entry := (29, en0 (vb true)) :: tbA
theorem tbA4_ok : ∀ e ∈ tbA4, EntryOk Try.prog e := List.forall_mem_cons.2 ⟨en0_ok awake4_ok, tbA_ok⟩
def tbA5 : List Entry := (19, en0 (vb true)) :: tbA
theorem tbA5_ok : ∀ e ∈ tbA5, EntryOk Try.prog e := List.forall_mem_cons.2 ⟨en0_ok awake5_ok, tbA_ok⟩
def tbA8 : List Entry := (44, en0 (vb true)) :: tbA
theorem tbA8_ok : ∀ e ∈ tbA8, EntryOk Try.prog e := List.forall_mem_cons.2 ⟨en0_ok awake8_ok, tbA_ok⟩
end Go.Proofs.Ytgdjfclpncpnpaa
