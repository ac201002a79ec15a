/-
  OWN WORK. What the functions of the layers box, disc, line, bar, ring, wide and of the references reckon, wraps and all: plain Lean, no Go.
-/
import Derived.Test.YtgdjfclpncpnpaaSymL
namespace Go.Proofs.Ytgdjfclpncpnpaa
open Go Go.RowKit

abbrev W (x : Int) : Int := IntKind.i64.wrap x
abbrev U (x : Int) : Int := IntKind.u64.wrap x
structure P2 where
  x : Int
  y : Int
structure B4 where
  x0 : Int
  y0 : Int
  x1 : Int
  y1 : Int
structure W2 where
  hi : Int
  lo : Int
abbrev vi (x : Int) : Value := .int .i64 x
abbrev vu (x : Int) : Value := .int .u64 x
abbrev vb (x : Bool) : Value := .bool x
abbrev pt (p : P2) : Value := .agg ⟨[vi p.x, vi p.y]⟩
abbrev bx (b : B4) : Value := .agg ⟨[vi b.x0, vi b.y0, vi b.x1, vi b.y1]⟩
abbrev wd (w : W2) : Value := .agg ⟨[vu w.hi, vu w.lo]⟩
def dI : Value → Option Int | .int .i64 x => some x | _ => none
def dU : Value → Option Int | .int .u64 x => some x | _ => none
def dB : Value → Option Bool | .bool x => some x | _ => none
def dP : Value → Option P2 | .agg ⟨[.int .i64 x, .int .i64 y]⟩ => some ⟨x, y⟩ | _ => none
def dBx : Value → Option B4 | .agg ⟨[.int .i64 a, .int .i64 b, .int .i64 c, .int .i64 d]⟩ => some ⟨a, b, c, d⟩ | _ => none
def dW : Value → Option W2 | .agg ⟨[.int .u64 x, .int .u64 y]⟩ => some ⟨x, y⟩ | _ => none
theorem dI_eq {v : Value} {x : Int} (h : dI v = some x) : v = vi x := by unfold dI at h; split at h <;> simp_all
theorem dU_eq {v : Value} {x : Int} (h : dU v = some x) : v = vu x := by unfold dU at h; split at h <;> simp_all
theorem dB_eq {v : Value} {x : Bool} (h : dB v = some x) : v = vb x := by unfold dB at h; split at h <;> simp_all
theorem dP_eq {v : Value} {x : P2} (h : dP v = some x) : v = pt x := by
  unfold dP at h; split at h
  · simp only [Option.some.injEq] at h; subst h; rfl
  · cases h
theorem dBx_eq {v : Value} {x : B4} (h : dBx v = some x) : v = bx x := by
  unfold dBx at h; split at h
  · simp only [Option.some.injEq] at h; subst h; rfl
  · cases h
theorem dW_eq {v : Value} {x : W2} (h : dW v = some x) : v = wd x := by
  unfold dW at h; split at h
  · simp only [Option.some.injEq] at h; subst h; rfl
  · cases h

/-! ### entries of a table by the shapes of the arguments -/
def en0 (r : Value) : List Value → Option (Value × List Prop)
  | [] => some (r, [])
  | _ => none
def en1 {α : Type} (d0 : Value → Option α) (f : α → Value) : List Value → Option (Value × List Prop)
  | [u0] => match d0 u0 with | some a0 => some (f a0, []) | _ => none
  | _ => none
def en1p {α : Type} (d0 : Value → Option α) (q : α → Prop) (f : α → Value) : List Value → Option (Value × List Prop)
  | [u0] => match d0 u0 with | some a0 => some (f a0, [q a0]) | _ => none
  | _ => none
def en2 {α β : Type} (d0 : Value → Option α) (d1 : Value → Option β) (f : α → β → Value) : List Value → Option (Value × List Prop)
  | [u0, u1] => match d0 u0, d1 u1 with | some a0, some a1 => some (f a0 a1, []) | _, _ => none
  | _ => none
def en2p {α β : Type} (d0 : Value → Option α) (d1 : Value → Option β) (q : α → β → Prop) (f : α → β → Value) : List Value → Option (Value × List Prop)
  | [u0, u1] => match d0 u0, d1 u1 with | some a0, some a1 => some (f a0 a1, [q a0 a1]) | _, _ => none
  | _ => none
def en3 {α β γ : Type} (d0 : Value → Option α) (d1 : Value → Option β) (d2 : Value → Option γ) (f : α → β → γ → Value) : List Value → Option (Value × List Prop)
  | [u0, u1, u2] => match d0 u0, d1 u1, d2 u2 with | some a0, some a1, some a2 => some (f a0 a1 a2, []) | _, _, _ => none
  | _ => none
def en3p {α β γ : Type} (d0 : Value → Option α) (d1 : Value → Option β) (d2 : Value → Option γ) (q : α → β → γ → Prop) (f : α → β → γ → Value) : List Value → Option (Value × List Prop)
  | [u0, u1, u2] => match d0 u0, d1 u1, d2 u2 with | some a0, some a1, some a2 => some (f a0 a1 a2, [q a0 a1 a2]) | _, _, _ => none
  | _ => none
def en4 {α β γ δ : Type} (d0 : Value → Option α) (d1 : Value → Option β) (d2 : Value → Option γ) (d3 : Value → Option δ) (f : α → β → γ → δ → Value) : List Value → Option (Value × List Prop)
  | [u0, u1, u2, u3] => match d0 u0, d1 u1, d2 u2, d3 u3 with | some a0, some a1, some a2, some a3 => some (f a0 a1 a2 a3, []) | _, _, _, _ => none
  | _ => none
def en4p {α β γ δ : Type} (d0 : Value → Option α) (d1 : Value → Option β) (d2 : Value → Option γ) (d3 : Value → Option δ) (q : α → β → γ → δ → Prop) (f : α → β → γ → δ → Value) : List Value → Option (Value × List Prop)
  | [u0, u1, u2, u3] => match d0 u0, d1 u1, d2 u2, d3 u3 with | some a0, some a1, some a2, some a3 => some (f a0 a1 a2 a3, [q a0 a1 a2 a3]) | _, _, _, _ => none
  | _ => none
def en5 {α β γ δ ε : Type} (d0 : Value → Option α) (d1 : Value → Option β) (d2 : Value → Option γ) (d3 : Value → Option δ) (d4 : Value → Option ε) (f : α → β → γ → δ → ε → Value) : List Value → Option (Value × List Prop)
  | [u0, u1, u2, u3, u4] => match d0 u0, d1 u1, d2 u2, d3 u3, d4 u4 with | some a0, some a1, some a2, some a3, some a4 => some (f a0 a1 a2 a3 a4, []) | _, _, _, _, _ => none
  | _ => none
def en5p {α β γ δ ε : Type} (d0 : Value → Option α) (d1 : Value → Option β) (d2 : Value → Option γ) (d3 : Value → Option δ) (d4 : Value → Option ε) (q : α → β → γ → δ → ε → Prop) (f : α → β → γ → δ → ε → Value) : List Value → Option (Value × List Prop)
  | [u0, u1, u2, u3, u4] => match d0 u0, d1 u1, d2 u2, d3 u3, d4 u4 with | some a0, some a1, some a2, some a3, some a4 => some (f a0 a1 a2 a3 a4, [q a0 a1 a2 a3 a4]) | _, _, _, _, _ => none
  | _ => none
def en6 {α β γ δ ε ζ : Type} (d0 : Value → Option α) (d1 : Value → Option β) (d2 : Value → Option γ) (d3 : Value → Option δ) (d4 : Value → Option ε) (d5 : Value → Option ζ) (f : α → β → γ → δ → ε → ζ → Value) : List Value → Option (Value × List Prop)
  | [u0, u1, u2, u3, u4, u5] => match d0 u0, d1 u1, d2 u2, d3 u3, d4 u4, d5 u5 with | some a0, some a1, some a2, some a3, some a4, some a5 => some (f a0 a1 a2 a3 a4 a5, []) | _, _, _, _, _, _ => none
  | _ => none
def en6p {α β γ δ ε ζ : Type} (d0 : Value → Option α) (d1 : Value → Option β) (d2 : Value → Option γ) (d3 : Value → Option δ) (d4 : Value → Option ε) (d5 : Value → Option ζ) (q : α → β → γ → δ → ε → ζ → Prop) (f : α → β → γ → δ → ε → ζ → Value) : List Value → Option (Value × List Prop)
  | [u0, u1, u2, u3, u4, u5] => match d0 u0, d1 u1, d2 u2, d3 u3, d4 u4, d5 u5 with | some a0, some a1, some a2, some a3, some a4, some a5 => some (f a0 a1 a2 a3 a4 a5, [q a0 a1 a2 a3 a4 a5]) | _, _, _, _, _, _ => none
  | _ => none
def en7 {α β γ δ ε ζ η : Type} (d0 : Value → Option α) (d1 : Value → Option β) (d2 : Value → Option γ) (d3 : Value → Option δ) (d4 : Value → Option ε) (d5 : Value → Option ζ) (d6 : Value → Option η) (f : α → β → γ → δ → ε → ζ → η → Value) : List Value → Option (Value × List Prop)
  | [u0, u1, u2, u3, u4, u5, u6] => match d0 u0, d1 u1, d2 u2, d3 u3, d4 u4, d5 u5, d6 u6 with | some a0, some a1, some a2, some a3, some a4, some a5, some a6 => some (f a0 a1 a2 a3 a4 a5 a6, []) | _, _, _, _, _, _, _ => none
  | _ => none
def en7p {α β γ δ ε ζ η : Type} (d0 : Value → Option α) (d1 : Value → Option β) (d2 : Value → Option γ) (d3 : Value → Option δ) (d4 : Value → Option ε) (d5 : Value → Option ζ) (d6 : Value → Option η) (q : α → β → γ → δ → ε → ζ → η → Prop) (f : α → β → γ → δ → ε → ζ → η → Value) : List Value → Option (Value × List Prop)
  | [u0, u1, u2, u3, u4, u5, u6] => match d0 u0, d1 u1, d2 u2, d3 u3, d4 u4, d5 u5, d6 u6 with | some a0, some a1, some a2, some a3, some a4, some a5, some a6 => some (f a0 a1 a2 a3 a4 a5 a6, [q a0 a1 a2 a3 a4 a5 a6]) | _, _, _, _, _, _, _ => none
  | _ => none
theorem en0_ok {P : Program} {K : Nat} {r : Value} (h : Sym.CallOk P K [] r) : Sym.EntryOk P (K, en0 r) := by
  intro args v ps hv _
  simp only [en0] at hv
  split at hv
  · simp only [Option.some.injEq, Prod.mk.injEq] at hv; obtain ⟨rfl, _⟩ := hv; exact h
  · cases hv
theorem en1_ok {P : Program} {K : Nat} {α : Type} {d0 : Value → Option α} {c0 : α → Value} {f : α → Value} (h0 : ∀ {u a}, d0 u = some a → u = c0 a) (h : ∀ a0, Sym.CallOk P K [c0 a0] (f a0)) : Sym.EntryOk P (K, en1 d0 f) := by
  intro args v ps hv hps
  simp only [en1] at hv
  split at hv
  · split at hv
    · rename_i a0 e0
      simp only [Option.some.injEq, Prod.mk.injEq] at hv
      obtain ⟨rfl, rfl⟩ := hv
      rw [h0 e0]; exact h a0
    · cases hv
  · cases hv
theorem en1p_ok {P : Program} {K : Nat} {α : Type} {d0 : Value → Option α} {c0 : α → Value} {q : α → Prop} {f : α → Value} (h0 : ∀ {u a}, d0 u = some a → u = c0 a) (h : ∀ a0, q a0 → Sym.CallOk P K [c0 a0] (f a0)) : Sym.EntryOk P (K, en1p d0 q f) := by
  intro args v ps hv hps
  simp only [en1p] at hv
  split at hv
  · split at hv
    · rename_i a0 e0
      simp only [Option.some.injEq, Prod.mk.injEq] at hv
      obtain ⟨rfl, rfl⟩ := hv
      rw [h0 e0]; exact h a0 hps.1
    · cases hv
  · cases hv
theorem en2_ok {P : Program} {K : Nat} {α β : Type} {d0 : Value → Option α} {c0 : α → Value} {d1 : Value → Option β} {c1 : β → Value} {f : α → β → Value} (h0 : ∀ {u a}, d0 u = some a → u = c0 a) (h1 : ∀ {u a}, d1 u = some a → u = c1 a) (h : ∀ a0 a1, Sym.CallOk P K [c0 a0, c1 a1] (f a0 a1)) : Sym.EntryOk P (K, en2 d0 d1 f) := by
  intro args v ps hv hps
  simp only [en2] at hv
  split at hv
  · split at hv
    · rename_i a0 a1 e0 e1
      simp only [Option.some.injEq, Prod.mk.injEq] at hv
      obtain ⟨rfl, rfl⟩ := hv
      rw [h0 e0, h1 e1]; exact h a0 a1
    · cases hv
  · cases hv
theorem en2p_ok {P : Program} {K : Nat} {α β : Type} {d0 : Value → Option α} {c0 : α → Value} {d1 : Value → Option β} {c1 : β → Value} {q : α → β → Prop} {f : α → β → Value} (h0 : ∀ {u a}, d0 u = some a → u = c0 a) (h1 : ∀ {u a}, d1 u = some a → u = c1 a) (h : ∀ a0 a1, q a0 a1 → Sym.CallOk P K [c0 a0, c1 a1] (f a0 a1)) : Sym.EntryOk P (K, en2p d0 d1 q f) := by
  intro args v ps hv hps
  simp only [en2p] at hv
  split at hv
  · split at hv
    · rename_i a0 a1 e0 e1
      simp only [Option.some.injEq, Prod.mk.injEq] at hv
      obtain ⟨rfl, rfl⟩ := hv
      rw [h0 e0, h1 e1]; exact h a0 a1 hps.1
    · cases hv
  · cases hv
theorem en3_ok {P : Program} {K : Nat} {α β γ : Type} {d0 : Value → Option α} {c0 : α → Value} {d1 : Value → Option β} {c1 : β → Value} {d2 : Value → Option γ} {c2 : γ → Value} {f : α → β → γ → Value} (h0 : ∀ {u a}, d0 u = some a → u = c0 a) (h1 : ∀ {u a}, d1 u = some a → u = c1 a) (h2 : ∀ {u a}, d2 u = some a → u = c2 a) (h : ∀ a0 a1 a2, Sym.CallOk P K [c0 a0, c1 a1, c2 a2] (f a0 a1 a2)) : Sym.EntryOk P (K, en3 d0 d1 d2 f) := by
  intro args v ps hv hps
  simp only [en3] at hv
  split at hv
  · split at hv
    · rename_i a0 a1 a2 e0 e1 e2
      simp only [Option.some.injEq, Prod.mk.injEq] at hv
      obtain ⟨rfl, rfl⟩ := hv
      rw [h0 e0, h1 e1, h2 e2]; exact h a0 a1 a2
    · cases hv
  · cases hv
theorem en3p_ok {P : Program} {K : Nat} {α β γ : Type} {d0 : Value → Option α} {c0 : α → Value} {d1 : Value → Option β} {c1 : β → Value} {d2 : Value → Option γ} {c2 : γ → Value} {q : α → β → γ → Prop} {f : α → β → γ → Value} (h0 : ∀ {u a}, d0 u = some a → u = c0 a) (h1 : ∀ {u a}, d1 u = some a → u = c1 a) (h2 : ∀ {u a}, d2 u = some a → u = c2 a) (h : ∀ a0 a1 a2, q a0 a1 a2 → Sym.CallOk P K [c0 a0, c1 a1, c2 a2] (f a0 a1 a2)) : Sym.EntryOk P (K, en3p d0 d1 d2 q f) := by
  intro args v ps hv hps
  simp only [en3p] at hv
  split at hv
  · split at hv
    · rename_i a0 a1 a2 e0 e1 e2
      simp only [Option.some.injEq, Prod.mk.injEq] at hv
      obtain ⟨rfl, rfl⟩ := hv
      rw [h0 e0, h1 e1, h2 e2]; exact h a0 a1 a2 hps.1
    · cases hv
  · cases hv
theorem en4_ok {P : Program} {K : Nat} {α β γ δ : Type} {d0 : Value → Option α} {c0 : α → Value} {d1 : Value → Option β} {c1 : β → Value} {d2 : Value → Option γ} {c2 : γ → Value} {d3 : Value → Option δ} {c3 : δ → Value} {f : α → β → γ → δ → Value} (h0 : ∀ {u a}, d0 u = some a → u = c0 a) (h1 : ∀ {u a}, d1 u = some a → u = c1 a) (h2 : ∀ {u a}, d2 u = some a → u = c2 a) (h3 : ∀ {u a}, d3 u = some a → u = c3 a) (h : ∀ a0 a1 a2 a3, Sym.CallOk P K [c0 a0, c1 a1, c2 a2, c3 a3] (f a0 a1 a2 a3)) : Sym.EntryOk P (K, en4 d0 d1 d2 d3 f) := by
  intro args v ps hv hps
  simp only [en4] at hv
  split at hv
  · split at hv
    · rename_i a0 a1 a2 a3 e0 e1 e2 e3
      simp only [Option.some.injEq, Prod.mk.injEq] at hv
      obtain ⟨rfl, rfl⟩ := hv
      rw [h0 e0, h1 e1, h2 e2, h3 e3]; exact h a0 a1 a2 a3
    · cases hv
  · cases hv
theorem en4p_ok {P : Program} {K : Nat} {α β γ δ : Type} {d0 : Value → Option α} {c0 : α → Value} {d1 : Value → Option β} {c1 : β → Value} {d2 : Value → Option γ} {c2 : γ → Value} {d3 : Value → Option δ} {c3 : δ → Value} {q : α → β → γ → δ → Prop} {f : α → β → γ → δ → Value} (h0 : ∀ {u a}, d0 u = some a → u = c0 a) (h1 : ∀ {u a}, d1 u = some a → u = c1 a) (h2 : ∀ {u a}, d2 u = some a → u = c2 a) (h3 : ∀ {u a}, d3 u = some a → u = c3 a) (h : ∀ a0 a1 a2 a3, q a0 a1 a2 a3 → Sym.CallOk P K [c0 a0, c1 a1, c2 a2, c3 a3] (f a0 a1 a2 a3)) : Sym.EntryOk P (K, en4p d0 d1 d2 d3 q f) := by
  intro args v ps hv hps
  simp only [en4p] at hv
  split at hv
  · split at hv
    · rename_i a0 a1 a2 a3 e0 e1 e2 e3
      simp only [Option.some.injEq, Prod.mk.injEq] at hv
      obtain ⟨rfl, rfl⟩ := hv
      rw [h0 e0, h1 e1, h2 e2, h3 e3]; exact h a0 a1 a2 a3 hps.1
    · cases hv
  · cases hv
theorem en5_ok {P : Program} {K : Nat} {α β γ δ ε : Type} {d0 : Value → Option α} {c0 : α → Value} {d1 : Value → Option β} {c1 : β → Value} {d2 : Value → Option γ} {c2 : γ → Value} {d3 : Value → Option δ} {c3 : δ → Value} {d4 : Value → Option ε} {c4 : ε → Value} {f : α → β → γ → δ → ε → Value} (h0 : ∀ {u a}, d0 u = some a → u = c0 a) (h1 : ∀ {u a}, d1 u = some a → u = c1 a) (h2 : ∀ {u a}, d2 u = some a → u = c2 a) (h3 : ∀ {u a}, d3 u = some a → u = c3 a) (h4 : ∀ {u a}, d4 u = some a → u = c4 a) (h : ∀ a0 a1 a2 a3 a4, Sym.CallOk P K [c0 a0, c1 a1, c2 a2, c3 a3, c4 a4] (f a0 a1 a2 a3 a4)) : Sym.EntryOk P (K, en5 d0 d1 d2 d3 d4 f) := by
  intro args v ps hv hps
  simp only [en5] at hv
  split at hv
  · split at hv
    · rename_i a0 a1 a2 a3 a4 e0 e1 e2 e3 e4
      simp only [Option.some.injEq, Prod.mk.injEq] at hv
      obtain ⟨rfl, rfl⟩ := hv
      rw [h0 e0, h1 e1, h2 e2, h3 e3, h4 e4]; exact h a0 a1 a2 a3 a4
    · cases hv
  · cases hv
theorem en5p_ok {P : Program} {K : Nat} {α β γ δ ε : Type} {d0 : Value → Option α} {c0 : α → Value} {d1 : Value → Option β} {c1 : β → Value} {d2 : Value → Option γ} {c2 : γ → Value} {d3 : Value → Option δ} {c3 : δ → Value} {d4 : Value → Option ε} {c4 : ε → Value} {q : α → β → γ → δ → ε → Prop} {f : α → β → γ → δ → ε → Value} (h0 : ∀ {u a}, d0 u = some a → u = c0 a) (h1 : ∀ {u a}, d1 u = some a → u = c1 a) (h2 : ∀ {u a}, d2 u = some a → u = c2 a) (h3 : ∀ {u a}, d3 u = some a → u = c3 a) (h4 : ∀ {u a}, d4 u = some a → u = c4 a) (h : ∀ a0 a1 a2 a3 a4, q a0 a1 a2 a3 a4 → Sym.CallOk P K [c0 a0, c1 a1, c2 a2, c3 a3, c4 a4] (f a0 a1 a2 a3 a4)) : Sym.EntryOk P (K, en5p d0 d1 d2 d3 d4 q f) := by
  intro args v ps hv hps
  simp only [en5p] at hv
  split at hv
  · split at hv
    · rename_i a0 a1 a2 a3 a4 e0 e1 e2 e3 e4
      simp only [Option.some.injEq, Prod.mk.injEq] at hv
      obtain ⟨rfl, rfl⟩ := hv
      rw [h0 e0, h1 e1, h2 e2, h3 e3, h4 e4]; exact h a0 a1 a2 a3 a4 hps.1
    · cases hv
  · cases hv
theorem en6_ok {P : Program} {K : Nat} {α β γ δ ε ζ : Type} {d0 : Value → Option α} {c0 : α → Value} {d1 : Value → Option β} {c1 : β → Value} {d2 : Value → Option γ} {c2 : γ → Value} {d3 : Value → Option δ} {c3 : δ → Value} {d4 : Value → Option ε} {c4 : ε → Value} {d5 : Value → Option ζ} {c5 : ζ → Value} {f : α → β → γ → δ → ε → ζ → Value} (h0 : ∀ {u a}, d0 u = some a → u = c0 a) (h1 : ∀ {u a}, d1 u = some a → u = c1 a) (h2 : ∀ {u a}, d2 u = some a → u = c2 a) (h3 : ∀ {u a}, d3 u = some a → u = c3 a) (h4 : ∀ {u a}, d4 u = some a → u = c4 a) (h5 : ∀ {u a}, d5 u = some a → u = c5 a) (h : ∀ a0 a1 a2 a3 a4 a5, Sym.CallOk P K [c0 a0, c1 a1, c2 a2, c3 a3, c4 a4, c5 a5] (f a0 a1 a2 a3 a4 a5)) : Sym.EntryOk P (K, en6 d0 d1 d2 d3 d4 d5 f) := by
  intro args v ps hv hps
  simp only [en6] at hv
  split at hv
  · split at hv
    · rename_i a0 a1 a2 a3 a4 a5 e0 e1 e2 e3 e4 e5
      simp only [Option.some.injEq, Prod.mk.injEq] at hv
      obtain ⟨rfl, rfl⟩ := hv
      rw [h0 e0, h1 e1, h2 e2, h3 e3, h4 e4, h5 e5]; exact h a0 a1 a2 a3 a4 a5
    · cases hv
  · cases hv
theorem en6p_ok {P : Program} {K : Nat} {α β γ δ ε ζ : Type} {d0 : Value → Option α} {c0 : α → Value} {d1 : Value → Option β} {c1 : β → Value} {d2 : Value → Option γ} {c2 : γ → Value} {d3 : Value → Option δ} {c3 : δ → Value} {d4 : Value → Option ε} {c4 : ε → Value} {d5 : Value → Option ζ} {c5 : ζ → Value} {q : α → β → γ → δ → ε → ζ → Prop} {f : α → β → γ → δ → ε → ζ → Value} (h0 : ∀ {u a}, d0 u = some a → u = c0 a) (h1 : ∀ {u a}, d1 u = some a → u = c1 a) (h2 : ∀ {u a}, d2 u = some a → u = c2 a) (h3 : ∀ {u a}, d3 u = some a → u = c3 a) (h4 : ∀ {u a}, d4 u = some a → u = c4 a) (h5 : ∀ {u a}, d5 u = some a → u = c5 a) (h : ∀ a0 a1 a2 a3 a4 a5, q a0 a1 a2 a3 a4 a5 → Sym.CallOk P K [c0 a0, c1 a1, c2 a2, c3 a3, c4 a4, c5 a5] (f a0 a1 a2 a3 a4 a5)) : Sym.EntryOk P (K, en6p d0 d1 d2 d3 d4 d5 q f) := by
  intro args v ps hv hps
  simp only [en6p] at hv
  split at hv
  · split at hv
    · rename_i a0 a1 a2 a3 a4 a5 e0 e1 e2 e3 e4 e5
      simp only [Option.some.injEq, Prod.mk.injEq] at hv
      obtain ⟨rfl, rfl⟩ := hv
      rw [h0 e0, h1 e1, h2 e2, h3 e3, h4 e4, h5 e5]; exact h a0 a1 a2 a3 a4 a5 hps.1
    · cases hv
  · cases hv
theorem en7_ok {P : Program} {K : Nat} {α β γ δ ε ζ η : Type} {d0 : Value → Option α} {c0 : α → Value} {d1 : Value → Option β} {c1 : β → Value} {d2 : Value → Option γ} {c2 : γ → Value} {d3 : Value → Option δ} {c3 : δ → Value} {d4 : Value → Option ε} {c4 : ε → Value} {d5 : Value → Option ζ} {c5 : ζ → Value} {d6 : Value → Option η} {c6 : η → Value} {f : α → β → γ → δ → ε → ζ → η → Value} (h0 : ∀ {u a}, d0 u = some a → u = c0 a) (h1 : ∀ {u a}, d1 u = some a → u = c1 a) (h2 : ∀ {u a}, d2 u = some a → u = c2 a) (h3 : ∀ {u a}, d3 u = some a → u = c3 a) (h4 : ∀ {u a}, d4 u = some a → u = c4 a) (h5 : ∀ {u a}, d5 u = some a → u = c5 a) (h6 : ∀ {u a}, d6 u = some a → u = c6 a) (h : ∀ a0 a1 a2 a3 a4 a5 a6, Sym.CallOk P K [c0 a0, c1 a1, c2 a2, c3 a3, c4 a4, c5 a5, c6 a6] (f a0 a1 a2 a3 a4 a5 a6)) : Sym.EntryOk P (K, en7 d0 d1 d2 d3 d4 d5 d6 f) := by
  intro args v ps hv hps
  simp only [en7] at hv
  split at hv
  · split at hv
    · rename_i a0 a1 a2 a3 a4 a5 a6 e0 e1 e2 e3 e4 e5 e6
      simp only [Option.some.injEq, Prod.mk.injEq] at hv
      obtain ⟨rfl, rfl⟩ := hv
      rw [h0 e0, h1 e1, h2 e2, h3 e3, h4 e4, h5 e5, h6 e6]; exact h a0 a1 a2 a3 a4 a5 a6
    · cases hv
  · cases hv
theorem en7p_ok {P : Program} {K : Nat} {α β γ δ ε ζ η : Type} {d0 : Value → Option α} {c0 : α → Value} {d1 : Value → Option β} {c1 : β → Value} {d2 : Value → Option γ} {c2 : γ → Value} {d3 : Value → Option δ} {c3 : δ → Value} {d4 : Value → Option ε} {c4 : ε → Value} {d5 : Value → Option ζ} {c5 : ζ → Value} {d6 : Value → Option η} {c6 : η → Value} {q : α → β → γ → δ → ε → ζ → η → Prop} {f : α → β → γ → δ → ε → ζ → η → Value} (h0 : ∀ {u a}, d0 u = some a → u = c0 a) (h1 : ∀ {u a}, d1 u = some a → u = c1 a) (h2 : ∀ {u a}, d2 u = some a → u = c2 a) (h3 : ∀ {u a}, d3 u = some a → u = c3 a) (h4 : ∀ {u a}, d4 u = some a → u = c4 a) (h5 : ∀ {u a}, d5 u = some a → u = c5 a) (h6 : ∀ {u a}, d6 u = some a → u = c6 a) (h : ∀ a0 a1 a2 a3 a4 a5 a6, q a0 a1 a2 a3 a4 a5 a6 → Sym.CallOk P K [c0 a0, c1 a1, c2 a2, c3 a3, c4 a4, c5 a5, c6 a6] (f a0 a1 a2 a3 a4 a5 a6)) : Sym.EntryOk P (K, en7p d0 d1 d2 d3 d4 d5 d6 q f) := by
  intro args v ps hv hps
  simp only [en7p] at hv
  split at hv
  · split at hv
    · rename_i a0 a1 a2 a3 a4 a5 a6 e0 e1 e2 e3 e4 e5 e6
      simp only [Option.some.injEq, Prod.mk.injEq] at hv
      obtain ⟨rfl, rfl⟩ := hv
      rw [h0 e0, h1 e1, h2 e2, h3 e3, h4 e4, h5 e5, h6 e6]; exact h a0 a1 a2 a3 a4 a5 a6 hps.1
    · cases hv
  · cases hv

section
open Sym
variable {P : Program} {K : Nat}
/-- a function's contract out of its evaluation, when nothing is left to be shown -/
theorem fnOk {tb : Nat → List Value → Option (Value × List Prop)} (ht : TbOk P tb) (hm : P.follows .mixedOrders = true) {fn : Func} (hf : P.funcs[K]? = some fn) (hb : fn.body.isNone = false) (hn : (fn.name == "runtime.NumGoroutine") = false) {fuel : Nat} {args : List Value} {v : Value}
    (hv : (afun P tb fuel fn args).val P fn.results = some v) (hs : (afun P tb fuel fn args).noSides = true) : CallOk P K args v :=
  call_ok hf hb hn fun w => contract ht hm hf hv (Out.sides_of hs) w
/-- .. when its sides are shown -/
theorem fnOkS {tb : Nat → List Value → Option (Value × List Prop)} (ht : TbOk P tb) (hm : P.follows .mixedOrders = true) {fn : Func} (hf : P.funcs[K]? = some fn) (hb : fn.body.isNone = false) (hn : (fn.name == "runtime.NumGoroutine") = false) {fuel : Nat} {args : List Value} {v : Value}
    {l : List Prop} (hv : (afun P tb fuel fn args).val P fn.results = some v) (hl : (afun P tb fuel fn args).sideList = l) (hs : allP l) : CallOk P K args v :=
  call_ok hf hb hn fun w => contract ht hm hf hv (Out.sides_list (by rw [hl]; exact hs)) w
end

/-! ### what is reckoned -/
def orB (a b : Bool) : Bool := bif a then true else b
def andB (a b : Bool) : Bool := bif a then b else false
def imax (x y : Int) : Int := if y > x then y else x
def imin (x y : Int) : Int := if y < x then y else x
def band (x y : Int) : Int := W ((BitVec.ofInt 64 x &&& BitVec.ofInt 64 y).toNat : Int)

-- box
def within (v : Int) : Bool := andB (decide (v ≥ -536870912)) (decide (v ≤ 536870912))
def boxOk (b : B4) : Bool := andB (andB (andB (andB (andB (decide (b.x0 ≤ b.x1)) (decide (b.y0 ≤ b.y1))) (within b.x0)) (within b.y0)) (within b.x1)) (within b.y1)
def boxHas (b : B4) (p : P2) : Bool := andB (andB (andB (decide (b.x0 ≤ p.x)) (decide (p.x ≤ b.x1))) (decide (b.y0 ≤ p.y))) (decide (p.y ≤ b.y1))
def gap (v lo hi : Int) : Int := bif decide (v < lo) then W (lo - v) else bif decide (v > hi) then W (v - hi) else 0
def reach (v lo hi : Int) : Int := imax (imax (imax (W (v - lo)) (W (lo - v))) (W (v - hi))) (W (hi - v))
def near (b : B4) (p : P2) : Int := W (W (gap p.x b.x0 b.x1 * gap p.x b.x0 b.x1) + W (gap p.y b.y0 b.y1 * gap p.y b.y0 b.y1))
def most (b : B4) (p : P2) : Int := W (W (reach p.x b.x0 b.x1 * reach p.x b.x0 b.x1) + W (reach p.y b.y0 b.y1 * reach p.y b.y0 b.y1))
def cross (o a b : P2) : Int := W (W (W (a.x - o.x) * W (b.y - o.y)) - W (W (a.y - o.y) * W (b.x - o.x)))
def emptyBx (b : B4) : Bool := orB (decide (b.x0 > b.x1)) (decide (b.y0 > b.y1))
def apart (a b : B4) : Bool := orB (orB (orB (orB (orB (emptyBx a) (emptyBx b)) (decide (a.x1 < b.x0))) (decide (b.x1 < a.x0))) (decide (a.y1 < b.y0))) (decide (b.y1 < a.y0))
def corners (b : B4) : Value := .agg ⟨[vi b.x0, vi b.y0, vi b.x1, vi b.y0, vi b.x0, vi b.y1, vi b.x1, vi b.y1]⟩
def up (c : Bool) (n : Int) : Int := bif c then W (n + 1) else n
def cnt4 (f : P2 → Bool) (b : B4) : Int := up (f ⟨b.x1, b.y1⟩) (up (f ⟨b.x0, b.y1⟩) (up (f ⟨b.x1, b.y0⟩) (up (f ⟨b.x0, b.y0⟩) 0)))
def meets (b : B4) (p q : P2) : Bool :=
  bif orB (orB (orB (orB (emptyBx b) (decide (imax p.x q.x < b.x0))) (decide (imin p.x q.x > b.x1))) (decide (imax p.y q.y < b.y0))) (decide (imin p.y q.y > b.y1)) then false
  else andB (decide (cnt4 (fun c => decide (cross p q c > 0)) b < 4)) (decide (cnt4 (fun c => decide (cross p q c < 0)) b < 4))
def halves (b : B4) : Value :=
  let x := W (b.x0 + W ((W (b.x1 - b.x0)).tdiv 2))
  let y := W (b.y0 + W ((W (b.y1 - b.y0)).tdiv 2))
  .agg ⟨[vi b.x0, vi b.y0, vi x, vi y, vi x, vi b.y0, vi b.x1, vi y, vi b.x0, vi y, vi x, vi b.y1, vi x, vi y, vi b.x1, vi b.y1]⟩
-- disc
def square (r : Int) : Int := W (imin r 2147483648 * imin r 2147483648)
def discHas (p c : P2) (r : Int) : Bool := bif decide (r < 1) then false else decide (near ⟨c.x, c.y, c.x, c.y⟩ p ≤ square r)
def discClass (b : B4) (c : P2) (r : Int) : Int :=
  bif orB (decide (r < 1)) (!(boxHas b ⟨b.x0, b.y0⟩)) then 0 else bif decide (near b c > square r) then 0 else bif decide (most b c ≤ square r) then 2 else 1
-- wide
def u64 (f : BitVec 64) : Int := U (f.toNat : Int)
def wabs (v : Int) : Int := bif decide (v < 0) then U (0 - U v) else U v
def sh32 (x : Int) : Int := x.fdiv (2 ^ min (Int.toNat 32) 64)
def lo32 (x : Int) : Int := u64 (BitVec.ofInt 64 x &&& BitVec.ofInt 64 4294967295)
def mulHi (x y : Int) : Int :=
  let w0 := U (lo32 x * lo32 y)
  let t := U (U (sh32 x * lo32 y) + sh32 w0)
  let w1 := U (lo32 t + U (lo32 x * sh32 y))
  U (U (U (sh32 x * sh32 y) + sh32 t) + sh32 w1)
def mulLo (x y : Int) : Int := U (x * y)
def wmul (x y : Int) : W2 := ⟨mulHi x y, mulLo x y⟩
def wsq (v : Int) : W2 := wmul (wabs v) (wabs v)
def ucmp (x y : Int) : Int := bif x != x then (bif y != y then 0 else -1) else bif y != y then 1 else bif decide (x < y) then -1 else bif decide (x > y) then 1 else 0
def wcmp (a b : W2) : Int := bif a.hi != b.hi then ucmp a.hi b.hi else ucmp a.lo b.lo
-- line
def dist2 (x y : Int) : Int := W (W (x * x) + W (y * y))
def lineHas (p a c : P2) (r : Int) : Bool :=
  bif decide (r < 1) then false else
  let x := W (c.x - a.x)
  let y := W (c.y - a.y)
  let along := W (W (W (p.x - a.x) * x) + W (W (p.y - a.y) * y))
  bif decide (along ≤ 0) then decide (near ⟨a.x, a.y, a.x, a.y⟩ p ≤ square r) else
  bif decide (along ≥ dist2 x y) then decide (near ⟨c.x, c.y, c.x, c.y⟩ p ≤ square r) else
  decide (wcmp (wsq (cross a c p)) (wmul (U (square r)) (U (dist2 x y))) ≤ 0)
def lineClass (b : B4) (a c : P2) (r : Int) : Int :=
  bif orB (decide (r < 1)) (!(boxHas b ⟨b.x0, b.y0⟩)) then 0 else
  let n := cnt4 (fun p => lineHas p a c r) b
  bif n == 4 then 2 else
  bif orB (orB (orB (decide (n > 0)) (decide (near b a ≤ square r))) (decide (near b c ≤ square r))) (meets b a c) then 1 else 0
-- bar
def ptEq (a c : P2) : Bool := bif a.x == c.x then (bif a.y == c.y then true else false) else false
def barVoid (a c : P2) (h : Int) : Bool := orB (ptEq a c) (decide (h < 1))
def beside (p a c : P2) (h : Int) : Int :=
  let x := W (c.x - a.x)
  let y := W (c.y - a.y)
  bif decide (wcmp (wsq (cross a c p)) (wmul (U (square h)) (U (dist2 x y))) ≤ 0) then 0 else bif decide (cross a c p > 0) then 1 else -1
def past (p a c : P2) : Int :=
  let x := W (c.x - a.x)
  let y := W (c.y - a.y)
  let along := W (W (W (p.x - a.x) * x) + W (W (p.y - a.y) * y))
  bif decide (along < 0) then -1 else bif decide (along > dist2 x y) then 1 else 0
def barHas (p a c : P2) (h : Int) : Bool := andB (andB (!(barVoid a c h)) (beside p a c h == 0)) (past p a c == 0)
structure C3 where
  m : Int
  z : Int
  p : Int
def bump3 (i : Int) (c : C3) : C3 :=
  let v := W ((bif decide (i = ((0 : Nat) : Int)) then c.m else bif decide (i = ((1 : Nat) : Int)) then c.z else c.p) + 1)
  ⟨bif decide (i = ((0 : Nat) : Int)) then v else c.m, bif decide (i = ((1 : Nat) : Int)) then v else c.z, bif decide (i = ((2 : Nat) : Int)) then v else c.p⟩
def cnt3 (f : P2 → Int) (b : B4) : C3 := bump3 (W (f ⟨b.x1, b.y1⟩ + 1)) (bump3 (W (f ⟨b.x0, b.y1⟩ + 1)) (bump3 (W (f ⟨b.x1, b.y0⟩ + 1)) (bump3 (W (f ⟨b.x0, b.y0⟩ + 1)) ⟨0, 0, 0⟩)))
def barClass (b : B4) (a c : P2) (h : Int) : Int :=
  bif barVoid a c h then 0 else
  bif !(boxHas b ⟨b.x0, b.y0⟩) then 2 else
  bif cnt4 (fun p => andB (beside p a c h == 0) (past p a c == 0)) b == 4 then 2 else
  bif orB (orB (orB ((cnt3 (fun p => beside p a c h) b).m == 4) ((cnt3 (fun p => beside p a c h) b).p == 4)) ((cnt3 (fun p => past p a c) b).m == 4)) ((cnt3 (fun p => past p a c) b).p == 4) then 0 else 1
-- ring
def ringApart (p q : P2) : Int := near ⟨q.x, q.y, q.x, q.y⟩ p
def ringOk (c a e : P2) : Bool := andB (ringApart a c != 0) (ringApart a c == ringApart e c)
def ringGreat (c a e : P2) : Bool := decide (cross c a e < 0)
def sector (p c a e : P2) : Bool :=
  bif ptEq a e then true else
  bif ringGreat c a e then orB (decide (cross c a p ≥ 0)) (decide (cross c p e ≥ 0)) else andB (decide (cross c a p ≥ 0)) (decide (cross c p e ≥ 0))
def outside (d rr r : Int) : Bool :=
  let left := W (W (rr - square r) - d)
  orB (decide (left ≤ 0)) (decide (wcmp (wsq left) (wmul (U (4 * U d)) (U (square r))) ≤ 0))
def inside (d rr r : Int) : Bool :=
  let left := W (W (d - rr) - square r)
  orB (decide (left ≤ 0)) (decide (wcmp (wsq left) (wmul (U (4 * U rr)) (U (square r))) ≤ 0))
def ringHas (p c a e : P2) (r : Int) : Bool :=
  bif orB (!(ringOk c a e)) (decide (r < 1)) then false else
  bif orB (discHas p a r) (discHas p e r) then true else
  andB (andB (sector p c a e) (outside (ringApart p c) (ringApart a c) r)) (inside (ringApart p c) (ringApart a c) r)
def liesIn (b : B4) (c a e : P2) : Bool :=
  bif ptEq a e then true else
  let u := cnt4 (fun p => decide (cross c a p < 0)) b
  let v := cnt4 (fun p => decide (cross c p e < 0)) b
  bif ringGreat c a e then orB (u == 0) (v == 0) else andB (u == 0) (v == 0)
def liesOff (b : B4) (c a e : P2) : Bool :=
  bif ptEq a e then false else
  let u := cnt4 (fun p => decide (cross c a p < 0)) b
  let v := cnt4 (fun p => decide (cross c p e < 0)) b
  bif ringGreat c a e then andB (u == 4) (v == 4) else orB (u == 4) (v == 4)
def ringClass (b : B4) (c a e : P2) (r : Int) : Int :=
  bif orB (!(ringOk c a e)) (decide (r < 1)) then 0 else
  bif !(boxHas b ⟨b.x0, b.y0⟩) then 2 else
  bif orB (discClass b a r == 2) (discClass b e r == 2) then 2 else
  bif andB (andB (liesIn b c a e) (outside (near b c) (ringApart a c) r)) (inside (most b c) (ringApart a c) r) then 2 else
  bif orB (discClass b a r != 0) (discClass b e r != 0) then 1 else
  bif orB (orB (liesOff b c a e) (!(inside (near b c) (ringApart a c) r))) (!(outside (most b c) (ringApart a c) r)) then 0 else 1
-- the references
def rAbs (v : Int) : Int := bif decide (v < 0) then U (U (W (0 - W (v + 1))) + 1) else U v
def rMul (a b : Int) : W2 :=
  let x := sh32 a
  let y := lo32 a
  let u := sh32 b
  let v := lo32 b
  let p := U (x * u)
  let q := U (x * v)
  let s := U (y * u)
  let t := U (y * v)
  let mid := U (U (sh32 t + lo32 q) + lo32 s)
  ⟨U (U (U (p + sh32 q) + sh32 s) + sh32 mid), u64 (BitVec.ofInt 64 (U (mid * 2 ^ min (Int.toNat 32) 64)) ||| BitVec.ofInt 64 (lo32 t))⟩
def rSq (v : Int) : W2 := rMul (rAbs v) (rAbs v)
def wEq (a b : W2) : Bool := bif a.hi == b.hi then (bif a.lo == b.lo then true else false) else false
def rCmp (a b : W2) : Int := bif wEq a b then 0 else bif orB (decide (a.hi < b.hi)) (andB (a.hi == b.hi) (decide (a.lo < b.lo))) then -1 else 1
def rBoxHas (b : B4) (p : P2) : Bool := andB (andB (andB (decide (p.x ≥ b.x0)) (decide (p.x ≤ b.x1))) (decide (p.y ≥ b.y0))) (decide (p.y ≤ b.y1))
def rBoxOk (b : B4) : Bool := andB (andB (andB (andB (andB (decide (b.x0 ≤ b.x1)) (decide (b.y0 ≤ b.y1))) (decide (b.x0 ≥ -536870912))) (decide (b.y0 ≥ -536870912))) (decide (b.x1 ≤ 536870912))) (decide (b.y1 ≤ 536870912))
def rDist (p q : P2) : Int := W (W (W (p.x - q.x) * W (p.x - q.x)) + W (W (p.y - q.y) * W (p.y - q.y)))
def rNear (b : B4) (p : P2) : Int := rDist p ⟨imin (imax p.x b.x0) b.x1, imin (imax p.y b.y0) b.y1⟩
def rMost (b : B4) (p : P2) : Int := imax (imax (imax (rDist p ⟨b.x0, b.y0⟩) (rDist p ⟨b.x1, b.y0⟩)) (rDist p ⟨b.x0, b.y1⟩)) (rDist p ⟨b.x1, b.y1⟩)
def rDot (o a b : P2) : Int := W (W (W (a.x - o.x) * W (b.x - o.x)) + W (W (a.y - o.y) * W (b.y - o.y)))
def rApart (a b : B4) : Bool := orB (orB (orB (decide (a.x1 < b.x0)) (decide (b.x1 < a.x0))) (decide (a.y1 < b.y0))) (decide (b.y1 < a.y0))
def rMeets (b : B4) (p q : P2) : Bool :=
  bif rApart b ⟨imin p.x q.x, imin p.y q.y, imax p.x q.x, imax p.y q.y⟩ then false
  else andB (decide (cnt4 (fun c => decide (cross p q c > 0)) b < 4)) (decide (cnt4 (fun c => decide (cross p q c < 0)) b < 4))
def rDiscHas (p c : P2) (r : Int) : Bool := andB (decide (r ≥ 1)) (decide (rDist p c ≤ W (r * r)))
def rDisc (b : B4) (c : P2) (r : Int) : Int := bif orB (decide (r < 1)) (decide (rNear b c > W (r * r))) then 0 else bif decide (rMost b c ≤ W (r * r)) then 2 else 1
def rWithin (k h long : Int) : Bool := decide (rCmp (rSq k) (rMul (U (W (h * h))) (U long)) ≤ 0)
def rLineHas (p a c : P2) (r : Int) : Bool :=
  bif decide (r < 1) then false else
  bif decide (rDot a c p ≤ 0) then decide (rDist p a ≤ W (r * r)) else
  bif decide (rDot a c p ≥ rDist a c) then decide (rDist p c ≤ W (r * r)) else rWithin (cross a c p) r (rDist a c)
def rLine (b : B4) (a c : P2) (r : Int) : Int :=
  bif decide (r < 1) then 0 else
  let n := cnt4 (fun p => rLineHas p a c r) b
  bif n == 4 then 2 else
  bif orB (orB (orB (decide (n > 0)) (rMeets b a c)) (decide (rNear b a ≤ W (r * r)))) (decide (rNear b c ≤ W (r * r))) then 1 else 0
def rBarHas (p a c : P2) (h : Int) : Bool := andB (andB (andB (andB (decide (h ≥ 1)) (decide (rDist a c > 0))) (decide (rDot a c p ≥ 0))) (decide (rDot a c p ≤ rDist a c))) (rWithin (cross a c p) h (rDist a c))
def rBar (b : B4) (a c : P2) (h : Int) : Int :=
  bif orB (decide (h < 1)) (rDist a c == 0) then 0 else
  let far := fun q => !(rWithin (cross a c q) h (rDist a c))
  bif cnt4 (fun q => rBarHas q a c h) b == 4 then 2 else
  bif orB (orB (orB (cnt4 (fun q => andB (far q) (decide (cross a c q > 0))) b == 4) (cnt4 (fun q => andB (far q) (decide (cross a c q < 0))) b == 4)) (cnt4 (fun q => decide (rDot a c q < 0)) b == 4)) (cnt4 (fun q => decide (rDot a c q > rDist a c)) b == 4) then 0 else 1
-- the laws' own helpers
def lPt (p : P2) : P2 := ⟨p.x.tmod 536870913, p.y.tmod 536870913⟩
def lClose (p : P2) (n : Int) : P2 := ⟨p.x.tmod (W (n + 1)), p.y.tmod (W (n + 1))⟩
def lBox (b : B4) : B4 :=
  let p := lPt ⟨b.x0, b.y0⟩
  let q := lPt ⟨b.x1, b.y1⟩
  ⟨imin p.x q.x, imin p.y q.y, imax p.x q.x, imax p.y q.y⟩
def lR (r : Int) : Int := W (W ((U r).tmod 536870912) + 1)
def lInX (lo hi x : Int) : Int := W (lo + W ((U x).tmod (U (W (W (hi - lo) + 1)))))
def lIn (b : B4) (x y : Int) : P2 := ⟨lInX b.x0 b.x1 x, lInX b.y0 b.y1 y⟩
def lInOk (b : B4) : Prop := U (W (W (b.x1 - b.x0) + 1)) ≠ 0 ∧ U (W (W (b.y1 - b.y0) + 1)) ≠ 0
def lSmall (b : B4) : B4 := ⟨b.x0.tmod 20, b.y0.tmod 20, W (b.x0.tmod 20 + band b.x1 7), W (b.y0.tmod 20 + band b.y1 7)⟩
end Go.Proofs.Ytgdjfclpncpnpaa
