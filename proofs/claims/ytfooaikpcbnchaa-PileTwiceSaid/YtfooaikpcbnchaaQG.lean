/-
  OWN WORK. Joined by merge.py: Plc Cpb.
-/
import Derived.Test.YtfooaikpcbnchaaQE
import Derived.WalkKit
import Derived.ProofKit
import Derived.Test.YtfooaikpcbnchaaQF
import Derived.Deep.LoopGhost
import Derived.Deep.QuietTactic
import Derived.BigQuiet
import Derived.StillTailTactics
import Derived.Maps.Own
import Derived.Carry
/-! ## Plc -/
namespace Go.Proofs.Ytfooaikpcbnchaa
open Go Go.RowKit Sym
set_option maxRecDepth 100000

end Go.Proofs.Ytfooaikpcbnchaa

/-! ## Cpb -/
namespace Go.Proofs.Ytfooaikpcbnchaa
open Go Go.RowKit Sym
set_option maxRecDepth 100000

/-! ### a stack of rows of cells -/
def StkIs (w : World) (base e size g cap n : Nat) (xs : List Value) : Prop :=
  ∃ cur, base ≤ g ∧ w.heap[g]? = some (.cells cur e (0, 0)) ∧ n ≤ cap ∧ cap ≤ maxLen ∧ cur.size = cap * size ∧ cur.toList.take (n * size) = xs ∧ xs.length = n * size
theorem StkIs.owns {w : World} {base e size g cap n : Nat} {xs : List Value} (h : StkIs w base e size g cap n xs) : w.ownsRow base e size (.slice (some ⟨g, 0, none⟩) n cap) n xs := by
  obtain ⟨cur, h1, h2, h3, h4, h5, h6, h7⟩ := h
  exact ⟨h7, .inr ⟨g, cap, cur, rfl, h1, h2, h3, h4, h5, h6⟩⟩
theorem StkIs.of_owns {w : World} {base e size n : Nat} {v : Value} {xs : List Value} (h : w.ownsRow base e size v n xs) (hn : 0 < n) : ∃ g cap, v = .slice (some ⟨g, 0, none⟩) n cap ∧ StkIs w base e size g cap n xs := by
  rcases h.2 with ⟨_, hz⟩ | ⟨g, cap, cur, rfl, h1, h2, h3, h4, h5, h6⟩
  · omega
  · exact ⟨g, cap, rfl, cur, h1, h2, h3, h4, h5, h6, h.1⟩
theorem StkIs.kept {w w' : World} {base e size g cap n : Nat} {xs : List Value} (h : StkIs w base e size g cap n xs) (hg : w'.heap[g]? = w.heap[g]?) : StkIs w' base e size g cap n xs := by
  obtain ⟨cur, h1, h2, h3⟩ := h
  exact ⟨cur, h1, hg.trans h2, h3⟩
theorem StkIs.lt {w : World} {base e size g cap n : Nat} {xs : List Value} (h : StkIs w base e size g cap n xs) : g < w.heap.size := by
  obtain ⟨cur, h1, h2, h3⟩ := h
  exact (Array.getElem?_eq_some_iff.1 h2).1
theorem StkIs.cell {w : World} {base e size g cap n : Nat} {xs : List Value} (h : StkIs w base e size g cap n xs) {j : Nat} {u : Value} (hj : xs[j]? = some u) : w.cell? ⟨g, j, none⟩ = some u := by
  obtain ⟨cur, h1, h2, h3, h4, h5, h6, h7⟩ := h
  rw [← h6, List.getElem?_take] at hj
  split at hj
  · simpa [World.cell?, h2] using hj
  · cases hj
theorem StkIs.froz {w : World} {base e size g cap n : Nat} {xs : List Value} (h : StkIs w base e size g cap n xs) (j : Nat) : w.frozen? ⟨g, j, none⟩ = false := by
  obtain ⟨cur, h1, h2, h3⟩ := h
  simp [World.frozen?, h2]
theorem setCell_at {w : World} {g j : Nat} {cur : Array Value} {e : TypeId} {v : Value} (h : w.heap[g]? = some (.cells cur e (0, 0))) : (w.setCell ⟨g, j, none⟩ v).heap[g]? = some (.cells (cur.setIfInBounds j v) e (0, 0)) := by
  simp [World.setCell, Array.getElem?_modify, h]
theorem setCell_off {w : World} {g j k : Nat} {v : Value} (h : k ≠ g) : (w.setCell ⟨g, j, none⟩ v).heap[k]? = w.heap[k]? := by
  simp [World.setCell, Array.getElem?_modify, Ne.symm h]
theorem StkIs.set {w : World} {base e size g cap n : Nat} {xs : List Value} (h : StkIs w base e size g cap n xs) {j : Nat} (u : Value) (hj : j < xs.length) : StkIs (w.setCell ⟨g, j, none⟩ u) base e size g cap n (xs.set j u) := by
  obtain ⟨cur, h1, h2, h3, h4, h5, h6, h7⟩ := h
  refine ⟨cur.setIfInBounds j u, h1, setCell_at h2, h3, h4, by simp [h5], ?_, by simp [h7]⟩
  rw [Array.toList_setIfInBounds, List.take_set, h6]
theorem StkIs.pop {w : World} {base e size g cap n : Nat} {xs ys : List Value} (h : StkIs w base e size g cap (n + 1) (xs ++ ys)) (hy : ys.length = size) : StkIs w base e size g cap n xs := by
  obtain ⟨cur, h1, h2, h3, h4, h5, h6, h7⟩ := h
  have hx : xs.length = n * size := by rw [List.length_append, hy, Nat.add_mul, Nat.one_mul] at h7; omega
  refine ⟨cur, h1, h2, by omega, h4, h5, ?_, hx⟩
  have := congrArg (List.take (n * size)) h6
  rw [List.take_take, Nat.min_eq_left (by rw [Nat.add_mul]; omega)] at this
  rw [this, ← hx, List.take_left']
  rfl
/-! ### levels -/
structure Lev where
  b : Nat
  off : Nat
  n : Nat
  cap : Nat
  nx : Nat
  a : Nat → Option Addr
  m : Nat → Nat
  q : Nat → Nat
  c : Nat → Nat
def Lev.pre (t : Lev) (k : Nat) : Nat := sumC (fun i => 1 + t.c i) k
def Lev.tot (t : Lev) : Nat := t.pre t.n
def Lev.key (t : Lev) : PKey := (t.b, t.off, t.n)
def Lev.cells (t : Lev) : List Value := [.slice (some ⟨t.b, t.off, none⟩) t.n t.cap, .int .i64 (t.nx : Int), .int .i64 (t.pre t.nx : Int)]
def lvX : List Lev → List Value
  | [] => []
  | t :: L => lvX L ++ t.cells
theorem lvX_len : ∀ L : List Lev, (lvX L).length = L.length * 3
  | [] => rfl
  | t :: L => by simp only [lvX, List.length_append, lvX_len L, List.length_cons]; show L.length * 3 + 3 = _; omega
structure Lev.ok (w : World) (F : Nat → Prop) (C : Nat) (t : Lev) : Prop where
  n0 : 0 < t.n
  nx : t.nx ≤ t.n
  hF : F t.b
  cell : ∀ i, i < t.n → w.cell? ⟨t.b, t.off + i * 11 + 10, none⟩ = some (.slice (t.a i) (t.m i) (t.q i))
  pc : ∀ i, i < t.n → PC w F (t.a i) (t.m i) (t.c i)
  C : t.tot ≤ C
theorem Lev.ok.tpc {w : World} {F : Nat → Prop} {C : Nat} {t : Lev} (h : t.ok w F C) : PC w F (some ⟨t.b, t.off, none⟩) t.n t.tot := .row t.b t.off t.n t.a t.m t.q t.c h.n0 h.hF h.cell h.pc
/-- a list of parts that is there, as a level -/
theorem lev_of {w : World} {F : Nat → Prop} {b off n c cap : Nat} (h : PC w F (some ⟨b, off, none⟩) n c) (hn : 0 < n) : ∃ t : Lev, t.b = b ∧ t.off = off ∧ t.n = n ∧ t.cap = cap ∧ t.nx = 0 ∧ t.tot = c ∧ ∀ C, c ≤ C → t.ok w F C := by
  cases h with
  | nil => omega
  | row _ _ _ a m q c hn hF hc hp => exact ⟨⟨b, off, n, cap, 0, a, m, q, c⟩, rfl, rfl, rfl, rfl, rfl, rfl, fun C hC => ⟨hn, Nat.zero_le _, hF, hc, hp, hC⟩⟩
def knB (l : List (PKey × Int)) (oa : Option Addr) (m : Nat) : Bool := match oa, m with
  | some a, m + 1 => (lkP (a.block, a.off, m + 1) l).isSome
  | _, _ => true
def Lev.ms (t : Lev) (l : List (PKey × Int)) : Nat := if t.nx < t.n then 1 + (if knB l (t.a t.nx) (t.m t.nx) = true then 1 else 3 * (1 + t.c t.nx)) + 3 * (t.tot - t.pre (t.nx + 1)) else 1
def stM (l : List (PKey × Int)) : List Lev → Nat
  | [] => 0
  | t :: L => t.ms l + stM l L
theorem pre_mono (t : Lev) {i j : Nat} (h : i ≤ j) : t.pre i ≤ t.pre j := by
  induction j with
  | zero => obtain rfl : i = 0 := by omega
            exact Nat.le_refl _
  | succ j ih =>
    by_cases e : i = j + 1
    · subst e; exact Nat.le_refl _
    · have := ih (by omega)
      show t.pre i ≤ t.pre j + (1 + t.c j); omega
theorem kn_up (l : List (PKey × Int)) (k : PKey) (v : Int) {oa : Option Addr} {m : Nat} (h : knB l oa m = true) : knB (upP k v l) oa m = true := by
  unfold knB at h ⊢
  split
  · rename_i a m
    dsimp only at h
    rw [lk_up]
    split
    · rfl
    · exact h
  · rfl
theorem ms_up (t : Lev) (l : List (PKey × Int)) (k : PKey) (v : Int) : t.ms (upP k v l) ≤ t.ms l := by
  unfold Lev.ms
  split
  · by_cases h : knB l (t.a t.nx) (t.m t.nx) = true
    · rw [if_pos h, if_pos (kn_up l k v h)]; exact Nat.le_refl _
    · rw [if_neg h]; split <;> omega
  · exact Nat.le_refl _
theorem st_up (l : List (PKey × Int)) (k : PKey) (v : Int) : ∀ L, stM (upP k v l) L ≤ stM l L
  | [] => Nat.le_refl _
  | t :: L => by have := ms_up t l k v; have := st_up l k v L; unfold stM; omega
def Lev.next (t : Lev) : Lev := { t with nx := t.nx + 1 }
theorem ms_next (t : Lev) (l : List (PKey × Int)) (h : t.nx < t.n) : t.next.ms l < t.ms l := by
  have p := pre_mono t (i := t.nx + 1) (j := t.n) (by omega)
  unfold Lev.ms
  rw [if_pos h]
  show (if t.nx + 1 < t.n then 1 + (if knB l (t.a (t.nx + 1)) (t.m (t.nx + 1)) = true then 1 else 3 * (1 + t.c (t.nx + 1))) + 3 * (t.tot - t.pre (t.nx + 1 + 1)) else 1) < _
  split
  · rename_i h2
    have p2 := pre_mono t (i := t.nx + 1 + 1) (j := t.n) (by omega)
    have e : t.pre (t.nx + 1 + 1) = t.pre (t.nx + 1) + (1 + t.c (t.nx + 1)) := rfl
    have e2 : t.tot = t.pre t.n := rfl
    split <;> split <;> omega
  · split <;> omega
theorem ms_new (u : Lev) (l : List (PKey × Int)) (h : u.nx = 0) (hn : 0 < u.n) : u.ms l ≤ 1 + 3 * u.tot := by
  unfold Lev.ms
  rw [h, if_pos hn, show u.pre (0 + 1) = u.pre 1 from rfl]
  have p := pre_mono u (i := 1) (j := u.n) (by omega)
  have e : u.pre 1 = 1 + u.c 0 := by show 0 + (1 + u.c 0) = _; omega
  have e2 : u.tot = u.pre u.n := rfl
  split <;> omega
theorem ms_push (t u : Lev) (l : List (PKey × Int)) (k : PKey) (v : Int) (h : t.nx < t.n) (h1 : knB l (t.a t.nx) (t.m t.nx) = false) (h2 : knB (upP k v l) (t.a t.nx) (t.m t.nx) = true) (hu : u.nx = 0) (hn : 0 < u.n) (hc : u.tot = t.c t.nx) : u.ms (upP k v l) + t.ms (upP k v l) < t.ms l := by
  have := ms_new u (upP k v l) hu hn
  have e : t.ms (upP k v l) = 1 + 1 + 3 * (t.tot - t.pre (t.nx + 1)) := by unfold Lev.ms; rw [if_pos h, if_pos h2]
  have e2 : t.ms l = 1 + 3 * (1 + t.c t.nx) + 3 * (t.tot - t.pre (t.nx + 1)) := by unfold Lev.ms; rw [if_pos h, if_neg (by rw [h1]; decide)]
  omega
theorem ms_pos (t : Lev) (l : List (PKey × Int)) : 1 ≤ t.ms l := by unfold Lev.ms; split <;> omega
/-- what is known is so -/
structure KnOk (w : World) (F : Nat → Prop) (l : List (PKey × Int)) (L : List Lev) : Prop where
  hF : ∀ y ∈ l, F y.1.1
  v : ∀ k v, lkP k l = some v → (v = -1 ∧ ∃ t ∈ L, t.key = k) ∨ ∃ c : Nat, v = (c : Int) ∧ PC w F (some ⟨k.1, k.2.1, none⟩) k.2.2 c
theorem upP_mem {k : PKey} {v : Int} : ∀ {l : List (PKey × Int)} {y : PKey × Int}, y ∈ upP k v l → y.1 = k ∨ y ∈ l
  | [], y, h => by simp only [upP, List.mem_singleton] at h; exact .inl (by rw [h])
  | x :: l, y, h => by
    unfold upP at h
    split at h
    · rcases List.mem_cons.1 h with rfl | h
      · exact .inl rfl
      · exact .inr (List.mem_cons_of_mem _ h)
    · rcases List.mem_cons.1 h with rfl | h
      · exact .inr (List.mem_cons_self ..)
      · exact (upP_mem h).imp id (List.mem_cons_of_mem _)
theorem KnOk.pop {w : World} {F : Nat → Prop} {C : Nat} {l : List (PKey × Int)} {t : Lev} {L : List Lev} (h : KnOk w F l (t :: L)) (ht : t.ok w F C) : KnOk w F (upP t.key (t.tot : Int) l) L := by
  refine ⟨fun y hy => ?_, fun k v hk => ?_⟩
  · rcases upP_mem hy with e | e
    · rw [e]; exact ht.hF
    · exact h.hF y e
  · rw [lk_up] at hk
    split at hk
    · rename_i e
      simp only [Option.some.injEq] at hk
      subst e
      exact .inr ⟨t.tot, hk.symm, ht.tpc⟩
    · rename_i e
      rcases h.v k v hk with ⟨rfl, t', ht', rfl⟩ | h2
      · rcases List.mem_cons.1 ht' with rfl | ht'
        · exact absurd rfl e
        · exact .inl ⟨rfl, t', ht', rfl⟩
      · exact .inr h2
theorem KnOk.push {w : World} {F : Nat → Prop} {C : Nat} {l : List (PKey × Int)} {u : Lev} {L : List Lev} (h : KnOk w F l L) (hu : u.ok w F C) : KnOk w F (upP u.key (-1) l) (u :: L) := by
  refine ⟨fun y hy => ?_, fun k v hk => ?_⟩
  · rcases upP_mem hy with e | e
    · rw [e]; exact hu.hF
    · exact h.hF y e
  · rw [lk_up] at hk
    split at hk
    · rename_i e
      simp only [Option.some.injEq] at hk
      exact .inl ⟨hk.symm, u, List.mem_cons_self .., e⟩
    · rcases h.v k v hk with ⟨rfl, t', ht', e⟩ | h2
      · exact .inl ⟨rfl, t', List.mem_cons_of_mem _ ht', e⟩
      · exact .inr h2
theorem KnOk.next {w : World} {F : Nat → Prop} {l : List (PKey × Int)} {t : Lev} {L : List Lev} (h : KnOk w F l (t :: L)) : KnOk w F l (t.next :: L) := by
  refine ⟨h.hF, fun k v hk => ?_⟩
  rcases h.v k v hk with ⟨rfl, t', ht', e⟩ | h2
  · rcases List.mem_cons.1 ht' with rfl | ht'
    · exact .inl ⟨rfl, t'.next, List.mem_cons_self .., e⟩
    · exact .inl ⟨rfl, t', List.mem_cons_of_mem _ ht', e⟩
  · exact .inr h2
/-- a child that is known is known with its number -/
theorem KnOk.child {w : World} {F : Nat → Prop} {C : Nat} {l : List (PKey × Int)} {t : Lev} {L : List Lev} (h : KnOk w F l (t :: L)) (hL : ∀ x ∈ t :: L, x.ok w F C) (hs : ∀ x ∈ t :: L, t.tot ≤ x.tot) (hx : t.nx < t.n) {b off m : Nat} {v : Int} (ha : t.a t.nx = some ⟨b, off, none⟩) (hm : t.m t.nx = m) (hk : lkP (b, off, m) l = some v) : v = (t.c t.nx : Int) := by
  have pc := (hL t (List.mem_cons_self ..)).pc t.nx hx
  rw [ha, hm] at pc
  rcases h.v _ v hk with ⟨rfl, t', ht', e⟩ | ⟨c, rfl, hc⟩
  · have p2 := (hL t' ht').tpc
    unfold Lev.key at e
    simp only [Prod.mk.injEq] at e
    rw [e.1, e.2.1, e.2.2] at p2
    have e1 := p2.det pc
    have e2 := hs t' ht'
    have e3 := pre_mono t (i := t.nx + 1) (j := t.n) (by omega)
    have e4 : t.pre (t.nx + 1) = t.pre t.nx + (1 + t.c t.nx) := rfl
    have e5 : t.tot = t.pre t.n := rfl
    omega
  · rw [hc.det pc]
end Go.Proofs.Ytfooaikpcbnchaa
