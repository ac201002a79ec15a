/-
  OWN WORK. What the program's values show: points, boxes, contours.
-/
import Derived.Test.YtgdjfclpncpnpaaDynT
import Derived.Test.YtgdjfclpncpnpaaCob
namespace Go.Proofs.Ytgdjfclpncpnpaa
open Go Go.RowKit Sym

/-! ### what values show -/
def cI (x : Int) : Dyn.DC := .p (vi x)
def cB (x : Bool) : Dyn.DC := .p (vb x)
def dvI (x : Int) : Dyn.DV := .one (cI x)
def dvB (x : Bool) : Dyn.DV := .one (cB x)
def cP (p : P2) : List Dyn.DC := [.p (vi p.x), .p (vi p.y)]
def cX (b : B4) : List Dyn.DC := [.p (vi b.x0), .p (vi b.y0), .p (vi b.x1), .p (vi b.y1)]
def dvP (p : P2) : Dyn.DV := .agg (cP p)
def dvX (b : B4) : Dyn.DV := .agg (cX b)
def rI (x : Int) : Dyn.RV := .val (dvI x)
def rB (x : Bool) : Dyn.RV := .val (dvB x)
/-- contours: how many, how many points each has, which -/
structure Ctr where
  n : Nat
  m : Nat → Nat
  p : Nat → Nat → P2
def cRow (n : Nat) (p : Nat → P2) : Dyn.DC := .row n fun k => cP (p k)
def cCtr (l : Ctr) : Dyn.DC := .row l.n fun i => [cRow (l.m i) (l.p i)]
def dvC (l : Ctr) : Dyn.DV := .one (cCtr l)

/-! ### blocks -/
def bodyD : Option Code → Code
  | some c => c
  | none => .skip
def blkD (c : Option Code) (i : Nat) : Code := match c with
  | some c => ((blocksL c).getD i (0, .skip)).2
  | none => .skip
def unloopD : Code → Code
  | .loop c => c
  | c => c
def intD : Dyn.SV → Int
  | .v (.int _ x) => x
  | .k (.int _ x) => x
  | _ => 0
def boolD : Dyn.SV → Bool
  | .v (.bool x) => x
  | .k (.bool x) => x
  | _ => false
/-- what a step of a loop forgets: the names from the n-th on, the slots of the mask -/
def keepN (n j v : Nat) (_ : AExit) (s : Dyn.St) : Dyn.St := Dyn.relabel (List.range n) j v s
theorem keepN_ent {P : Program} {w0 : Dyn.Base P} (n j v : Nat) (e : AExit) (s : Dyn.St) : Dyn.Ent w0 s (keepN n j v e s) := Dyn.Ent.label (List.nodup_range) j v s
/-- slots, by their numbers -/
def sparse : Nat → Nat → List (Nat × Dyn.SV) → List Dyn.SV
  | _, 0, _ => []
  | i, n + 1, [] => .junk :: sparse (i + 1) n []
  | i, n + 1, (k, x) :: l => bif Nat.beq k i then x :: sparse (i + 1) n l else .junk :: sparse (i + 1) n ((k, x) :: l)
def mkS (n : Nat) (l : List (Nat × Dyn.SV)) (h : List (Option Dyn.HE)) : Dyn.St := { slots := sparse 0 n l, heap := h }
/-- names σ, slots ks of n -/
def keepS (n : Nat) (σ ks : List Nat) (v : Nat) (s : Dyn.St) : Dyn.St := Dyn.relabel σ ((2 ^ n - 1) ^^^ maskOf ks) v s
theorem keepS_ent {P : Program} {w0 : Dyn.Base P} (n : Nat) {σ : List Nat} (hσ : σ.Nodup) (ks : List Nat) (v : Nat) (s : Dyn.St) : Dyn.Ent w0 s (keepS n σ ks v s) := Dyn.Ent.label hσ _ v s
/-- a value in a slot; a row's handle -/
def sV (x : Value) : Dyn.SV := .v x
def sH (n j len : Nat) : Dyn.SV := .v (.slice (some ⟨n, j, some 0⟩) len 0)
def sL (n : Nat) : Dyn.SV := .v (.pointer (some ⟨n, 0, none⟩))
def sI (x : Int) : Dyn.SV := .v (vi x)
def sB (x : Bool) : Dyn.SV := .v (vb x)
/-- an odd number of the first n -/
def parN (f : Nat → Bool) : Nat → Bool
  | 0 => false
  | n + 1 => xor (parN f n) (f n)
def anyN (f : Nat → Bool) : Nat → Bool
  | 0 => false
  | n + 1 => anyN f n || f n
/-- A loop that counts from 0 to n: its states at the head, what each round does to the rest. -/
theorem count_block {P : Program} {X : Dyn.Tabs} {lp : Dyn.Lp} {w0 : Dyn.Base P} (ht : Dyn.TabsOk P X) (hm : P.follows .mixedOrders = true) {fuel id : Nat} {c : Code} (hl : Dyn.LpOk P w0 lp (blocksL c)) {α : Type} (S : Nat → α → Dyn.St) (n : Nat) (I : Nat → α → Prop)
    (f : AExit → Dyn.St → Dyn.St) (hf : ∀ e s, Dyn.Ent w0 s (f e s)) (B : Nat → α → Dyn.Out) (E : AExit → Dyn.St → Prop) (hB : ∀ k a, (Dyn.lexec P X lp fuel c .leaf (S k a)).rl f = B k a)
    (hstep : ∀ k a, k < n → I k a → (B k a).sat fun e s => match e with
      | .normal => ∃ a', I (k + 1) a' ∧ Dyn.Fits s (S (k + 1) a')
      | e => E e s)
    (hend : ∀ a, I n a → (B n a).sat fun e s => match e with
      | .normal => False
      | e => E e s)
    {a0 : α} {s0 : Dyn.St} {o : Dyn.Out} (hi : I 0 a0) (h0 : Dyn.Ent w0 s0 (S 0 a0))
    (hG : ∀ (F : AExit → Dyn.St → Prop), (∀ e s s', Dyn.Ent w0 s s' → F e s' → F e s) → o.sat F → ∀ e s, E e s → match e with
      | .normal => True
      | .exit i => if i = id then F .normal s else F (.exit i) s
      | .ret => F .ret s) : Dyn.BlockSound P w0 id (.loop c) s0 o := by
  refine Dyn.block_loop ht hm hl (ι := Nat × α) (fun x => S x.1 x.2) (fun x => x.1 ≤ n ∧ I x.1 x.2) (fun x => n - x.1) f hf (fun x => B x.1 x.2) E (fun x _ => hB x.1 x.2) ?_ (x0 := (0, a0)) ⟨Nat.zero_le _, hi⟩ h0 hG
  rintro ⟨k, a⟩ ⟨hk, hI⟩
  dsimp only at hk hI ⊢
  rcases Nat.lt_or_eq_of_le hk with hlt | rfl
  · refine Dyn.Out.sat_mono (fun e s hs => ?_) (hstep k a hlt hI)
    cases e with
    | normal =>
      obtain ⟨a', h1, h2⟩ := hs
      exact ⟨(k + 1, a'), ⟨hlt, h1⟩, by dsimp only; omega, h2⟩
    | exit i => exact hs
    | ret => exact hs
  · refine Dyn.Out.sat_mono (fun e s hs => ?_) (hend a hI)
    cases e with
    | normal => exact hs.elim
    | exit i => exact hs
    | ret => exact hs
/-- entries of tables over what arguments show -/
theorem lpOk_cons {P : Program} {w0 : Dyn.Base P} {lp : Dyn.Lp} {p : Nat × Code} {l : List (Nat × Code)} (h : ∀ s o, lp p.1 s = some o → Dyn.BlockSound P w0 p.1 p.2 s o) (k : Dyn.LpOk P w0 lp l) : Dyn.LpOk P w0 lp (p :: l) := fun q hq => by
  rcases List.mem_cons.1 hq with rfl | hq
  · exact h
  · exact k q hq
theorem lpOk_nil {P : Program} {w0 : Dyn.Base P} {lp : Dyn.Lp} : Dyn.LpOk P w0 lp [] := fun q hq => by cases hq
/-- what a summary asks of its state -/
theorem side_one {P : Program} {w0 : Dyn.Base P} {id : Nat} {c : Code} {s : Dyn.St} {p : Prop} {o : Dyn.Out} (h : p → Dyn.BlockSound P w0 id c s o) : Dyn.BlockSound P w0 id c s (.side [p] o) := fun Q a w β m ng ho => h ho.1.1 Q a w β m ng ho.2
theorem side_two {P : Program} {w0 : Dyn.Base P} {id : Nat} {c : Code} {s : Dyn.St} {p q : Prop} {o : Dyn.Out} (h : p → q → Dyn.BlockSound P w0 id c s o) : Dyn.BlockSound P w0 id c s (.side [p, q] o) := fun Q a w β m ng ho => h ho.1.1 ho.1.2.1 Q a w β m ng ho.2
def foldN {α : Type} (g : Nat → α → α) (a : α) : Nat → α
  | 0 => a
  | n + 1 => g n (foldN g a n)
theorem anyN_iff {f : Nat → Bool} : ∀ {n : Nat}, anyN f n = true ↔ ∃ k, k < n ∧ f k = true
  | 0 => by simp [anyN]
  | n + 1 => by
    simp only [anyN, Bool.or_eq_true, anyN_iff (n := n)]
    constructor
    · rintro (⟨k, h1, h2⟩ | h)
      · exact ⟨k, by omega, h2⟩
      · exact ⟨n, by omega, h⟩
    · rintro ⟨k, h1, h2⟩
      rcases Nat.lt_or_eq_of_le (Nat.le_of_lt_succ h1) with h | rfl
      · exact .inl ⟨k, h, h2⟩
      · exact .inr h2
/-- A loop that counts and reckons on. -/
theorem fold_block {P : Program} {X : Dyn.Tabs} {lp : Dyn.Lp} {w0 : Dyn.Base P} (ht : Dyn.TabsOk P X) (hm : P.follows .mixedOrders = true) {fuel id : Nat} {c : Code} (hl : Dyn.LpOk P w0 lp (blocksL c)) {α : Type} (S : Nat → α → Dyn.St) (n : Nat) (g : Nat → α → α) (a0 : α)
    (f : AExit → Dyn.St → Dyn.St) (hf : ∀ e s, Dyn.Ent w0 s (f e s)) (B : Nat → α → Dyn.Out) (hB : ∀ k a, (Dyn.lexec P X lp fuel c .leaf (S k a)).rl f = B k a)
    (hstep : ∀ k, k < n → (B k (foldN g a0 k)).sat fun e s => e = .normal ∧ Dyn.Fits s (S (k + 1) (g k (foldN g a0 k))))
    (hend : (B n (foldN g a0 n)).sat fun e s => e = .exit id ∧ Dyn.Fits s (S n (foldN g a0 n)))
    {s0 : Dyn.St} (h0 : Dyn.Ent w0 s0 (S 0 a0)) : Dyn.BlockSound P w0 id (.loop c) s0 (.leaf .normal (S n (foldN g a0 n))) := by
  refine count_block ht hm hl S n (fun k a => a = foldN g a0 k) f hf B (fun e s => e = .exit id ∧ Dyn.Fits s (S n (foldN g a0 n))) hB (fun k a hk ha => ?_) (fun a ha => ?_) rfl h0 (fun F hF ho e s hE => ?_)
  · subst ha
    refine Dyn.Out.sat_mono (fun e s hs => ?_) (hstep k hk)
    obtain ⟨rfl, hs⟩ := hs
    exact ⟨_, rfl, hs⟩
  · subst ha
    refine Dyn.Out.sat_mono (fun e s hs => ?_) hend
    obtain ⟨rfl, hs⟩ := hs
    exact ⟨rfl, hs⟩
  · obtain ⟨rfl, hs⟩ := hE
    dsimp only
    rw [if_pos rfl]; exact hF _ _ _ (Dyn.Ent.fits hs) ho
/-- A loop that counts until something holds: then it returns. -/
theorem any_block {P : Program} {X : Dyn.Tabs} {lp : Dyn.Lp} {w0 : Dyn.Base P} (ht : Dyn.TabsOk P X) (hm : P.follows .mixedOrders = true) {fuel id : Nat} {c : Code} (hl : Dyn.LpOk P w0 lp (blocksL c)) (S : Nat → Dyn.St) (n : Nat) (q : Nat → Bool) (R : Dyn.St)
    (f : AExit → Dyn.St → Dyn.St) (hf : ∀ e s, Dyn.Ent w0 s (f e s)) (B : Nat → Dyn.Out) (hB : ∀ k, (Dyn.lexec P X lp fuel c .leaf (S k)).rl f = B k)
    (hstep : ∀ k, k < n → (B k).sat fun e s => (e = .normal ∧ q k = false ∧ Dyn.Fits s (S (k + 1))) ∨ (e = .ret ∧ q k = true ∧ s = R))
    (hend : (B n).sat fun e s => e = .exit id ∧ Dyn.Fits s (S n))
    {s0 : Dyn.St} (h0 : Dyn.Ent w0 s0 (S 0)) : Dyn.BlockSound P w0 id (.loop c) s0 (.ite (anyN q n) (.leaf .ret R) (.leaf .normal (S n))) := by
  refine count_block ht hm hl (α := Unit) (fun k _ => S k) n (fun k _ => anyN q k = false) f hf (fun k _ => B k) (fun e s => (e = .exit id ∧ anyN q n = false ∧ Dyn.Fits s (S n)) ∨ (e = .ret ∧ anyN q n = true ∧ s = R)) (fun k _ => hB k) (fun k a hk ha => ?_) (fun a ha => ?_) (a0 := ()) rfl h0 (fun F hF ho e s hE => ?_)
  · refine Dyn.Out.sat_mono (fun e s hs => ?_) (hstep k hk)
    rcases hs with ⟨rfl, h1, h2⟩ | ⟨rfl, h1, h2⟩
    · exact ⟨(), by simp only [anyN, ha, h1, Bool.or_false], h2⟩
    · exact .inr ⟨rfl, anyN_iff.2 ⟨k, hk, h1⟩, h2⟩
  · refine Dyn.Out.sat_mono (fun e s hs => ?_) hend
    obtain ⟨rfl, hs⟩ := hs
    exact .inl ⟨rfl, ha, hs⟩
  · rcases hE with ⟨rfl, h1, h2⟩ | ⟨rfl, h1, rfl⟩
    · dsimp only
      rw [if_pos rfl]; exact hF _ _ _ (Dyn.Ent.fits h2) (ho.2 h1)
    · exact ho.1 h1
/-! ### entries -/
theorem CallD_le {P : Program} {K : Nat} {args args' : List Dyn.DV} {r : Dyn.RV} (h : Dyn.DVsLe args' args) (k : Dyn.CallD P K args r) : Dyn.CallD P K args' r := fun w F us hF hd => k w F us hF (Dyn.DenVs_le h hd)
/-- the contours that a row shows -/
def ctrOf (n : Nat) (f : Nat → List Dyn.DC) : Ctr := ⟨n, fun i => match f i with
  | [.row m _] => m
  | _ => 0, fun i k => match f i with
  | [.row _ g] => match g k with
    | [.p (.int _ x), .p (.int _ y)] => ⟨x, y⟩
    | _ => ⟨0, 0⟩
  | _ => ⟨0, 0⟩⟩
def ctrIs (n : Nat) (f : Nat → List Dyn.DC) : Prop := ∀ i, i < n → f i = [cRow ((ctrOf n f).m i) ((ctrOf n f).p i)]
def CtrB (l : Ctr) : Prop := l.n ≤ 1000000000 ∧ ∀ i, i < l.n → l.m i ≤ 1000000000
def aP : Dyn.DV → Option P2
  | .agg [.p (.int .i64 x), .p (.int .i64 y)] => some ⟨x, y⟩
  | _ => none
def aX : Dyn.DV → Option B4
  | .agg [.p (.int .i64 a), .p (.int .i64 b), .p (.int .i64 c), .p (.int .i64 d)] => some ⟨a, b, c, d⟩
  | _ => none
def aI : Dyn.DV → Option Int
  | .one (.p (.int .i64 x)) => some x
  | _ => none
def aB : Dyn.DV → Option Bool
  | .one (.p (.bool x)) => some x
  | _ => none
def aC : Dyn.DV → Option (Ctr × List Prop)
  | .one (.row n f) => some (ctrOf n f, [CtrB (ctrOf n f), ctrIs n f])
  | _ => none
theorem aP_eq {d : Dyn.DV} {x : P2} (h : aP d = some x) : Dyn.DVLe d (dvP x) := by
  unfold aP at h; split at h
  · simp only [Option.some.injEq] at h; subst h; exact Dyn.DVLe.refl _
  · cases h
theorem aX_eq {d : Dyn.DV} {x : B4} (h : aX d = some x) : Dyn.DVLe d (dvX x) := by
  unfold aX at h; split at h
  · simp only [Option.some.injEq] at h; subst h; exact Dyn.DVLe.refl _
  · cases h
theorem aI_eq {d : Dyn.DV} {x : Int} (h : aI d = some x) : Dyn.DVLe d (dvI x) := by
  unfold aI at h; split at h
  · simp only [Option.some.injEq] at h; subst h; exact Dyn.DVLe.refl _
  · cases h
theorem aB_eq {d : Dyn.DV} {x : Bool} (h : aB d = some x) : Dyn.DVLe d (dvB x) := by
  unfold aB at h; split at h
  · simp only [Option.some.injEq] at h; subst h; exact Dyn.DVLe.refl _
  · cases h
theorem aC_eq {d : Dyn.DV} {x : Ctr} {ps : List Prop} (h : aC d = some (x, ps)) (hp : allP ps) : Dyn.DVLe d (dvC x) ∧ CtrB x := by
  unfold aC at h; split at h
  · simp only [Option.some.injEq, Prod.mk.injEq] at h
    obtain ⟨rfl, rfl⟩ := h
    exact ⟨⟨rfl, hp.2.1⟩, hp.1⟩
  · cases h
/-- an entry of two arguments, the second of them contours -/
def enPC (F : P2 → Ctr → Dyn.RV) : List Dyn.DV → Option (Dyn.RV × List Prop)
  | [a, b] => match aP a, aC b with
    | some x, some (l, ps) => some (F x l, ps)
    | _, _ => none
  | _ => none
def enXC (F : B4 → Ctr → Dyn.RV) : List Dyn.DV → Option (Dyn.RV × List Prop)
  | [a, b] => match aX a, aC b with
    | some x, some (l, ps) => some (F x l, ps)
    | _, _ => none
  | _ => none
theorem enPC_ok {P : Program} {K : Nat} {F : P2 → Ctr → Dyn.RV} (h : ∀ x l, CtrB l → Dyn.CallD P K [dvP x, dvC l] (F x l)) : Dyn.EntryDOk P (K, enPC F) := fun args r ps hr hp => by
  dsimp only at hr
  unfold enPC at hr
  split at hr
  · split at hr
    · rename_i x l ps' hx hl
      simp only [Option.some.injEq, Prod.mk.injEq] at hr
      obtain ⟨rfl, rfl⟩ := hr
      obtain ⟨h1, h2⟩ := aC_eq hl hp
      exact CallD_le (args := [dvP x, dvC l]) ⟨aP_eq hx, h1, trivial⟩ (h x l h2)
    · cases hr
  · cases hr
theorem enXC_ok {P : Program} {K : Nat} {F : B4 → Ctr → Dyn.RV} (h : ∀ x l, CtrB l → Dyn.CallD P K [dvX x, dvC l] (F x l)) : Dyn.EntryDOk P (K, enXC F) := fun args r ps hr hp => by
  dsimp only at hr
  unfold enXC at hr
  split at hr
  · split at hr
    · rename_i x l ps' hx hl
      simp only [Option.some.injEq, Prod.mk.injEq] at hr
      obtain ⟨rfl, rfl⟩ := hr
      obtain ⟨h1, h2⟩ := aC_eq hl hp
      exact CallD_le (args := [dvX x, dvC l]) ⟨aX_eq hx, h1, trivial⟩ (h x l h2)
    · cases hr
  · cases hr
/-! ### names that are found in slots -/
def nmOf : Dyn.SV → Nat
  | .v (.slice (some a) _ _) => a.block
  | .v (.pointer (some a)) => a.block
  | _ => 0
def nmsOf (s : Dyn.St) : List Nat → List Nat
  | [] => []
  | t :: l => nmOf (s.slots.getD t .junk) :: nmsOf s l
def memB (n : Nat) : List Nat → Bool
  | [] => false
  | m :: l => bif Nat.beq m n then true else memB n l
def nodupB : List Nat → Bool
  | [] => true
  | n :: l => bif memB n l then false else nodupB l
theorem memB_iff {n : Nat} : ∀ {l : List Nat}, memB n l = true ↔ n ∈ l
  | [] => by simp [memB]
  | m :: l => by
    simp only [memB, List.mem_cons]
    cases h : Nat.beq m n with
    | true => simp [Nat.eq_of_beq_eq_true h]
    | false =>
      have : ¬ n = m := fun e => by subst e; rw [Nat.beq_refl] at h; cases h
      simp [memB_iff (l := l), this]
theorem nodupB_ok : ∀ {l : List Nat}, nodupB l = true → l.Nodup
  | [], _ => List.nodup_nil
  | n :: l, h => by
    simp only [nodupB] at h
    cases hb : memB n l with
    | true => rw [hb] at h; cases h
    | false =>
      rw [hb] at h
      exact List.nodup_cons.2 ⟨fun hm => (by rw [memB_iff.2 hm] at hb; cases hb), nodupB_ok h⟩
/-- names σ, then those that the slots hs name; slots ks of n -/
def keepA (n : Nat) (σ hs ks : List Nat) (v : Nat) (s : Dyn.St) : Dyn.St :=
  match nodupB (σ ++ nmsOf s hs) with
  | true => Dyn.relabel (σ ++ nmsOf s hs) ((2 ^ n - 1) ^^^ maskOf ks) v s
  | false => s
theorem keepA_ent {P : Program} {w0 : Dyn.Base P} (n : Nat) (σ hs ks : List Nat) (v : Nat) (s : Dyn.St) : Dyn.Ent w0 s (keepA n σ hs ks v s) := by
  unfold keepA
  split
  · rename_i h; exact Dyn.Ent.label (nodupB_ok h) _ v s
  · exact Dyn.Ent.refl w0 s
/-- after an append of one element -/
theorem le_app {t : TypeId} {n : Nat} {f g : Nat → List Dyn.DC} (h : g 0 = f n) : Dyn.HeLe (some (.own t (n + 1) (Dyn.appF n f g))) (some (.own t (n + 1) f)) := by
  refine ⟨rfl, rfl, fun i hi => ?_⟩
  unfold Dyn.appF
  by_cases k : i < n
  · rw [show Nat.blt i n = true from by rw [Nat.blt_eq]; exact k]; rfl
  · rw [show Nat.blt i n = false from by rw [Bool.eq_false_iff]; intro h; rw [Nat.blt_eq] at h; exact k h]
    have : i = n := by omega
    subst this
    rw [Nat.sub_self]; exact h
/-- a contract over plain values as one of the first executor's -/
theorem callOk_D {P : Program} {K : Nat} {ds : List Dyn.DV} {us : List Value} {v : Value} (h : ∀ w F, Dyn.DenVs w F ds us) (hd : Dyn.CallD P K ds (.val (.one (.p v)))) : CallOk P K us v := fun w => by
  have k := hd w (fun _ => False) us (fun b hb => hb.elim) (h w _)
  split at k
  · rename_i u w' heq
    rw [heq]
    obtain ⟨k1, k2⟩ := k
    cases k1
    exact ⟨rfl, k2⟩
  · rename_i f ax w1 heq
    rw [heq]
    obtain ⟨rfl, k⟩ := k
    refine ⟨rfl, k.mono ?_⟩
    rintro e w2 ⟨u, rfl, h1, h2⟩
    cases h1
    exact ⟨rfl, h2⟩
  · exact k.elim
theorem den_X (b : B4) (w : World) (F : Nat → Prop) : Dyn.DenV w F (dvX b) (bx b) := ⟨_, rfl, .p _ rfl, .p _ rfl, .p _ rfl, .p _ rfl, trivial⟩
theorem den_P (p : P2) (w : World) (F : Nat → Prop) : Dyn.DenV w F (dvP p) (pt p) := ⟨_, rfl, .p _ rfl, .p _ rfl, trivial⟩
theorem den_I (x : Int) (w : World) (F : Nat → Prop) : Dyn.DenV w F (dvI x) (vi x) := .p _ rfl
theorem den_B (x : Bool) (w : World) (F : Nat → Prop) : Dyn.DenV w F (dvB x) (vb x) := .p _ rfl
end Go.Proofs.Ytgdjfclpncpnpaa
