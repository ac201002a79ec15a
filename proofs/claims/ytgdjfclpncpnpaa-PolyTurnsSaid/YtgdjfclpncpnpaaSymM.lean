/-
  OWN WORK. A symbolic executor for Go text over open terms, part M: blocks that are told by a summary, loops by an invariant.
-/
import Derived.Test.YtgdjfclpncpnpaaSymL
namespace Go.Proofs.Ytgdjfclpncpnpaa.Sym
open Go Go.RowKit

def Out.bind : Out → (AExit → St → Out) → Out
  | .leaf e s, k => k e s
  | .ite b x y, k => .ite b (x.bind k) (y.bind k)
  | .side ps x, k => .side ps (x.bind k)
  | .fail, _ => .fail

def blocksL : Code → List (Nat × Code)
  | .seq a b => blocksL a ++ blocksL b
  | .cond _ a b => blocksL a ++ blocksL b
  | .block id c => (id, c) :: blocksL c
  | .loop c => blocksL c
  | _ => []

abbrev Lp := Nat → St → Option Out

def lexec (P : Program) (tb : Nat → List Value → Option (Value × List Prop)) (lp : Lp) (fuel : Nat) : Code → (AExit → St → Out) → St → Out
  | .skip, k, s => k .normal s
  | .region _ ops draw, k, s => match regRun P tb ops draw s with
    | some (s', ps) => sideOf ps (k .normal s')
    | none => .fail
  | .seq a b, k, s => lexec P tb lp fuel a (fun e s => match e with | .normal => lexec P tb lp fuel b k s | .exit id => k (.exit id) s | .ret => k .ret s) s
  | .cond c a b, k, s => match evS s.slots [] c with
    | .k (.bool q) => bif q then lexec P tb lp fuel a k s else lexec P tb lp fuel b k s
    | .v (.bool q) => match asim P tb (.cond c a b) s with
      | some (s', ps) => sideOf ps (k .normal s')
      | none => .ite q (lexec P tb lp fuel a k s) (lexec P tb lp fuel b k s)
    | _ => .fail
  | .block id c, k, s => match lp id s with
    | some o => o.bind k
    | none => lexec P tb lp fuel c (fun e s => match e with | .exit id' => if id' = id then k .normal s else k (.exit id') s | .normal => k .normal s | .ret => k .ret s) s
  | .loop c, k, s => loopN (fun self s => lexec P tb lp fuel c (fun e s => match e with | .normal => self s | .exit id => k (.exit id) s | .ret => k .ret s) s) fuel s
  | .exit id, k, s => k (.exit id) s
  | .ret, k, s => k .ret s
  | _, _, _ => .fail

theorem Out.sat_bind {F : AExit → St → Prop} {k : AExit → St → Out} : ∀ {o : Out}, (o.bind k).sat F → o.sat fun e s => (k e s).sat F
  | .leaf _ _, h => h
  | .ite _ x y, h => ⟨fun b => Out.sat_bind (h.1 b), fun b => Out.sat_bind (h.2 b)⟩
  | .side _ x, h => ⟨h.1, Out.sat_bind (o := x) h.2⟩
  | .fail, h => h.elim
theorem Out.sat_mono {F G : AExit → St → Prop} (h : ∀ e s, F e s → G e s) : ∀ {o : Out}, o.sat F → o.sat G
  | .leaf _ _, k => h _ _ k
  | .ite _ x y, k => ⟨fun b => Out.sat_mono h (k.1 b), fun b => Out.sat_mono h (k.2 b)⟩
  | .side _ x, k => ⟨k.1, Out.sat_mono h (o := x) k.2⟩
  | .fail, k => k.elim

section
variable {P : Program} {tb : Nat → List Value → Option (Value × List Prop)} {lp : Lp}

/-- what holds when a leaf is reached -/
def Sem (w0 : World) (Q : Exit → Act → World → Prop) (e : AExit) (s : St) : Prop := ∀ β a w, M w0 β s a w → NoG s → Q e.real a w
def BlockSound (P : Program) (w0 : World) (id : Nat) (c : Code) (s : St) (o : Out) : Prop :=
  ∀ (Q : Exit → Act → World → Prop) (a : Act) (w : World) (β : Nat → Nat), M w0 β s a w → NoG s → o.sat (Sem w0 Q) → (Code.block id c).wp P Q a w
def LpOk (P : Program) (w0 : World) (lp : Lp) (l : List (Nat × Code)) : Prop := ∀ p ∈ l, ∀ s o, lp p.1 s = some o → BlockSound P w0 p.1 p.2 s o
theorem LpOk.left {w0 : World} {l m : List (Nat × Code)} (h : LpOk P w0 lp (l ++ m)) : LpOk P w0 lp l := fun p hp => h p (List.mem_append.2 (.inl hp))
theorem LpOk.right {w0 : World} {l m : List (Nat × Code)} (h : LpOk P w0 lp (l ++ m)) : LpOk P w0 lp m := fun p hp => h p (List.mem_append.2 (.inr hp))

theorem least {p : Nat → Prop} (h : ∃ n, p n) : ∃ n, p n ∧ ∀ n', p n' → n ≤ n' := by
  obtain ⟨n, hn⟩ := h
  induction n using Nat.strongRecOn with
  | _ n ihn =>
    by_cases hx : ∃ n', n' < n ∧ p n'
    · obtain ⟨n', h1, h2⟩ := hx
      exact ihn n' h1 h2
    · exact ⟨n, hn, fun n' hn' => Nat.le_of_not_lt fun hlt => hx ⟨n', hlt, hn'⟩⟩
theorem least_eps {p : Nat → Prop} (h : ∃ n, p n) : p (Classical.epsilon fun n => p n ∧ ∀ n', p n' → n ≤ n') ∧ ∀ n', p n' → (Classical.epsilon fun n => p n ∧ ∀ n', p n' → n ≤ n') ≤ n' :=
  Classical.epsilon_spec (p := fun n => p n ∧ ∀ n', p n' → n ≤ n') (least h)

theorem lexec_sound {w0 : World} (ht : TbOk P tb) (hm : P.follows .mixedOrders = true) {F : AExit → St → Prop} {fuel : Nat} : ∀ (c : Code), LpOk P w0 lp (blocksL c) → ∀ (k : AExit → St → Out) (s : St) (Q : Exit → Act → World → Prop) (a : Act) (w : World) (β : Nat → Nat), M w0 β s a w → NoG s →
    (lexec P tb lp fuel c k s).sat F → (∀ e s β a w, M w0 β s a w → NoG s → (k e s).sat F → Q e.real a w) → c.wp P Q a w := by
  intro c
  induction c with
  | skip => intro _ k s Q a w β m ng h hk; exact wp_skip (hk .normal s β a w m ng h)
  | region id ops draw =>
    intro _ k s Q a w β m ng h hk
    simp only [lexec] at h
    split at h
    · rename_i s' ps hr
      obtain ⟨h1, h2⟩ := sideOf_sat h
      exact region_sound ht hm m ng hr h1 fun β a w m' ng' => hk .normal s' β a w m' ng' h2
    · exact h.elim
  | seq x y ihx ihy =>
    intro hl k s Q a w β m ng h hk
    simp only [lexec] at h
    refine wp_seq (ihx hl.left _ s _ a w β m ng h fun e s' β' a' w' m' ng' hs => ?_)
    cases e with
    | normal => exact ihy hl.right k s' Q a' w' β' m' ng' hs hk
    | exit id => exact hk (.exit id) s' β' a' w' m' ng' hs
    | ret => exact hk .ret s' β' a' w' m' ng' hs
  | cond c x y ihx ihy =>
    intro hl k s Q a w β m ng h hk
    simp only [lexec] at h
    split at h
    · rename_i q hq
      have hb := cond_bool m (.inl hq)
      cases q with
      | true => exact wp_cond_true hb (ihx hl.left k s Q a w β m ng h hk)
      | false => exact wp_cond_false hb (ihy hl.right k s Q a w β m ng h hk)
    · rename_i q hq
      have hb := cond_bool m (.inr hq)
      split at h
      · rename_i s' ps hsim
        obtain ⟨h1, h2⟩ := sideOf_sat h
        have ng' := (asim_frame _ _ _ _ ng hsim).1
        exact asim_sound ht hm _ _ _ _ Q a w β m ng hsim h1 fun β a w m' => hk .normal s' β a w m' ng' h2
      · cases q with
        | true => exact wp_cond_true hb (ihx hl.left k s Q a w β m ng (h.1 rfl) hk)
        | false => exact wp_cond_false hb (ihy hl.right k s Q a w β m ng (h.2 rfl) hk)
    · exact h.elim
  | block id c ih =>
    intro hl k s Q a w β m ng h hk
    simp only [lexec] at h
    split at h
    · rename_i o ho
      refine hl (id, c) (List.mem_cons_self ..) s o ho Q a w β m ng (Out.sat_mono (fun e s' hs => ?_) (Out.sat_bind h))
      exact fun β a w m' ng' => hk e s' β a w m' ng' hs
    · refine wp_block (ih (fun p hp => hl p (List.mem_cons_of_mem _ hp)) _ s _ a w β m ng h fun e s' β' a' w' m' ng' hs => ?_)
      cases e with
      | normal => exact hk .normal s' β' a' w' m' ng' hs
      | ret => exact hk .ret s' β' a' w' m' ng' hs
      | exit id' =>
        show if id' = id then Q Exit.normal a' w' else Q (Exit.exit id') a' w'
        dsimp only at hs
        split at hs
        · rename_i e
          rw [if_pos e]
          exact hk .normal s' β' a' w' m' ng' hs
        · rename_i e
          rw [if_neg e]
          exact hk (.exit id') s' β' a' w' m' ng' hs
  | loop c ih =>
    intro hl k s Q a w β m ng h hk
    simp only [lexec] at h
    refine wp_loop (fun a' w' => ∃ n s' β', M w0 β' s' a' w' ∧ NoG s' ∧ (loopN (fun self s => lexec P tb lp fuel c (fun e s => match e with | .normal => self s | .exit id => k (.exit id) s | .ret => k .ret s) s) n s').sat F)
      (fun a' w' => Classical.epsilon fun n => (∃ s' β', M w0 β' s' a' w' ∧ NoG s' ∧ (loopN (fun self s => lexec P tb lp fuel c (fun e s => match e with | .normal => self s | .exit id => k (.exit id) s | .ret => k .ret s) s) n s').sat F) ∧
        ∀ n', (∃ s' β', M w0 β' s' a' w' ∧ NoG s' ∧ (loopN (fun self s => lexec P tb lp fuel c (fun e s => match e with | .normal => self s | .exit id => k (.exit id) s | .ret => k .ret s) s) n' s').sat F) → n ≤ n') ⟨fuel, s, β, m, ng, h⟩ ?_
    intro a1 w1 hI
    obtain ⟨⟨s1, β1, m1, ng1, hs1⟩, hmin⟩ := least_eps (p := fun n => ∃ s' β', M w0 β' s' a1 w1 ∧ NoG s' ∧ (loopN (fun self s => lexec P tb lp fuel c (fun e s => match e with | .normal => self s | .exit id => k (.exit id) s | .ret => k .ret s) s) n s').sat F) hI
    generalize (Classical.epsilon fun n => (∃ s' β', M w0 β' s' a1 w1 ∧ NoG s' ∧ (loopN (fun self s => lexec P tb lp fuel c (fun e s => match e with | .normal => self s | .exit id => k (.exit id) s | .ret => k .ret s) s) n s').sat F) ∧
        ∀ n', (∃ s' β', M w0 β' s' a1 w1 ∧ NoG s' ∧ (loopN (fun self s => lexec P tb lp fuel c (fun e s => match e with | .normal => self s | .exit id => k (.exit id) s | .ret => k .ret s) s) n' s').sat F) → n ≤ n') = N at *
    cases N with
    | zero => exact hs1.elim
    | succ N =>
      simp only [loopN] at hs1
      refine ih hl _ s1 _ a1 w1 β1 m1 ng1 hs1 fun e s2 β2 a2 w2 m2 ng2 hs2 => ?_
      cases e with
      | normal =>
        have hI2 : ∃ n s' β', M w0 β' s' a2 w2 ∧ NoG s' ∧ (loopN (fun self s => lexec P tb lp fuel c (fun e s => match e with | .normal => self s | .exit id => k (.exit id) s | .ret => k .ret s) s) n s').sat F := ⟨N, s2, β2, m2, ng2, hs2⟩
        refine ⟨hI2, ?_⟩
        have := (least_eps hI2).2 N ⟨s2, β2, m2, ng2, hs2⟩
        exact Nat.lt_succ_of_le this
      | exit id => exact hk (.exit id) s2 β2 a2 w2 m2 ng2 hs2
      | ret => exact hk .ret s2 β2 a2 w2 m2 ng2 hs2
  | exit id => intro _ k s Q a w β m ng h hk; exact wp_exit (hk (.exit id) s β a w m ng h)
  | ret => intro _ k s Q a w β m ng h hk; exact wp_ret (hk .ret s β a w m ng h)
  | _ => intro _ k s Q a w β m ng h; exact h.elim

/-! ### states that say less -/
/-- slots of the mask j are forgotten, closed values of the mask v are any values -/
def weakL (j v : Nat) : Nat → List SV → List SV
  | _, [] => []
  | i, x :: xs => (if j.testBit i then .junk else if v.testBit i then (match x with | .k u => .v u | y => y) else x) :: weakL j v (i + 1) xs
def weak (j v : Nat) (s : St) : St := { s with slots := weakL j v 0 s.slots }
theorem weakL_length (j v : Nat) : ∀ (l : List SV) (i : Nat), (weakL j v i l).length = l.length
  | [], _ => rfl
  | _ :: l, i => by simp only [weakL, List.length_cons]; rw [weakL_length j v l (i + 1)]
theorem weakL_at (j v : Nat) : ∀ (l : List SV) (i n : Nat), (weakL j v i l).getD n .junk = (if j.testBit (i + n) then .junk else if v.testBit (i + n) then (match l.getD n .junk with | .k u => .v u | y => y) else l.getD n .junk)
  | [], i, n => by simp [weakL]
  | x :: l, i, 0 => by simp [weakL]
  | x :: l, i, n + 1 => by
    have := weakL_at j v l (i + 1) n
    simp only [weakL, List.getD_cons_succ]
    rw [this, show i + 1 + n = i + (n + 1) by omega]
theorem weak_noG {j v : Nat} {s : St} (h : NoG s) : NoG (weak j v s) := by
  intro x hx
  obtain ⟨n, hn⟩ := List.mem_iff_getElem?.1 hx
  have e : (weak j v s).slots.getD n .junk = x := by rw [List.getD_eq_getElem?_getD, hn]; rfl
  rw [← e]
  show isG ((weakL j v 0 s.slots).getD n .junk) = false
  rw [weakL_at]
  have h0 := h.at_ n
  split
  · rfl
  · split
    · split
      · rfl
      · exact h0
    · exact h0
theorem M_weak {w0 w : World} {β : Nat → Nat} {s : St} {a : Act} {j v : Nat} (ng : NoG s) (m : M w0 β s a w) : M w0 β (weak j v s) a w := by
  refine { defers := m.defers, size := by rw [m.size]; exact (weakL_length j v s.slots 0).symm, slot := fun i u hu => ?_, locs := fun i n hn => ?_, mem := m.mem }
  · have h := m.slot i u hu
    have g := ng.at_ i
    show Den β _ ((weakL j v 0 s.slots).getD i .junk) u
    rw [weakL_at]
    have h2 : Den β (weak j v s).slots (s.slots.getD i .junk) u := Den_congr (fun _ _ => rfl) (fun c hc => by rw [isG_conds g] at hc; cases hc) h
    split
    · trivial
    · split
      · split
        · rename_i x hx; rw [hx] at h2; exact h2
        · exact h2
      · exact h2
  · have hn' : n ∈ names ((weakL j v 0 s.slots).getD i .junk) := hn
    rw [weakL_at] at hn'
    split at hn'
    · simp [names] at hn'
    · split at hn'
      · split at hn'
        · simp [names] at hn'
        · exact m.locs i n hn'
      · exact m.locs i n hn'
theorem Sem_weak {w0 : World} {Q : Exit → Act → World → Prop} {e : AExit} {s : St} {j v : Nat} (h : Sem w0 Q e (weak j v s)) : Sem w0 Q e s := fun β a w m ng => h β a w (M_weak ng m) (weak_noG ng)

/-- A loop by its states at the head: each round leads to a state of less measure, or out. -/
theorem loop_inv {w0 : World} (ht : TbOk P tb) (hm : P.follows .mixedOrders = true) {fuel : Nat} {c : Code} (hl : LpOk P w0 lp (blocksL c)) {ι : Type} (S : ι → St) (inv : ι → Prop) (μ : ι → Nat) (G : AExit → St → Prop) (hng : ∀ x, NoG (S x)) (j v : Nat)
    (hbody : ∀ x, inv x → (lexec P tb lp fuel c .leaf (S x)).sat fun e s => match e with
      | .normal => ∃ y, inv y ∧ μ y < μ x ∧ S y = weak j v s
      | e => G e s)
    {x0 : ι} {s0 : St} (hi : inv x0) (h0 : S x0 = weak j v s0) {Q : Exit → Act → World → Prop} {a : Act} {w : World} {β : Nat → Nat} (m : M w0 β s0 a w) (ng : NoG s0)
    (hQ : ∀ e s, G e s → match e with | .normal => True | e => Sem w0 Q e s) : (Code.loop c).wp P Q a w := by
  have start : ∃ x β', inv x ∧ M w0 β' (S x) a w := ⟨x0, β, hi, h0 ▸ M_weak ng m⟩
  refine wp_loop (fun a' w' => ∃ x β', inv x ∧ M w0 β' (S x) a' w')
    (fun a' w' => Classical.epsilon fun n => (∃ x β', inv x ∧ M w0 β' (S x) a' w' ∧ μ x = n) ∧ ∀ n', (∃ x β', inv x ∧ M w0 β' (S x) a' w' ∧ μ x = n') → n ≤ n') start ?_
  intro a1 w1 ⟨x', β', hi', m'⟩
  have hI : ∃ n, ∃ x β', inv x ∧ M w0 β' (S x) a1 w1 ∧ μ x = n := ⟨_, x', β', hi', m', rfl⟩
  obtain ⟨⟨x1, β1, hi1, m1, hx1⟩, hmin⟩ := least_eps hI
  generalize (Classical.epsilon fun n => (∃ x β', inv x ∧ M w0 β' (S x) a1 w1 ∧ μ x = n) ∧ ∀ n', (∃ x β', inv x ∧ M w0 β' (S x) a1 w1 ∧ μ x = n') → n ≤ n') = N at *
  refine lexec_sound ht hm c hl .leaf (S x1) _ a1 w1 β1 m1 (hng x1) (hbody x1 hi1) fun e s2 β2 a2 w2 m2 ng2 hs2 => ?_
  cases e with
  | normal =>
    obtain ⟨y, hy, hlt, hS⟩ := hs2
    have my : M w0 β2 (S y) a2 w2 := hS ▸ M_weak ng2 m2
    refine ⟨⟨y, β2, hy, my⟩, ?_⟩
    have := (least_eps (p := fun n => ∃ x β', inv x ∧ M w0 β' (S x) a2 w2 ∧ μ x = n) ⟨_, y, β2, hy, my, rfl⟩).2 _ ⟨y, β2, hy, my, rfl⟩
    show _ < N
    omega
  | exit id => exact hQ (.exit id) s2 hs2 β2 a2 w2 m2 ng2
  | ret => exact hQ .ret s2 hs2 β2 a2 w2 m2 ng2

/-- a block that is a loop, by its summary -/
theorem block_loop {w0 : World} (ht : TbOk P tb) (hm : P.follows .mixedOrders = true) {fuel id : Nat} {c : Code} (hl : LpOk P w0 lp (blocksL c)) {ι : Type} (S : ι → St) (inv : ι → Prop) (μ : ι → Nat) (G : AExit → St → Prop) (hng : ∀ x, NoG (S x)) (j v : Nat)
    (hbody : ∀ x, inv x → (lexec P tb lp fuel c .leaf (S x)).sat fun e s => match e with
      | .normal => ∃ y, inv y ∧ μ y < μ x ∧ S y = weak j v s
      | e => G e s)
    {x0 : ι} {s0 : St} {o : Out} (hi : inv x0) (h0 : S x0 = weak j v s0)
    (hG : ∀ (F : AExit → St → Prop), (∀ e s, F e (weak j v s) → F e s) → o.sat F → ∀ e s, G e s → match e with
      | .normal => True
      | .exit i => if i = id then F .normal s else F (.exit i) s
      | .ret => F .ret s) : BlockSound P w0 id (.loop c) s0 o := by
  intro Q a w β m ng ho
  refine wp_block (loop_inv ht hm hl S inv μ G hng j v hbody hi h0 m ng fun e s hg => ?_)
  have := hG (Sem w0 Q) (fun e s h => Sem_weak h) ho e s hg
  cases e with
  | normal => trivial
  | ret => exact this
  | exit i =>
    intro β' a' w' m' ng'
    show if i = id then Q Exit.normal a' w' else Q (Exit.exit i) a' w'
    dsimp only at this
    split
    · rename_i e; rw [if_pos e] at this; exact this β' a' w' m' ng'
    · rename_i e; rw [if_neg e] at this; exact this β' a' w' m' ng'
/-- the leaves, weakened -/
def Out.wk (j v : Nat) : Out → Out
  | .leaf e s => .leaf e (weak j v s)
  | .ite b x y => .ite b (x.wk j v) (y.wk j v)
  | .side ps x => .side ps (x.wk j v)
  | .fail => .fail
theorem Out.sat_wk {j v : Nat} {F : AExit → St → Prop} : ∀ {o : Out}, (o.wk j v).sat F → o.sat fun e s => F e (weak j v s)
  | .leaf _ _, h => h
  | .ite _ x y, h => ⟨fun b => Out.sat_wk (h.1 b), fun b => Out.sat_wk (h.2 b)⟩
  | .side _ x, h => ⟨h.1, Out.sat_wk (o := x) h.2⟩
  | .fail, h => h.elim
/-- a block that is a loop, by its summary: all states weakened -/
theorem block_loop' {w0 : World} (ht : TbOk P tb) (hm : P.follows .mixedOrders = true) {fuel id : Nat} {c : Code} (hl : LpOk P w0 lp (blocksL c)) {ι : Type} (S : ι → St) (inv : ι → Prop) (μ : ι → Nat) (G : AExit → St → Prop) (hng : ∀ x, NoG (S x)) (j v : Nat) (B : ι → Out)
    (hB : ∀ x, inv x → (lexec P tb lp fuel c .leaf (S x)).wk j v = B x)
    (hbody : ∀ x, inv x → (B x).sat fun e s => match e with
      | .normal => ∃ y, inv y ∧ μ y < μ x ∧ S y = s
      | e => G e s)
    {x0 : ι} {s0 : St} {o : Out} (hi : inv x0) (h0 : S x0 = weak j v s0)
    (hG : ∀ (F : AExit → St → Prop), o.sat F → ∀ e s, G e s → match e with
      | .normal => True
      | .exit i => if i = id then F .normal s else F (.exit i) s
      | .ret => F .ret s) : BlockSound P w0 id (.loop c) s0 o :=
  block_loop ht hm hl S inv μ (fun e s => match e with | .normal => True | e => G e (weak j v s)) hng j v
    (fun x hx => Out.sat_mono (fun e s hs => by cases e <;> exact hs) (Out.sat_wk (hB x hx ▸ hbody x hx))) hi h0
    (fun F hF ho e s hg => by
      have := fun hg => hG F ho e (weak j v s) hg
      cases e with
      | normal => trivial
      | ret => exact hF _ _ (this hg)
      | exit i =>
        have h := this hg
        dsimp only at h ⊢
        split
        · rename_i e; rw [if_pos e] at h; exact hF _ _ h
        · rename_i e; rw [if_neg e] at h; exact hF _ _ h)
end

/-! ### a function with summaries -/
def lfun (P : Program) (tb : Nat → List Value → Option (Value × List Prop)) (lp : Lp) (fuel : Nat) (fn : Func) (args : List Value) : Out :=
  match fn.body with
  | some c => lexec P tb lp fuel c .leaf (initSt fn args)
  | none => .fail

theorem init_M {fn : Func} (args : List Value) (w : World) : M w (fun _ => 0) (initSt fn args) { tmps := args.toArray ++ Array.replicate (fn.ntmps - args.toArray.size) undef, defers := [] } w ∧ NoG (initSt fn args) := by
  refine ⟨{ defers := rfl, size := by simp [initSt], slot := fun i u hu => ?_, locs := fun i n hn => ?_, mem := { at_ := fun n c hc => by simp [initSt] at hc, inj := fun n k c d hc => by simp [initSt] at hc, below := Below.refl _ _ } }, ?_⟩
  · by_cases hi : i < args.length
    · have e1 : (initSt fn args).slots.getD i .junk = .v args[i] := by
        simp [initSt, List.getD_eq_getElem?_getD, List.getElem?_append, hi]
      have e2 : (args.toArray ++ Array.replicate (fn.ntmps - args.toArray.size) undef)[i]? = some args[i] := by
        simp [Array.getElem?_append, hi]
      rw [e1]
      exact (Option.some.inj (hu.symm.trans e2))
    · have e1 : (initSt fn args).slots.getD i .junk = .junk := by
        simp only [initSt, List.getD_eq_getElem?_getD]
        rw [List.getElem?_append_right (by simpa using hi), List.getElem?_replicate]
        split <;> rfl
      rw [e1]; trivial
  · by_cases hi : i < args.length
    · have e1 : (initSt fn args).slots.getD i .junk = .v args[i] := by
        simp [initSt, List.getD_eq_getElem?_getD, List.getElem?_append, hi]
      rw [e1] at hn; simp [names] at hn
    · have e1 : (initSt fn args).slots.getD i .junk = .junk := by
        simp only [initSt, List.getD_eq_getElem?_getD]
        rw [List.getElem?_append_right (by simpa using hi), List.getElem?_replicate]
        split <;> rfl
      rw [e1] at hn; simp [names] at hn
  · intro x hx
    simp only [initSt, List.mem_append, List.mem_map, List.mem_replicate] at hx
    rcases hx with ⟨y, _, rfl⟩ | ⟨_, rfl⟩ <;> rfl
theorem lcontract {P : Program} {tb : Nat → List Value → Option (Value × List Prop)} {lp : Lp} (ht : TbOk P tb) (hm : P.follows .mixedOrders = true) {K : Nat} {fn : Func} (hf : P.funcs[K]? = some fn) {c : Code} (hb : fn.body = some c)
    (hl : ∀ w0, LpOk P w0 lp (blocksL c)) {fuel : Nat} {args : List Value} {v : Value}
    (hv : (lfun P tb lp fuel fn args).val P fn.results = some v) (hs : (lfun P tb lp fuel fn args).sides) (w : World) :
    Calls P K args.toArray w fun e w' => e = .returned v ∧ Below w.heap.size w w' := by
  have hsat := Out.sat_val hv hs
  unfold lfun at hsat
  rw [hb] at hsat
  refine calls_of_wp hf hb ?_
  obtain ⟨m, ng⟩ := init_M (fn := fn) args w
  refine lexec_sound ht hm c (hl w) .leaf _ _ _ w _ m ng hsat fun e s β a w' m' _ hl => ?_
  obtain ⟨he, hr⟩ := hl
  have hpost : a.defers = [] ∧ ∃ v', (results fn a.tmps).run P w' = .ok v' w' ∧ (Ending.returned v' = .returned v ∧ Below w.heap.size w w') := ⟨m'.defers, v, results_run m' hr, rfl, m'.mem.below⟩
  rcases he with rfl | rfl <;> exact hpost
/-- a function's contract with summaries, when its sides are shown -/
theorem lfnOkS {P : Program} {K : Nat} {tb : Nat → List Value → Option (Value × List Prop)} {lp : Lp} (ht : TbOk P tb) (hm : P.follows .mixedOrders = true) {fn : Func} (hf : P.funcs[K]? = some fn) (hn : (fn.name == "runtime.NumGoroutine") = false) {c : Code} (hb : fn.body = some c)
    (hl : ∀ w0, LpOk P w0 lp (blocksL c)) {fuel : Nat} {args : List Value} {v : Value} {l : List Prop}
    (hv : (lfun P tb lp fuel fn args).val P fn.results = some v) (hs : (lfun P tb lp fuel fn args).sideList = l) (ha : allP l) : CallOk P K args v :=
  call_ok hf (by rw [hb]; rfl) hn fun w => lcontract ht hm hf hb hl hv (Out.sides_list (by rw [hs]; exact ha)) w
end Go.Proofs.Ytgdjfclpncpnpaa.Sym
