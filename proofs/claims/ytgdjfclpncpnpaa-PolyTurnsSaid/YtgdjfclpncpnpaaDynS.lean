/-
  OWN WORK. A second symbolic executor, part S: loops by their states at the head; contracts.
-/
import Derived.Test.YtgdjfclpncpnpaaDynR
namespace Go.Proofs.Ytgdjfclpncpnpaa.Dyn
open Go Go.RowKit Sym

/-! ### rows by their elements -/
def HeLe : Option HE → Option HE → Prop
  | some (.own t n f), some (.own t' n' f') => t = t' ∧ n = n' ∧ ∀ i, i < n → f i = f' i
  | some (.deep [.row n f]), some (.deep [.row n' f']) => n = n' ∧ ∀ i, i < n → f i = f' i
  | x, y => x = y
def HLe : List (Option HE) → List (Option HE) → Prop
  | [], [] => True
  | x :: xs, y :: ys => HeLe x y ∧ HLe xs ys
  | _, _ => False
/-- the same slots, the same memory but for what rows have past their ends -/
def Fits (s s' : St) : Prop := (s.slots, s.fix) = (s'.slots, s'.fix) ∧ HLe s.heap s'.heap
theorem HeLe.refl : ∀ (x : Option HE), HeLe x x
  | none => rfl
  | some (.cells _ _) => rfl
  | some (.own _ _ _) => ⟨rfl, rfl, fun _ _ => rfl⟩
  | some .gone => rfl
  | some (.deep []) => rfl
  | some (.deep [.row _ _]) => ⟨rfl, fun _ _ => rfl⟩
  | some (.deep [.p _]) => rfl
  | some (.deep [.ptr _]) => rfl
  | some (.deep (.p _ :: _ :: _)) => rfl
  | some (.deep (.ptr _ :: _ :: _)) => rfl
  | some (.deep (.row _ _ :: _ :: _)) => rfl
theorem HLe.refl : ∀ (h : List (Option HE)), HLe h h
  | [] => trivial
  | x :: l => ⟨HeLe.refl x, HLe.refl l⟩
theorem Fits.refl (s : St) : Fits s s := ⟨rfl, HLe.refl _⟩
theorem HLe.at_ : ∀ {h h' : List (Option HE)}, HLe h h' → ∀ n, HeLe (h.getD n none) (h'.getD n none)
  | [], [], _, n => HeLe.refl _
  | x :: xs, y :: ys, k, 0 => k.1
  | x :: xs, y :: ys, k, n + 1 => by
    simp only [List.getD_cons_succ]
    exact HLe.at_ k.2 n
  | [], _ :: _, k, _ => k.elim
  | _ :: _, [], k, _ => k.elim

section
variable {P : Program} {X : Tabs} {lp : Lp} {w0 : Base P} {w : World} {β : Env} {s s' : St} {a : Act}

theorem DenC_row_congr {N : Nat → Prop} {n : Nat} {f f' : Nat → List DC} (hf : ∀ i, i < n → f i = f' i) {u : Value} (h : DenC w N (.row n f) u) : DenC w N (.row n f') u := by
  cases h with
  | nil f oa cap => exact .nil f' oa cap
  | row n f b off cap size g hF hc hg => exact .row n f' b off cap size g hF (fun i hi => by rw [← hf i hi]; exact hc i hi) (fun i j hi hj => by rw [← hf i hi]; exact hg i j hi hj)

theorem HeOk.congr {N : Nat → Prop} {e : Nat × (Nat → Value)} {x y : HE} (h : HeLe (some x) (some y)) (k : HeOk w0 β N w e x) : HeOk w0 β N w e y := by
  unfold HeLe at h
  split at h
  · rename_i t n f t' n' f' h1 h2
    simp only [Option.some.injEq] at h1 h2
    subst h1; subst h2
    obtain ⟨rfl, rfl, hf⟩ := h
    obtain ⟨size, xs, k1, k2, k3, k4⟩ := k
    exact ⟨size, xs, k1, k2, k3, fun i hi => by rw [← hf i hi]; exact k4 i hi⟩
  · rename_i n f n' f' h1 h2
    simp only [Option.some.injEq] at h1 h2
    subst h1; subst h2
    obtain ⟨rfl, hf⟩ := h
    intro j d hj
    cases j with
    | succ j => simp at hj
    | zero =>
      simp only [List.getElem?_cons_zero, Option.some.injEq] at hj; subst hj
      exact DenC_row_congr hf (k 0 _ rfl)
  · simp only [Option.some.injEq] at h; subst h; exact k
theorem HeLe.some_iff {x y : Option HE} (h : HeLe x y) : (x = none ↔ y = none) := by
  unfold HeLe at h
  split at h
  · simp
  · simp
  · subst h; rfl
theorem HeLe.blk {x y : HE} (h : HeLe (some x) (some y)) (e : Nat × (Nat → Value)) : blkOf x e = blkOf y e := by
  unfold HeLe at h
  split at h
  · rename_i h1 h2
    simp only [Option.some.injEq] at h1 h2
    subst h1; subst h2; rfl
  · rename_i h1 h2
    simp only [Option.some.injEq] at h1 h2
    subst h1; subst h2; rfl
  · simp only [Option.some.injEq] at h; subst h; rfl
theorem HeLe.cells {x : HE} {t : TypeId} {cs : List Value} (h : HeLe (some x) (some (.cells t cs))) : x = .cells t cs := by
  unfold HeLe at h
  split at h
  · rename_i h2; cases h2
  · rename_i h2; cases h2
  · simpa using h

theorem Fits.M (h : Fits s s') (m : M w0 β s a w) : M w0 β s' a w := by
  obtain ⟨h11, h2⟩ := h
  obtain ⟨h1, h12⟩ := Prod.mk.inj h11
  have hat : ∀ n he, s'.heap.getD n none = some he → ∃ he0, s.heap.getD n none = some he0 ∧ HeLe (some he0) (some he) := fun n he hn => by
    have hx := h2.at_ n
    cases hs : s.heap.getD n none with
    | none =>
      rw [hs, hn] at hx
      have := (HeLe.some_iff hx).1 rfl; cases this
    | some he0 => rw [hs, hn] at hx; exact ⟨he0, rfl, hx⟩
  have hat' : ∀ n he, s.heap.getD n none = some he → ∃ he0, s'.heap.getD n none = some he0 := fun n he hn => by
    have hx := h2.at_ n
    cases hs : s'.heap.getD n none with
    | none =>
      rw [hs, hn] at hx
      have := (HeLe.some_iff hx).2 rfl; cases this
    | some he0 => exact ⟨he0, rfl⟩
  have hNF : ∀ b, NF w0 β s.heap w b → NF w0 β s'.heap w b ∧ w.heap[b]? = w.heap[b]? := fun b hN => ⟨by
    rcases hN with z | ⟨k1, k2, k3⟩
    · exact .inl z
    · refine .inr ⟨k1, k2, fun n he hn hb => ?_⟩
      obtain ⟨he0, h3, h4⟩ := hat n he hn
      exact k3 n he0 h3 (by rw [h4.blk]; exact hb), rfl⟩
  refine { defers := m.defers, size := by rw [← h1]; exact m.size, slot := fun i u hu => by rw [← h1]; exact m.slot i u hu, locs := fun i n hn => ?_, mem := ⟨fun n he hn => ?_, fun n k c d b hn hk hc hd => ?_, fun n t cs hn x hx q hq => ?_, m.mem.one, m.mem.below⟩, tie := fun p hp => m.tie p (by rw [h12]; exact hp) }
  · rw [← h1] at hn
    obtain ⟨c, hc⟩ := m.locs i n hn
    exact hat' n c hc
  · obtain ⟨he0, h3, h4⟩ := hat n he hn
    exact HeOk.congr h4 (HeOk.mono hNF (fun b _ => rfl) (fun _ _ _ _ _ => rfl) (Nat.le_refl _) (m.mem.ok n he0 h3))
  · obtain ⟨c0, h3, h4⟩ := hat n c hn
    obtain ⟨d0, h5, h6⟩ := hat k d hk
    exact m.mem.inj n k c0 d0 b h3 h5 (by rw [h4.blk]; exact hc) (by rw [h6.blk]; exact hd)
  · obtain ⟨c0, h3, h4⟩ := hat n _ hn
    have := h4.cells; subst this
    obtain ⟨c, hc⟩ := m.mem.refs n t cs h3 x hx q hq
    exact hat' q c hc

/-! ### what follows from what -/
/-- state s says all that s' says -/
def Ent (w0 : Base P) (s s' : St) : Prop := ∀ β a w, M w0 β s a w → NoG s → ∃ β', M w0 β' s' a w ∧ NoG s'
theorem Ent.refl (w0 : Base P) (s : St) : Ent w0 s s := fun β a w m ng => ⟨β, m, ng⟩
theorem Ent.trans {s1 s2 s3 : St} (h : Ent w0 s1 s2) (k : Ent w0 s2 s3) : Ent w0 s1 s3 := fun β a w m ng => by
  obtain ⟨β', m', ng'⟩ := h β a w m ng
  exact k β' a w m' ng'
theorem Ent.label {σ : List Nat} (hσ : σ.Nodup) (j v : Nat) (s : St) : Ent w0 s (relabel σ j v s) := fun β a w m ng => ⟨_, relabel_M hσ j v m ng, relabel_noG σ j v s⟩
theorem Ent.fits (h : Fits s s') : Ent w0 s s' := fun β a w m ng => ⟨β, h.M m, fun x hx => ng x ((Prod.mk.inj h.1).1 ▸ hx)⟩
theorem Sem_ent {Q : Exit → Act → World → Prop} {e : AExit} (h : Ent w0 s s') (k : Dyn.Sem w0 Q e s') : Dyn.Sem w0 Q e s := fun β a w m ng => by
  obtain ⟨β', m', ng'⟩ := h β a w m ng
  exact k β' a w m' ng'

/-! ### nil, as a slice of the call's own -/
/-- a slot that is nil -/
def nilSlot (i : Nat) (t : TypeId) (f : Nat → List DC) (s : St) : St :=
  match s.slots.getD i .junk with
  | .k (.slice none 0 0) => { slots := s.slots.set i (.v (.slice (some ⟨s.heap.length, 0, some 0⟩) 0 0)), heap := s.heap ++ [some (.own t 0 f)], fix := s.fix }
  | .v (.slice none 0 0) => { slots := s.slots.set i (.v (.slice (some ⟨s.heap.length, 0, some 0⟩) 0 0)), heap := s.heap ++ [some (.own t 0 f)], fix := s.fix }
  | _ => s
theorem Mem.nil {h : List (Option HE)} (m : Mem w0 β h w) {t : TypeId} {k : Nat} (hs : sizeO P t = some (k + 1)) (f : Nat → List DC) : Mem w0 (bump β h.length (0, fun _ => .slice none 0 0)) (h ++ [some (.own t 0 f)]) w := by
  have e : h ++ [some (HE.own t 0 f)] = (h ++ [none]).set h.length (some (.own t 0 f)) := by simp
  have m0 : Mem w0 β (h ++ [none]) w := m.read (fun n => by
    simp only [List.getD_eq_getElem?_getD, List.getElem?_append]
    split
    · rfl
    · rename_i hn
      rw [List.getElem?_eq_none (Nat.le_of_not_lt hn)]
      cases n - h.length with
      | zero => rfl
      | succ q => rfl) rfl rfl rfl rfl
  rw [e]
  exact m0.add (by simp) (by simp) _ _ (Below.refl _ _) (fun b hb => by simp [blkOf, Value.ownBlock] at hb) (fun _ => rfl) (fun t cs e => by cases e) (fun _ => ⟨k + 1, [], hs, by omega, World.ownsRow_nil w _ t _, fun i hi => by omega⟩)
theorem Ent.nilSlot {i : Nat} {t : TypeId} {k : Nat} (hs : sizeO P t = some (k + 1)) (f : Nat → List DC) (s : St) : Ent w0 s (nilSlot i t f s) := fun β a w m ng => by
  have key : (s.slots.getD i .junk = .k (.slice none 0 0) ∨ s.slots.getD i .junk = .v (.slice none 0 0)) →
      ∃ β', M w0 β' { slots := s.slots.set i (.v (.slice (some ⟨s.heap.length, 0, some 0⟩) 0 0)), heap := s.heap ++ [some (.own t 0 f)], fix := s.fix } a w ∧ NoG { slots := s.slots.set i (.v (.slice (some ⟨s.heap.length, 0, some 0⟩) 0 0)), heap := s.heap ++ [some (.own t 0 f)], fix := s.fix } := fun hk => by
    have hold : ∀ n c, s.heap.getD n none = some c → (s.heap ++ [some (HE.own t 0 f)]).getD n none = some c ∧ n ≠ s.heap.length := fun n c hn => by
      have hlt : n < s.heap.length := by
        rcases Nat.lt_or_ge n s.heap.length with z | z
        · exact z
        · rw [List.getD_eq_getElem?_getD, List.getElem?_eq_none z] at hn; cases hn
      refine ⟨?_, by omega⟩
      rw [List.getD_eq_getElem?_getD, List.getElem?_append_left hlt, ← List.getD_eq_getElem?_getD]; exact hn
    have hbeta : ∀ n c, s.heap.getD n none = some c → bump β s.heap.length (0, fun _ => Value.slice none 0 0) n = β n := fun n c hn => bump_ne (hold n c hn).2
    refine ⟨bump β s.heap.length (0, fun _ => .slice none 0 0), { defers := m.defers, size := by simp [m.size], slot := fun q u hu => ?_, locs := fun q n hn => ?_, mem := m.mem.nil hs f, tie := m.tie }, fun x hx => ?_⟩
    · show Den _ _ ((s.slots.set i _).getD q .junk) u
      rw [getD_set']
      split
      · rename_i hq
        obtain ⟨rfl, hlt⟩ := hq
        have hd := m.slot i u hu
        have hu' : u = .slice none 0 0 := by rcases hk with hk | hk <;> rw [hk] at hd <;> exact hd
        show u = ren _ _
        simp only [ren, ren1, ren0, renP]
        rw [bump_at, hu']
      · exact Den_congr (fun n hn => by obtain ⟨c, hc⟩ := m.locs q n hn; exact hbeta n c hc) (fun c hc => by rw [isG_conds (ng.at_ q)] at hc; cases hc) (m.slot q u hu)
    · have hn' : n ∈ names ((s.slots.set i (.v (.slice (some ⟨s.heap.length, 0, some 0⟩) 0 0))).getD q .junk) := hn
      rw [getD_set'] at hn'
      split at hn'
      · simp only [names, refs, refs1, refs0, refsP, List.mem_singleton] at hn'; subst hn'
        exact ⟨.own t 0 f, by simp [List.getD_eq_getElem?_getD]⟩
      · obtain ⟨c, hc⟩ := m.locs q n hn'
        exact ⟨c, (hold n c hc).1⟩
    · rcases List.mem_or_eq_of_mem_set hx with hx | rfl
      · exact ng x hx
      · rfl
  unfold Dyn.nilSlot
  split
  · rename_i h; exact key (.inl h)
  · rename_i h; exact key (.inr h)
  · exact ⟨β, m, ng⟩

/-! ### loops -/
/-- A loop by its states at the head: each round leads to a state of less measure, or out. -/
theorem loop_inv (ht : TabsOk P X) (hm : P.follows .mixedOrders = true) {fuel : Nat} {c : Code} (hl : Dyn.LpOk P w0 lp (blocksL c)) {ι : Type} (S : ι → St) (inv : ι → Prop) (μ : ι → Nat) (G : AExit → St → Prop)
    (hbody : ∀ x, inv x → (lexec P X lp fuel c .leaf (S x)).sat fun e s => match e with
      | .normal => ∃ y, inv y ∧ μ y < μ x ∧ Ent w0 s (S y)
      | e => G e s)
    {x0 : ι} {s0 : St} (hi : inv x0) (h0 : Ent w0 s0 (S x0)) {Q : Exit → Act → World → Prop} (m : M w0 β s0 a w) (ng : NoG s0)
    (hQ : ∀ e s, G e s → match e with | .normal => True | e => Dyn.Sem w0 Q e s) : (Code.loop c).wp P Q a w := by
  have start : ∃ x β', inv x ∧ M w0 β' (S x) a w ∧ NoG (S x) := by
    obtain ⟨β', m', ng'⟩ := h0 β a w m ng
    exact ⟨x0, β', hi, m', ng'⟩
  refine wp_loop (fun a' w' => ∃ x β', inv x ∧ M w0 β' (S x) a' w' ∧ NoG (S x))
    (fun a' w' => Classical.epsilon fun n => (∃ x β', inv x ∧ (M w0 β' (S x) a' w' ∧ NoG (S x)) ∧ μ x = n) ∧ ∀ n', (∃ x β', inv x ∧ (M w0 β' (S x) a' w' ∧ NoG (S x)) ∧ μ x = n') → n ≤ n') start ?_
  intro a1 w1 ⟨x', β', hi', m', ng'⟩
  have hI : ∃ n, ∃ x β', inv x ∧ (M w0 β' (S x) a1 w1 ∧ NoG (S x)) ∧ μ x = n := ⟨_, x', β', hi', ⟨m', ng'⟩, rfl⟩
  obtain ⟨⟨x1, β1, hi1, ⟨m1, ng1⟩, hx1⟩, hmin⟩ := least_eps hI
  generalize (Classical.epsilon fun n => (∃ x β', inv x ∧ (M w0 β' (S x) a1 w1 ∧ NoG (S x)) ∧ μ x = n) ∧ ∀ n', (∃ x β', inv x ∧ (M w0 β' (S x) a1 w1 ∧ NoG (S x)) ∧ μ x = n') → n ≤ n') = N at *
  refine lexec_sound ht hm c hl .leaf (S x1) _ a1 w1 β1 m1 ng1 (hbody x1 hi1) fun e s2 β2 a2 w2 m2 ng2 hs2 => ?_
  cases e with
  | normal =>
    obtain ⟨y, hy, hlt, hS⟩ := hs2
    obtain ⟨β3, my, ngy⟩ := hS β2 a2 w2 m2 ng2
    refine ⟨⟨y, β3, hy, my, ngy⟩, ?_⟩
    have := (least_eps (p := fun n => ∃ x β', inv x ∧ (M w0 β' (S x) a2 w2 ∧ NoG (S x)) ∧ μ x = n) ⟨_, y, β3, hy, ⟨my, ngy⟩, rfl⟩).2 _ ⟨y, β3, hy, ⟨my, ngy⟩, rfl⟩
    show _ < N
    omega
  | exit id => exact hQ (.exit id) s2 hs2 β2 a2 w2 m2 ng2
  | ret => exact hQ .ret s2 hs2 β2 a2 w2 m2 ng2

/-- the leaves, by other names -/
def Out.rl (f : AExit → St → St) : Out → Out
  | .leaf e s => .leaf e (f e s)
  | .ite b x y => .ite b (x.rl f) (y.rl f)
  | .side ps x => .side ps (x.rl f)
  | .fail => .fail
theorem Out.sat_rl {f : AExit → St → St} {F : AExit → St → Prop} : ∀ {o : Out}, (o.rl f).sat F → o.sat fun e s => F e (f e s)
  | .leaf _ _, h => h
  | .ite _ x y, h => ⟨fun b => Out.sat_rl (h.1 b), fun b => Out.sat_rl (h.2 b)⟩
  | .side _ x, h => ⟨h.1, Out.sat_rl (o := x) h.2⟩
  | .fail, h => h.elim

/-- a block that is a loop, by its summary; its rounds end in states by other names -/
theorem block_loop (ht : TabsOk P X) (hm : P.follows .mixedOrders = true) {fuel id : Nat} {c : Code} (hl : Dyn.LpOk P w0 lp (blocksL c)) {ι : Type} (S : ι → St) (inv : ι → Prop) (μ : ι → Nat) (f : AExit → St → St) (hf : ∀ e s, Ent w0 s (f e s)) (B : ι → Out) (G : AExit → St → Prop)
    (hB : ∀ x, inv x → (lexec P X lp fuel c .leaf (S x)).rl f = B x)
    (hbody : ∀ x, inv x → (B x).sat fun e s => match e with
      | .normal => ∃ y, inv y ∧ μ y < μ x ∧ Fits s (S y)
      | e => G e s)
    {x0 : ι} {s0 : St} {o : Out} (hi : inv x0) (h0 : Ent w0 s0 (S x0))
    (hG : ∀ (F : AExit → St → Prop), (∀ e s s', Ent w0 s s' → F e s' → F e s) → o.sat F → ∀ e s, G e s → match e with
      | .normal => True
      | .exit i => if i = id then F .normal s else F (.exit i) s
      | .ret => F .ret s) : Dyn.BlockSound P w0 id (.loop c) s0 o := by
  intro Q a w β m ng ho
  refine wp_block (loop_inv (fuel := fuel) ht hm hl S inv μ (fun e s => match e with | .normal => True | e => G e (f e s)) (fun x hx => ?_) hi h0 m ng fun e s hg => ?_)
  · refine Out.sat_mono (fun e s hs => ?_) (Out.sat_rl (hB x hx ▸ hbody x hx))
    cases e with
    | normal =>
      obtain ⟨y, hy, hlt, hfit⟩ := hs
      exact ⟨y, hy, hlt, (hf .normal s).trans (Ent.fits hfit)⟩
    | exit i => exact hs
    | ret => exact hs
  · have hh := hG (Dyn.Sem w0 Q) (fun e s s' h k => Sem_ent h k) ho
    cases e with
    | normal => trivial
    | ret => exact Sem_ent (hf .ret s) (hh .ret _ hg)
    | exit i =>
      intro β' a' w' m' ng'
      show if i = id then Q Exit.normal a' w' else Q (Exit.exit i) a' w'
      have h1 := hh (.exit i) _ hg
      dsimp only at h1
      have h2 := hf (.exit i) s
      split
      · rename_i e; rw [if_pos e] at h1; exact Sem_ent h2 h1 β' a' w' m' ng'
      · rename_i e; rw [if_neg e] at h1; exact Sem_ent h2 h1 β' a' w' m' ng'
end
end Go.Proofs.Ytgdjfclpncpnpaa.Dyn
