/-
  OWN WORK. A second symbolic executor, part Q: blocks that are told by a summary, loops by an invariant.
-/
import Derived.Test.YtgdjfclpncpnpaaDynP
namespace Go.Proofs.Ytgdjfclpncpnpaa.Dyn
open Go Go.RowKit Sym

def Out.bind : Out → (AExit → St → Out) → Out
  | .leaf e s, k => k e s
  | .ite b x y, k => .ite b (x.bind k) (y.bind k)
  | .side ps x, k => .side ps (x.bind k)
  | .fail, _ => .fail

abbrev Lp := Nat → St → Option Out

/-- the tests under which an operation makes something -/
def guardsUp (ops : Array Oper) : Nat → Oper → List Nat
  | 0, _ => []
  | n + 1, o => match o.guard with
    | none => []
    | some (g, _) => match ops[g]? with
      | some og => guardsUp ops n og ++ [g]
      | none => []
def insN (l : List Nat) (n : Nat) : List Nat := bif l.any (Nat.beq n) then l else l ++ [n]
def pinsOf (X : Tabs) (ops : Array Oper) : List Nat := ops.toList.foldl (fun l o => bif makes X o then (guardsUp ops (ops.size + 1) o).foldl insN l else l) []
def pinSet (X : Tabs) (g : Nat) (q : Bool) : Tabs := { tb := X.tb, td := X.td, dres := X.dres, dty := X.dty, pin := fun j => bif Nat.beq j g then some q else X.pin j, tx := X.tx, dtmp := X.dtmp }
/-- what the g-th operation says -/
def guardVal (P : Program) (X : Tabs) (ops : Array Oper) (st : St) (g : Nat) : Option Bool :=
  match lexRun P X ops st.heap.length 0 (ops.toList.take (g + 1)) { st with heap := st.heap ++ List.replicate (padOf X ops) none } with
  | some (s, _, _) => match (ops[g]?).bind (·.dst) with
    | some d => match s.slots.getD d .junk with
      | .v (.bool x) => some x
      | _ => none
    | none => none
  | none => none
def splitRun (P : Program) (ops : Array Oper) (draw : Bool) (k : AExit → St → Out) (s : St) : List Nat → Tabs → Out
  | [], X => match regRun P X ops draw s with
    | some (s', ps) => sideOf ps (k .normal s')
    | none => .fail
  | g :: gs, X => match guardVal P X ops s g with
    | some x => .ite x (splitRun P ops draw k s gs (pinSet X g true)) (splitRun P ops draw k s gs (pinSet X g false))
    | none => splitRun P ops draw k s gs X

def lexec (P : Program) (X : Tabs) (lp : Lp) (fuel : Nat) : Code → (AExit → St → Out) → St → Out
  | .skip, k, s => k .normal s
  | .region _ ops draw, k, s => match regRun P X ops draw s with
    | some (s', ps) => sideOf ps (k .normal s')
    | none => splitRun P ops draw k s (pinsOf X ops) X
  | .seq a b, k, s => lexec P X lp fuel a (fun e s => match e with | .normal => lexec P X lp fuel b k s | .exit id => k (.exit id) s | .ret => k .ret s) s
  | .cond c a b, k, s => match evS s.slots [] c with
    | .k (.bool q) => bif q then lexec P X lp fuel a k s else lexec P X lp fuel b k s
    | .v (.bool q) => match asim P X (.cond c a b) s with
      | some (s', ps) => sideOf ps (k .normal s')
      | none => .ite q (lexec P X lp fuel a k s) (lexec P X lp fuel b k s)
    | _ => .fail
  | .block id c, k, s => match lp id s with
    | some o => o.bind k
    | none => lexec P X lp fuel c (fun e s => match e with | .exit id' => if id' = id then k .normal s else k (.exit id') s | .normal => k .normal s | .ret => k .ret s) s
  | .loop c, k, s => loopN (fun self s => lexec P X lp fuel c (fun e s => match e with | .normal => self s | .exit id => k (.exit id) s | .ret => k .ret s) s) fuel s
  | .exit id, k, s => k (.exit id) s
  | .ret, k, s => k .ret s
  | _, _, _ => .fail

theorem Out.sat_bind {F : AExit → St → Prop} {k : AExit → St → Out} : ∀ {o : Out}, (o.bind k).sat F → o.sat fun e s => (k e s).sat F
  | .leaf _ _, h => h
  | .ite _ x y, h => ⟨fun b => Out.sat_bind (h.1 b), fun b => Out.sat_bind (h.2 b)⟩
  | .side _ x, h => ⟨h.1, Out.sat_bind (o := x) h.2⟩
  | .fail, h => h.elim
theorem Out.sat_mono {F G : AExit → St → Prop} (h : ∀ e s, F e s → G e s) : ∀ {o : Out}, o.sat F → o.sat G
  | .leaf _ _, k => h _ _ k
  | .ite _ x y, k => ⟨fun b => Out.sat_mono h (k.1 b), fun b => Out.sat_mono h (k.2 b)⟩
  | .side _ x, k => ⟨k.1, Out.sat_mono h (o := x) k.2⟩
  | .fail, k => k.elim

section
variable {P : Program} {X : Tabs} {lp : Lp}

/-- what holds when a leaf is reached -/
def Sem (w0 : Base P) (Q : Exit → Act → World → Prop) (e : AExit) (s : St) : Prop := ∀ β a w, M w0 β s a w → NoG s → Q e.real a w
def BlockSound (P : Program) (w0 : Base P) (id : Nat) (c : Code) (s : St) (o : Out) : Prop :=
  ∀ (Q : Exit → Act → World → Prop) (a : Act) (w : World) (β : Env), M w0 β s a w → NoG s → o.sat (Sem w0 Q) → (Code.block id c).wp P Q a w
def LpOk (P : Program) (w0 : Base P) (lp : Lp) (l : List (Nat × Code)) : Prop := ∀ p ∈ l, ∀ s o, lp p.1 s = some o → BlockSound P w0 p.1 p.2 s o
theorem LpOk.left {w0 : Base P} {l m : List (Nat × Code)} (h : LpOk P w0 lp (l ++ m)) : LpOk P w0 lp l := fun p hp => h p (List.mem_append.2 (.inl hp))
theorem LpOk.right {w0 : Base P} {l m : List (Nat × Code)} (h : LpOk P w0 lp (l ++ m)) : LpOk P w0 lp m := fun p hp => h p (List.mem_append.2 (.inr hp))

theorem pinSet_ok (ht : TabsOk P X) (g : Nat) (q : Bool) : TabsOk P (pinSet X g q) := ⟨ht.tb, ht.tx, ht.td⟩
theorem splitRun_sound {w0 : Base P} (hm : P.follows .mixedOrders = true) {F : AExit → St → Prop} {ops : Array Oper} {draw : Bool} {id : Nat} {k : AExit → St → Out} {s : St} {Q : Exit → Act → World → Prop} {a : Act} {w : World} {β : Env} (m : M w0 β s a w) (ng : NoG s)
    (hk : ∀ e s β a w, M w0 β s a w → NoG s → (k e s).sat F → Q e.real a w) : ∀ (gs : List Nat) (X : Tabs), TabsOk P X → (splitRun P ops draw k s gs X).sat F → (Code.region id ops draw).wp P Q a w
  | [], X, ht, h => by
    simp only [splitRun] at h
    split at h
    · rename_i s' ps hr
      obtain ⟨h1, h2⟩ := sideOf_sat h
      exact region_sound ht hm m ng hr h1 fun β a w m' ng' => hk .normal s' β a w m' ng' h2
    · exact h.elim
  | g :: gs, X, ht, h => by
    simp only [splitRun] at h
    split at h
    · rename_i x _
      cases x with
      | true => exact splitRun_sound hm m ng hk gs _ (pinSet_ok ht g true) (h.1 rfl)
      | false => exact splitRun_sound hm m ng hk gs _ (pinSet_ok ht g false) (h.2 rfl)
    · exact splitRun_sound hm m ng hk gs X ht h

theorem lexec_sound {w0 : Base P} (ht : TabsOk P X) (hm : P.follows .mixedOrders = true) {F : AExit → St → Prop} {fuel : Nat} : ∀ (c : Code), LpOk P w0 lp (blocksL c) → ∀ (k : AExit → St → Out) (s : St) (Q : Exit → Act → World → Prop) (a : Act) (w : World) (β : Env), M w0 β s a w → NoG s →
    (lexec P X lp fuel c k s).sat F → (∀ e s β a w, M w0 β s a w → NoG s → (k e s).sat F → Q e.real a w) → c.wp P Q a w := by
  intro c
  induction c with
  | skip => intro _ k s Q a w β m ng h hk; exact wp_skip (hk .normal s β a w m ng h)
  | region id ops draw =>
    intro _ k s Q a w β m ng h hk
    simp only [lexec] at h
    split at h
    · rename_i s' ps hr
      obtain ⟨h1, h2⟩ := sideOf_sat h
      exact region_sound ht hm m ng hr h1 fun β a w m' ng' => hk .normal s' β a w m' ng' h2
    · exact splitRun_sound hm m ng hk _ X ht h
  | seq x y ihx ihy =>
    intro hl k s Q a w β m ng h hk
    simp only [lexec] at h
    refine wp_seq (ihx hl.left _ s _ a w β m ng h fun e s' β' a' w' m' ng' hs => ?_)
    cases e with
    | normal => exact ihy hl.right k s' Q a' w' β' m' ng' hs hk
    | exit id => exact hk (.exit id) s' β' a' w' m' ng' hs
    | ret => exact hk .ret s' β' a' w' m' ng' hs
  | cond c x y ihx ihy =>
    intro hl k s Q a w β m ng h hk
    simp only [lexec] at h
    split at h
    · rename_i q hq
      have hb := cond_bool m (.inl hq)
      cases q with
      | true => exact wp_cond_true hb (ihx hl.left k s Q a w β m ng h hk)
      | false => exact wp_cond_false hb (ihy hl.right k s Q a w β m ng h hk)
    · rename_i q hq
      have hb := cond_bool m (.inr hq)
      split at h
      · rename_i s' ps hsim
        obtain ⟨h1, h2⟩ := sideOf_sat h
        have ng' := (asim_frame _ _ _ _ ng hsim).1
        exact asim_sound ht hm _ _ _ _ Q a w β m ng hsim h1 fun β a w m' => hk .normal s' β a w m' ng' h2
      · cases q with
        | true => exact wp_cond_true hb (ihx hl.left k s Q a w β m ng (h.1 rfl) hk)
        | false => exact wp_cond_false hb (ihy hl.right k s Q a w β m ng (h.2 rfl) hk)
    · exact h.elim
  | block id c ih =>
    intro hl k s Q a w β m ng h hk
    simp only [lexec] at h
    split at h
    · rename_i o ho
      refine hl (id, c) (List.mem_cons_self ..) s o ho Q a w β m ng (Out.sat_mono (fun e s' hs => ?_) (Out.sat_bind h))
      exact fun β a w m' ng' => hk e s' β a w m' ng' hs
    · refine wp_block (ih (fun p hp => hl p (List.mem_cons_of_mem _ hp)) _ s _ a w β m ng h fun e s' β' a' w' m' ng' hs => ?_)
      cases e with
      | normal => exact hk .normal s' β' a' w' m' ng' hs
      | ret => exact hk .ret s' β' a' w' m' ng' hs
      | exit id' =>
        show if id' = id then Q Exit.normal a' w' else Q (Exit.exit id') a' w'
        dsimp only at hs
        split at hs
        · rename_i e
          rw [if_pos e]
          exact hk .normal s' β' a' w' m' ng' hs
        · rename_i e
          rw [if_neg e]
          exact hk (.exit id') s' β' a' w' m' ng' hs
  | loop c ih =>
    intro hl k s Q a w β m ng h hk
    simp only [lexec] at h
    refine wp_loop (fun a' w' => ∃ n s' β', M w0 β' s' a' w' ∧ NoG s' ∧ (loopN (fun self s => lexec P X lp fuel c (fun e s => match e with | .normal => self s | .exit id => k (.exit id) s | .ret => k .ret s) s) n s').sat F)
      (fun a' w' => Classical.epsilon fun n => (∃ s' β', M w0 β' s' a' w' ∧ NoG s' ∧ (loopN (fun self s => lexec P X lp fuel c (fun e s => match e with | .normal => self s | .exit id => k (.exit id) s | .ret => k .ret s) s) n s').sat F) ∧
        ∀ n', (∃ s' β', M w0 β' s' a' w' ∧ NoG s' ∧ (loopN (fun self s => lexec P X lp fuel c (fun e s => match e with | .normal => self s | .exit id => k (.exit id) s | .ret => k .ret s) s) n' s').sat F) → n ≤ n') ⟨fuel, s, β, m, ng, h⟩ ?_
    intro a1 w1 hI
    obtain ⟨⟨s1, β1, m1, ng1, hs1⟩, hmin⟩ := least_eps (p := fun n => ∃ s' β', M w0 β' s' a1 w1 ∧ NoG s' ∧ (loopN (fun self s => lexec P X lp fuel c (fun e s => match e with | .normal => self s | .exit id => k (.exit id) s | .ret => k .ret s) s) n s').sat F) hI
    generalize (Classical.epsilon fun n => (∃ s' β', M w0 β' s' a1 w1 ∧ NoG s' ∧ (loopN (fun self s => lexec P X lp fuel c (fun e s => match e with | .normal => self s | .exit id => k (.exit id) s | .ret => k .ret s) s) n s').sat F) ∧
        ∀ n', (∃ s' β', M w0 β' s' a1 w1 ∧ NoG s' ∧ (loopN (fun self s => lexec P X lp fuel c (fun e s => match e with | .normal => self s | .exit id => k (.exit id) s | .ret => k .ret s) s) n' s').sat F) → n ≤ n') = N at *
    cases N with
    | zero => exact hs1.elim
    | succ N =>
      simp only [loopN] at hs1
      refine ih hl _ s1 _ a1 w1 β1 m1 ng1 hs1 fun e s2 β2 a2 w2 m2 ng2 hs2 => ?_
      cases e with
      | normal =>
        have hI2 : ∃ n s' β', M w0 β' s' a2 w2 ∧ NoG s' ∧ (loopN (fun self s => lexec P X lp fuel c (fun e s => match e with | .normal => self s | .exit id => k (.exit id) s | .ret => k .ret s) s) n s').sat F := ⟨N, s2, β2, m2, ng2, hs2⟩
        refine ⟨hI2, ?_⟩
        have := (least_eps hI2).2 N ⟨s2, β2, m2, ng2, hs2⟩
        exact Nat.lt_succ_of_le this
      | exit id => exact hk (.exit id) s2 β2 a2 w2 m2 ng2 hs2
      | ret => exact hk .ret s2 β2 a2 w2 m2 ng2 hs2
  | exit id => intro _ k s Q a w β m ng h hk; exact wp_exit (hk (.exit id) s β a w m ng h)
  | ret => intro _ k s Q a w β m ng h hk; exact wp_ret (hk .ret s β a w m ng h)
  | _ => intro _ k s Q a w β m ng h; exact h.elim

end
end Go.Proofs.Ytgdjfclpncpnpaa.Dyn
