/-
  OWN WORK. A symbolic executor for Go text over open terms, part E: one step of a region; regions in the order of the text and in any order.
-/
import Derived.Test.YtgdjfclpncpnpaaSymD
namespace Go.Proofs.Ytgdjfclpncpnpaa.Sym
open Go Go.RowKit

section
variable {P : Program} {w0 w : World} {β : Nat → Nat} {st : St} {a : Act} {cs : List (Nat × Bool)} {o : Oper} {r : Res} {K : Act → World → Prop} {Q : Exit → Act → World → Prop}

/-- does the operation make a block? -/
def makes (o : Oper) : Bool :=
  match o.op with
  | .alloc _ => true
  | .box _ _ => true
  | .buildSlice _ _ _ => true
  | _ => false

theorem part_run {t : TypeId} {xs : Array Value} {off : Nat} {u : Value} (h : partOf P t xs.toList off = some u) : (part t xs off).run P w = .ok u w := by
  unfold partOf at h
  split at h
  · rename_i n ha hs
    simp only [Option.some.injEq] at h; subst h
    simp only [part, Sem.run_bind, isAgg_run ha, Result.andThen_ok, if_true, sizeOf_run hs, Sem.run_pure]
    congr 2
    apply Array.ext'
    simp
  · rename_i ha
    have e : xs[off]? = some u := by simpa using h
    simp only [part, Sem.run_bind, isAgg_run ha, Result.andThen_ok, Bool.false_eq_true, if_false, e, Sem.run_pure]
  · cases h

theorem eqFs_run {eq : TypeId → Value → Value → Option Bool} {d : Nat} (heq : ∀ t x y b, eq t x y = some b → (Op.equalIn d t x y).run P w = .ok b w) {xs ys : Array Value} : ∀ {fs : List Field} {b : Bool}, eqFs P eq xs.toList ys.toList fs = some b →
    (Op.eqFields d xs ys fs).run P w = .ok b w
  | [], b, h => by simp only [eqFs, Option.some.injEq] at h; subst h; rfl
  | f :: fs, b, h => by
    simp only [eqFs] at h
    unfold Op.eqFields
    split at h
    · rename_i hn
      rw [if_neg (by simpa using hn)]
      exact eqFs_run heq h
    · rename_i hn
      rw [if_pos (by simpa using hn)]
      split at h
      · rename_i u v hu hv
        split at h
        · rename_i r q hr hq
          simp only [Option.some.injEq] at h; subst h
          have ih := eqFs_run heq hq
          simp only [Sem.run_bind, part_run hu, part_run hv, Result.andThen_ok, heq _ _ _ _ hr]
          cases r
          · rfl
          · exact ih
        · cases h
      · cases h

theorem eqV_run : ∀ (n : Nat) {t : TypeId} {x y : Value} {b : Bool} (d : Nat), eqV P n t x y = some b → (Op.equalIn (d + n) t x y).run P w = .ok b w
  | 0, t, x, y, b, d, h => by simp [eqV] at h
  | n + 1, t, x, y, b, d, h => by
    have ih := fun {t x y b} => eqV_run n (t := t) (x := x) (y := y) (b := b) d
    simp only [eqV] at h
    split at h
    · rename_i p q hu
      simp only [Option.some.injEq] at h; subst h
      exact run_equalIn_bool' w (d + n) t p q hu
    · rename_i k0 k p k' q hu
      split at h
      · rename_i hk; subst hk
        simp only [Option.some.injEq] at h; subst h
        exact run_equalIn_int w (d + n) t k k0 p q hu
      · cases h
    · rename_i fs xs ys hu
      split at h
      · cases h
      · rename_i hp
        have hf : P.fieldsOf t = fs := by simp [Program.fieldsOf, hu]
        rw [show d + (n + 1) = d + n + 1 from rfl, run_equalIn_struct w (d + n) t xs ys (by rw [hf]; exact hu) (by simpa using hp), hf]
        exact eqFs_run (fun t x y b hb => ih hb) h
    · cases h

theorem eqOf_run {t : TypeId} {xs ys : Array Value} {b : Bool} (h : eqOf P t (.agg xs) (.agg ys) = some b) : (Op.equalIn 10000 t (.agg xs) (.agg ys)).run P w = .ok b w := by
  unfold eqOf at h
  dsimp only at h
  split at h
  · cases h
  · exact eqV_run 6 9994 h
theorem eqOf_guard {t : TypeId} {xs ys : Array Value} {b : Bool} {op : BinOp} {x y : Operand} (h : eqOf P t (.agg xs) (.agg ys) = some b) : (eqGuard op t x y (.agg xs) (.agg ys)).run P w = .ok () w := by
  unfold eqOf at h
  dsimp only at h
  split at h
  · cases h
  · rename_i hm
    exact run_eqGuard_agg w op t x y xs ys (by simpa using hm)

theorem opRes_sound {tb : Nat → List Value → Option (Value × List Prop)} (ht : TbOk P tb) {fresh : Nat} (m : M w0 β st a w) (hc : holds st.slots cs) (hfr : makes o = true → fresh < st.heap.length ∧ st.heap.getD fresh none = none)
    {hp : Nat → Option Cells} (hhp : ∀ n c, hp n = some c → st.heap.getD n none = some c)
    (h : opRes P tb (evS st.slots) hp fresh cs o = some r) (hs : allP r.sides) (hK : ∀ β' u w', Post w0 β st.slots st.heap r u β' w' → K (a.put o.dst u) w') : o.wp P a w K Q := by
  unfold opRes at h
  split at h
  · rename_i c x y ho
    exact pick_sound m hc h ho hK
  · rename_i x ho
    simp only [Option.some.injEq] at h; subst h
    exact wp_value (u := a.eval x) (by simp only [execOp, ho, Sem.run_pure]) (hK β _ w (Post.same m rfl (Den_eval m hc x) (fun k hk => names_ev m hk)))
  · rename_i x ho
    simp only [Option.some.injEq] at h; subst h
    exact wp_value (u := a.eval x) (by simp only [execOp, ho, Sem.run_pure]) (hK β _ w (Post.same m rfl (Den_eval m hc x) (fun k hk => names_ev m hk)))
  · rename_i t ho
    obtain ⟨hf, hn⟩ := hfr (by simp [makes, ho])
    exact alloc_sound m hf hn ho h hK
  · rename_i t x ho
    obtain ⟨hf, hn⟩ := hfr (by simp [makes, ho])
    exact box_sound m hc hf hn ho h hK
  · rename_i t x ho
    exact load_sound hhp m hc ho h hK
  · rename_i t x y ho
    exact store_sound hhp m hc ho h hK
  · rename_i s x f ho
    exact field_sound m hc h ho hK
  · rename_i t x y ho
    exact index_sound m hc h hs ho hK
  · rename_i t len parts ho
    obtain ⟨hf, hn⟩ := hfr (by simp [makes, ho])
    exact buildSlice_sound m hc hf hn h ho hK
  · rename_i f args ts ho
    exact call_sound ht m hc h hs ho hK
  · rename_i op t x y ty ho
    have key : ∀ (q : BinOp) (i j : Int) (k k' : IntKind) (u : Value), (q = .quo ∨ q = .rem) → op = q → plain (evS st.slots cs x) = some (.int k i) → plain (evS st.slots cs y) = some (.int k' j) → k = k' →
        (Op.intDiv q k i j).run P w = .ok u w → r = { val := .v u, upd := none, sides := [j ≠ 0] } → o.wp P a w K Q := by
      intro q i j k k' u hq he hx hy hk hrun hr
      subst hr; subst he; subst hk
      refine wp_value (u := u) ?_ (hK β _ w (Post.same m rfl rfl (fun k hk => by simp [names] at hk)))
      rcases hq with rfl | rfl <;> simp only [execOp, ho, eval_plain m hc hx, eval_plain m hc hy, binOp, eqGuard, Sem.run_bind, Sem.run_pure, ne_eq, not_true_eq_false, if_false] <;> simp [hrun]
    split at h
    · rename_i k i k' j hx hy _
      split at h
      · rename_i hk
        simp only [Option.some.injEq] at h
        refine key .quo i j k k' (.int k (k.wrap (i.tdiv j))) (.inl rfl) rfl hx hy hk ?_ h.symm
        have hj : j ≠ 0 := by subst h; exact hs.1
        simp only [Op.intDiv, hj, if_false, Sem.run_pure]
      · cases h
    · rename_i k i k' j hx hy _
      split at h
      · rename_i hk
        simp only [Option.some.injEq] at h
        refine key .rem i j k k' (.int k (i.tmod j)) (.inr rfl) rfl hx hy hk ?_ h.symm
        have hj : j ≠ 0 := by subst h; exact hs.1
        simp only [Op.intDiv, hj, if_false, Sem.run_pure]
      · cases h
    · rename_i u v hx hy
      split at h
      · rename_i b hb
        simp only [Option.some.injEq] at h; subst h
        refine wp_value (u := .bool b) ?_ (hK β _ w (Post.same m rfl rfl (fun k hk => by simp [names] at hk)))
        simp only [execOp, ho, eval_plain m hc hx, eval_plain m hc hy, Sem.run_bind, eqOf_guard hb, Result.andThen_ok, run_eql_struct, eqOf_run hb, Sem.run_pure]
      · cases h
    · rename_i u v hx hy
      split at h
      · rename_i b hb
        simp only [Option.some.injEq] at h; subst h
        refine wp_value (u := .bool (!b)) ?_ (hK β _ w (Post.same m rfl rfl (fun k hk => by simp [names] at hk)))
        simp only [execOp, ho, eval_plain m hc hx, eval_plain m hc hy, Sem.run_bind, eqOf_guard hb, Result.andThen_ok, run_neq_struct, eqOf_run hb, Sem.run_pure]
      · cases h
    · exact plainRes_sound m hc h hK
  · exact plainRes_sound m hc h hK

theorem plainRes_val (h : plainRes P (evS st.slots cs) o = some r) : names r.val = [] ∧ r.upd = none := by
  unfold plainRes at h
  split at h
  · cases h
  · split at h
    · simp only [Option.some.injEq] at h; subst h
      refine ⟨?_, rfl⟩
      dsimp only; split <;> rfl
    · cases h
  · cases h

/-- what a result names is there, or made by it; what it sets is there, or new -/
theorem opRes_names {tb : Nat → List Value → Option (Value × List Prop)} {fresh : Nat} (m : M w0 β st a w) {hp : Nat → Option Cells} (h : opRes P tb (evS st.slots) hp fresh cs o = some r) :
    (r.upd = none → ∀ n ∈ names r.val, ∃ c, st.heap.getD n none = some c) ∧ (∀ n c, r.upd = some (n, c) → (n = fresh ∧ makes o = true) ∨ ∃ d, hp n = some d) := by
  have nil : ∀ {sv : SV}, names sv = [] → (r.upd = none → ∀ n ∈ names sv, ∃ c, st.heap.getD n none = some c) := fun h0 _ n hn => by rw [h0] at hn; cases hn
  unfold opRes at h
  split at h
  · split at h
    · split at h
      · simp only [Option.some.injEq] at h; subst h
        exact ⟨nil (by dsimp only; generalize closed _ = q; cases q <;> rfl), fun n c hu => by cases hu⟩
      · cases h
    · split at h
      · simp only [Option.some.injEq] at h; subst h
        exact ⟨nil rfl, fun n c hu => by cases hu⟩
      · cases h
    · cases h
  · simp only [Option.some.injEq] at h; subst h
    exact ⟨fun _ n hn => names_ev m hn, fun n c hu => by cases hu⟩
  · simp only [Option.some.injEq] at h; subst h
    exact ⟨fun _ n hn => names_ev m hn, fun n c hu => by cases hu⟩
  · rename_i t ho
    split at h
    · simp only [Option.some.injEq] at h; subst h
      exact ⟨fun hu => by (cases hu), fun n c hu => by simp only [Option.some.injEq, Prod.mk.injEq] at hu; exact .inl ⟨hu.1.symm, by simp [makes, ho]⟩⟩
    · cases h
  · rename_i t x ho
    split at h
    · simp only [Option.some.injEq] at h; subst h
      exact ⟨fun hu => by (cases hu), fun n c hu => by simp only [Option.some.injEq, Prod.mk.injEq] at hu; exact .inl ⟨hu.1.symm, by simp [makes, ho]⟩⟩
    · cases h
  · split at h
    · split at h
      · split at h
        · simp only [Option.some.injEq] at h; subst h
          exact ⟨nil rfl, fun n c hu => by cases hu⟩
        · cases h
      · cases h
    · split at h
      · split at h
        · split at h
          · simp only [Option.some.injEq] at h; subst h
            exact ⟨nil rfl, fun n c hu => by cases hu⟩
          · cases h
        · cases h
      · cases h
    · cases h
  · split at h
    · split at h
      · rename_i n0 off0 u0 _ _ _ _ c0 k0 hn0 _
        split at h
        · simp only [Option.some.injEq] at h; subst h
          exact ⟨fun hu => by (cases hu), fun n c hu => by simp only [Option.some.injEq, Prod.mk.injEq] at hu; exact .inr ⟨c0, hu.1 ▸ hn0⟩⟩
        · cases h
      · cases h
    · split at h
      · rename_i c0 k0 hn0 _
        split at h
        · simp only [Option.some.injEq] at h; subst h
          exact ⟨fun hu => by (cases hu), fun n c hu => by simp only [Option.some.injEq, Prod.mk.injEq] at hu; exact .inr ⟨c0, hu.1 ▸ hn0⟩⟩
        · cases h
      · cases h
    · cases h
  · rename_i s x f ho
    have hn := fun n => names_ev (cs := cs) m (x := x) (n := n)
    split at h
    · rename_i n off fd hev _
      rw [hev] at hn
      split at h
      · simp only [Option.some.injEq] at h; subst h
        exact ⟨fun _ q hq => hn q hq, fun n c hu => by cases hu⟩
      · cases h
    · rename_i n off i len size fd hev _
      rw [hev] at hn
      split at h
      · simp only [Option.some.injEq] at h; subst h
        exact ⟨fun _ q hq => hn q hq, fun n c hu => by cases hu⟩
      · cases h
    · cases h
  · rename_i t x y ho
    have hn := fun n => names_ev (cs := cs) m (x := x) (n := n)
    split at h
    · rename_i hev _
      rw [hev] at hn
      split at h
      · split at h
        · split at h
          · simp only [Option.some.injEq] at h; subst h
            exact ⟨fun _ q hq => hn q hq, fun n c hu => by cases hu⟩
          · cases h
        · cases h
      · cases h
    · rename_i hev _
      rw [hev] at hn
      split at h
      · split at h
        · simp only [Option.some.injEq] at h; subst h
          exact ⟨fun _ q hq => hn q hq, fun n c hu => by cases hu⟩
        · cases h
      · cases h
    · rename_i hev _
      rw [hev] at hn
      split at h
      · split at h
        · split at h
          · simp only [Option.some.injEq] at h; subst h
            exact ⟨fun _ q hq => hn q hq, fun n c hu => by cases hu⟩
          · cases h
        · cases h
      · cases h
    · rename_i hev _
      rw [hev] at hn
      split at h
      · split at h
        · simp only [Option.some.injEq] at h; subst h
          exact ⟨fun _ q hq => hn q hq, fun n c hu => by cases hu⟩
        · cases h
      · cases h
    · cases h
  · rename_i t len parts ho
    split at h
    · split at h
      · simp only [Option.some.injEq] at h; subst h
        exact ⟨fun hu => by (cases hu), fun n c hu => by simp only [Option.some.injEq, Prod.mk.injEq] at hu; exact .inl ⟨hu.1.symm, by simp [makes, ho]⟩⟩
      · cases h
    · cases h
  · split at h
    · split at h
      · simp only [Option.some.injEq] at h; subst h
        exact ⟨nil rfl, fun n c hu => by cases hu⟩
      · cases h
    · cases h
  · split at h
    · split at h
      · simp only [Option.some.injEq] at h; subst h
        exact ⟨nil rfl, fun n c hu => by cases hu⟩
      · cases h
    · split at h
      · simp only [Option.some.injEq] at h; subst h
        exact ⟨nil rfl, fun n c hu => by cases hu⟩
      · cases h
    · split at h
      · simp only [Option.some.injEq] at h; subst h
        exact ⟨nil rfl, fun n c hu => by cases hu⟩
      · cases h
    · split at h
      · simp only [Option.some.injEq] at h; subst h
        exact ⟨nil rfl, fun n c hu => by cases hu⟩
      · cases h
    · obtain ⟨h1, h2⟩ := plainRes_val h
      exact ⟨nil h1, fun n c hu => by rw [h2] at hu; cases hu⟩
  · obtain ⟨h1, h2⟩ := plainRes_val h
    exact ⟨nil h1, fun n c hu => by rw [h2] at hu; cases hu⟩
end
end Go.Proofs.Ytgdjfclpncpnpaa.Sym
