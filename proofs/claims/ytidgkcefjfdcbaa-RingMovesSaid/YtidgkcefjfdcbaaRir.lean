/-
  OWN WORK. The law RingMoves.
-/
import Derived.Test.YtidgkcefjfdcbaaDgo
import Derived.Test.YtidgkcefjfdcbaaRim
namespace Go.Proofs.Ytidgkcefjfdcbaa
open Go Go.RowKit Sym

theorem rmRo_ok (q : P2) : CallOk Try.prog 36 [pt q] (pt ⟨W (0 - q.y), q.x⟩) := fnOk (fuel := 16) (tbOf_ok tbA_ok) mo Try.func36 (by kernel_rfl) (by kernel_rfl) (by kernel_rfl) (by kernel_rfl)
theorem rmMi_ok (q : P2) : CallOk Try.prog 37 [pt q] (pt ⟨W (0 - q.x), q.y⟩) := fnOk (fuel := 16) (tbOf_ok tbA_ok) mo Try.func37 (by kernel_rfl) (by kernel_rfl) (by kernel_rfl) (by kernel_rfl)
def tbRm : List Entry := (36, en1 dP (fun q => pt ⟨W (0 - q.y), q.x⟩)) :: (37, en1 dP (fun q => pt ⟨W (0 - q.x), q.y⟩)) :: tbR9
theorem tbRm_ok : ∀ e ∈ tbRm, EntryOk Try.prog e := List.forall_mem_cons.2 ⟨en1_ok dP_eq rmRo_ok, List.forall_mem_cons.2 ⟨en1_ok dP_eq rmMi_ok, tbR9_ok⟩⟩
/-- a contract over plain values as one of the first executor's -/
theorem callOk_D {P : Program} {K : Nat} {ds : List Dyn.DV} {us : List Value} {v : Value} (h : ∀ w F, Dyn.DenVs w F ds us) (hd : Dyn.CallD P K ds (.val (.one (.p v)))) : CallOk P K us v := fun w => by
  have k := hd w (fun _ => False) us (fun b hb => hb.elim) (h w _)
  split at k
  · rename_i u w' heq
    rw [heq]
    obtain ⟨k1, k2⟩ := k
    cases k1
    exact ⟨rfl, k2⟩
  · rename_i f ax w1 heq
    rw [heq]
    obtain ⟨rfl, k⟩ := k
    refine ⟨rfl, k.mono ?_⟩
    rintro e w2 ⟨u, rfl, h1, h2⟩
    cases h1
    exact ⟨rfl, h2⟩
  · exact k.elim
theorem den_X (b : B4) (w : World) (F : Nat → Prop) : Dyn.DenV w F (dvX b) (bx b) := ⟨_, rfl, .p _ rfl, .p _ rfl, .p _ rfl, .p _ rfl, trivial⟩
theorem den_P (p : P2) (w : World) (F : Nat → Prop) : Dyn.DenV w F (dvP p) (pt p) := ⟨_, rfl, .p _ rfl, .p _ rfl, trivial⟩
theorem den_I (x : Int) (w : World) (F : Nat → Prop) : Dyn.DenV w F (dvI x) (vi x) := .p _ rfl
theorem den_B (x : Bool) (w : World) (F : Nat → Prop) : Dyn.DenV w F (dvB x) (vb x) := .p _ rfl

def noE (_ : Nat) : Bool := false
def dptP (u : P2) : Dyn.DV := .one (.ptr [.p (vi u.x), .p (vi u.y)])
/-- an entry: a point, a pointer to a point -/
def enPp (F : P2 → P2 → Dyn.RV) : List Dyn.DV → Option (Dyn.RV × List Prop)
  | [.agg [.p (.int .i64 x), .p (.int .i64 y)], .one (.ptr [.p (.int .i64 u), .p (.int .i64 v)])] => some (F ⟨x, y⟩ ⟨u, v⟩, [])
  | _ => none
theorem enPp_ok {P : Program} {K : Nat} {F : P2 → P2 → Dyn.RV} (h : ∀ x u, Dyn.CallD P K [dvP x, dptP u] (F x u)) : Dyn.EntryDOk P (K, enPp F) := fun args r ps hr hp => by
  dsimp only at hr
  unfold enPp at hr
  split at hr
  · simp only [Option.some.injEq, Prod.mk.injEq] at hr
    obtain ⟨rfl, rfl⟩ := hr
    rename_i x y u v
    exact h ⟨x, y⟩ ⟨u, v⟩
  · cases hr
def tabRm0 : Dyn.Tabs := Dyn.tabs tbRm [] noE noE
theorem tabRm0_ok : Dyn.TabsOk Try.prog tabRm0 := Dyn.tabs_ok tbRm_ok (fun _ h => by cases h)
theorem rmTr_ok (q u : P2) : Dyn.CallD Try.prog 35 [dvP q, dptP u] (.val (dvP ⟨W (q.x + u.x), W (q.y + u.y)⟩)) :=
  Dyn.dcontract (lp := Dyn.noLp) (fuel := 3) (X := tabRm0) tabRm0_ok mo Try.func35 (by kernel_rfl) (c := bodyD Try.f35.body) (by kernel_rfl) (fun w0 => Dyn.noLp_ok _ w0)
    (by kernel_rfl) (O := .leaf (.val (dvP ⟨W (q.x + u.x), W (q.y + u.y)⟩))) (by kernel_rfl) (Dyn.RVLe.refl (.val (dvP ⟨W (q.x + u.x), W (q.y + u.y)⟩)))
def tdRm : List Dyn.EntryD := [(35, enPp fun q u => .val (dvP ⟨W (q.x + u.x), W (q.y + u.y)⟩))]
theorem tdRm_ok : ∀ e ∈ tdRm, Dyn.EntryDOk Try.prog e := List.forall_mem_cons.2 ⟨enPp_ok rmTr_ok, fun _ h => by cases h⟩
def tabRm : Dyn.Tabs := Dyn.tabs tbRm tdRm noE noE
theorem tabRm_ok : Dyn.TabsOk Try.prog tabRm := Dyn.tabs_ok tbRm_ok tdRm_ok
def wTr (u q : P2) : P2 := ⟨W (q.x + u.x), W (q.y + u.y)⟩
def wRo (q : P2) : P2 := ⟨W (0 - q.y), q.x⟩
def wMi (q : P2) : P2 := ⟨W (0 - q.x), q.y⟩
def wTrB (u : P2) (b : B4) : B4 := ⟨W (b.x0 + u.x), W (b.y0 + u.y), W (b.x1 + u.x), W (b.y1 + u.y)⟩
def wRoB (b : B4) : B4 := ⟨W (0 - b.y1), b.x0, W (0 - b.y0), b.x1⟩
def wMiB (b : B4) : B4 := ⟨W (0 - b.x1), b.y0, W (0 - b.x0), b.y1⟩
def rmBad1 (b : B4) (c a e u : P2) (r : Int) : Bool :=
  bif (bif !(ringClass (wTrB u b) (wTr u c) (wTr u a) (wTr u e) r == ringClass b c a e r) then true else !(ringClass (wRoB b) (wRo c) (wRo a) (wRo e) r == ringClass b c a e r)) then true else !(ringClass (wMiB b) (wMi c) (wMi e) (wMi a) r == ringClass b c a e r)
def rmBad2 (p c a e u : P2) (r : Int) : Bool :=
  bif (bif !(ringHas (wTr u p) (wTr u c) (wTr u a) (wTr u e) r == ringHas p c a e r) then true else !(ringHas (wRo p) (wRo c) (wRo a) (wRo e) r == ringHas p c a e r)) then true else !(ringHas (wMi p) (wMi c) (wMi e) (wMi a) r == ringHas p c a e r)
def rm0 (b : B4) (p c a e u : P2) (r more : Int) : Bool :=
  bif rmBad1 b c a e u r then false else bif rmBad2 p c a e u r then false else bif (bif !(ringHas p c a e r) then true else ringHas p c a e (W (r + (lR more).tmod 9))) then true else false
def ringMoves (b : B4) (c : P2) (r f t s : Int) (p u : P2) (more : Int) : Bool := rm0 (lSmall b) (lClose p 40) (arcC c true) (arcAt c f s true) (arcAt c t s true) (lClose u 100000000) (lSmR (lR r) 30) more
/-! ### the plain law -/
structure Nr (q : P2) : Prop where
  x0 : -100 ≤ q.x
  x1 : q.x ≤ 100
  y0 : -100 ≤ q.y
  y1 : q.y ≤ 100
theorem wTr_eq {u q : P2} (hu : (-100000000 ≤ u.x ∧ u.x ≤ 100000000) ∧ (-100000000 ≤ u.y ∧ u.y ≤ 100000000)) (h : Nr q) : wTr u q = trP u q ∧ PR (trP u q) := by
  obtain ⟨⟨a1, a2⟩, a3, a4⟩ := hu
  obtain ⟨h1, h2, h3, h4⟩ := h
  unfold wTr trP
  exact ⟨by rw [W_id (by omega) (by omega), W_id (by omega) (by omega)], ⟨by dsimp only; omega, by dsimp only; omega⟩, ⟨by dsimp only; omega, by dsimp only; omega⟩⟩
theorem wRo_eq {q : P2} (h : Nr q) : wRo q = roP q ∧ PR (roP q) := by
  obtain ⟨h1, h2, h3, h4⟩ := h
  unfold wRo roP
  exact ⟨by rw [W_id (by omega) (by omega), Int.zero_sub], ⟨by dsimp only; omega, by dsimp only; omega⟩, ⟨by dsimp only; omega, by dsimp only; omega⟩⟩
theorem wMi_eq {q : P2} (h : Nr q) : wMi q = mjP q ∧ PR (mjP q) := by
  obtain ⟨h1, h2, h3, h4⟩ := h
  unfold wMi mjP
  exact ⟨by rw [W_id (by omega) (by omega), Int.zero_sub], ⟨by dsimp only; omega, by dsimp only; omega⟩, ⟨by dsimp only; omega, by dsimp only; omega⟩⟩
structure NrB (b : B4) : Prop where
  x0 : -100 ≤ b.x0
  x : b.x0 ≤ b.x1
  x1 : b.x1 ≤ 100
  y0 : -100 ≤ b.y0
  y : b.y0 ≤ b.y1
  y1 : b.y1 ≤ 100
theorem wTrB_eq {u : P2} {b : B4} (hu : (-100000000 ≤ u.x ∧ u.x ≤ 100000000) ∧ (-100000000 ≤ u.y ∧ u.y ≤ 100000000)) (h : NrB b) : wTrB u b = trB u b ∧ BR (trB u b) ∧ (trB u b).x0 ≤ (trB u b).x1 ∧ (trB u b).y0 ≤ (trB u b).y1 := by
  obtain ⟨⟨a1, a2⟩, a3, a4⟩ := hu
  obtain ⟨h1, h2, h3, h4, h5, h6⟩ := h
  unfold wTrB trB
  exact ⟨by rw [W_id (by omega) (by omega), W_id (by omega) (by omega), W_id (by omega) (by omega), W_id (by omega) (by omega)], ⟨⟨by dsimp only; omega, by dsimp only; omega⟩, ⟨by dsimp only; omega, by dsimp only; omega⟩, ⟨by dsimp only; omega, by dsimp only; omega⟩, ⟨by dsimp only; omega, by dsimp only; omega⟩⟩, by dsimp only; omega, by dsimp only; omega⟩
theorem wRoB_eq {b : B4} (h : NrB b) : wRoB b = roB b ∧ BR (roB b) ∧ (roB b).x0 ≤ (roB b).x1 ∧ (roB b).y0 ≤ (roB b).y1 := by
  obtain ⟨h1, h2, h3, h4, h5, h6⟩ := h
  unfold wRoB roB
  exact ⟨by rw [W_id (by omega) (by omega), W_id (by omega) (by omega), Int.zero_sub, Int.zero_sub], ⟨⟨by dsimp only; omega, by dsimp only; omega⟩, ⟨by dsimp only; omega, by dsimp only; omega⟩, ⟨by dsimp only; omega, by dsimp only; omega⟩, ⟨by dsimp only; omega, by dsimp only; omega⟩⟩, by dsimp only; omega, by dsimp only; omega⟩
theorem wMiB_eq {b : B4} (h : NrB b) : wMiB b = mjB b ∧ BR (mjB b) ∧ (mjB b).x0 ≤ (mjB b).x1 ∧ (mjB b).y0 ≤ (mjB b).y1 := by
  obtain ⟨h1, h2, h3, h4, h5, h6⟩ := h
  unfold wMiB mjB
  exact ⟨by rw [W_id (by omega) (by omega), W_id (by omega) (by omega), Int.zero_sub, Int.zero_sub], ⟨⟨by dsimp only; omega, by dsimp only; omega⟩, ⟨by dsimp only; omega, by dsimp only; omega⟩, ⟨by dsimp only; omega, by dsimp only; omega⟩, ⟨by dsimp only; omega, by dsimp only; omega⟩⟩, by dsimp only; omega, by dsimp only; omega⟩
theorem nr_dist {p c : P2} (hp : Nr p) (hc : Nr c) : distI p c ≤ 80000 := near_small ⟨⟨hp.x0, hp.x1⟩, hp.y0, hp.y1⟩ ⟨⟨hc.x0, hc.x1⟩, hc.y0, hc.y1⟩
theorem nr_most {b : B4} {c : P2} (hb : NrB b) (hc : Nr c) : mostI b c ≤ 80000 := by
  obtain ⟨h1, h2, h3, h4, h5, h6⟩ := hb
  obtain ⟨k1, k2, k3, k4⟩ := hc
  have a1 := (sq_bd (A := 200) (x := reachI c.x b.x0 b.x1) (by unfold reachI; omega) (by unfold reachI; omega)).2
  have a2 := (sq_bd (A := 200) (x := reachI c.y b.y0 b.y1) (by unfold reachI; omega) (by unfold reachI; omega)).2
  unfold mostI; omega
theorem nr_pr {q : P2} (h : Nr q) : PR q := by
  obtain ⟨h1, h2, h3, h4⟩ := h
  exact ⟨⟨by omega, by omega⟩, ⟨by omega, by omega⟩⟩
theorem rm_class {T : P2 → P2} {b b' : B4} {c a e : P2} {r : Int} (h : Iso T) (hb : IsoB T b b') (hB : BR b') (hx : b'.x0 ≤ b'.x1) (hy : b'.y0 ≤ b'.y1) (hc : PR (T c)) (ha : PR (T a)) (he : PR (T e)) (hn : NrB b) (nc : Nr c) (na : Nr a) (ne : Nr e) (h1 : 1 ≤ r) (h2 : r ≤ 1073741824) (ok : okI c a e) :
    ringClass b' (T c) (T a) (T e) r = ringCl b' (T c) (T a) (T e) r ∧ ringClass b' (T c) (T e) (T a) r = ringCl b' (T c) (T e) (T a) r := by
  have m := nr_most hn nc
  have d := nr_dist na nc
  have d' := nr_dist ne nc
  unfold okI at ok
  exact ⟨ringClass_eq hB hc ha he (by unfold okI; rw [h.d, h.d]; exact ok) hx hy h1 h2 (by rw [hb.m]; omega) (by rw [h.d]; omega),
    ringClass_eq hB hc he ha (by unfold okI; rw [h.d, h.d]; omega) hx hy h1 h2 (by rw [hb.m]; omega) (by rw [h.d]; omega)⟩
theorem rm_has {T : P2 → P2} {p c a e : P2} {r : Int} (h : Iso T) (hp : PR (T p)) (hc : PR (T c)) (ha : PR (T a)) (he : PR (T e)) (np : Nr p) (nc : Nr c) (na : Nr a) (ne : Nr e) (h1 : 1 ≤ r) (h2 : r ≤ 1073741824) (ok : okI c a e) :
    ringHas (T p) (T c) (T a) (T e) r = ringI (T p) (T c) (T a) (T e) r ∧ ringHas (T p) (T c) (T e) (T a) r = ringI (T p) (T c) (T e) (T a) r := by
  have d0 := nr_dist np nc
  have d := nr_dist na nc
  have d' := nr_dist ne nc
  unfold okI at ok
  exact ⟨ringHas_eq hp hc ha he (by unfold okI; rw [h.d, h.d]; exact ok) h1 h2 (by rw [h.d]; omega) (by rw [h.d]; omega),
    ringHas_eq hp hc he ha (by unfold okI; rw [h.d, h.d]; omega) h1 h2 (by rw [h.d]; omega) (by rw [h.d]; omega)⟩
theorem id_iso : Iso (fun p => p) := ⟨fun _ _ => rfl, fun _ _ => Iff.rfl⟩
theorem id_isoB (b : B4) : IsoB (fun p => p) b b := ⟨fun _ => rfl, fun _ => rfl, fun _ => rfl⟩
theorem rm0_true {b : B4} {p c a e u : P2} {r more : Int} (hb : NrB b) (hp : Nr p) (hc : Nr c) (ha : Nr a) (he : Nr e) (hu : (-100000000 ≤ u.x ∧ u.x ≤ 100000000) ∧ (-100000000 ≤ u.y ∧ u.y ≤ 100000000)) (h1 : 1 ≤ r) (h2 : r ≤ 1000) (ok : okI c a e) : rm0 b p c a e u r more = true := by
  have hB : BR b := ⟨⟨by have := hb.x0; omega, by have := hb.x; have := hb.x1; omega⟩, ⟨by have := hb.y0; omega, by have := hb.y; have := hb.y1; omega⟩, ⟨by have := hb.x0; have := hb.x; omega, by have := hb.x1; omega⟩, ⟨by have := hb.y0; have := hb.y; omega, by have := hb.y1; omega⟩⟩
  have l := lR_bd more
  have l2 : 0 ≤ (lR more).tmod 9 := Int.tmod_nonneg _ (by omega)
  have l3 := (tmod_bd (lR more) (n := 9) (by decide)).2
  have e0 := (rm_class id_iso (id_isoB b) hB hb.x hb.y (nr_pr hc) (nr_pr ha) (nr_pr he) hb hc ha he h1 (show r ≤ 1073741824 by omega) ok).1
  have i0 := fun (r' : Int) (k1 : 1 ≤ r') (k2 : r' ≤ 1073741824) => (rm_has id_iso (nr_pr hp) (nr_pr hc) (nr_pr ha) (nr_pr he) hp hc ha he k1 k2 ok).1
  have tb := wTrB_eq hu hb
  have t1 := (rm_class (trP_iso u) (trB_iso u b) tb.2.1 tb.2.2.1 tb.2.2.2 (wTr_eq hu hc).2 (wTr_eq hu ha).2 (wTr_eq hu he).2 hb hc ha he h1 (show r ≤ 1073741824 by omega) ok).1
  have t2 := (rm_has (trP_iso u) (wTr_eq hu hp).2 (wTr_eq hu hc).2 (wTr_eq hu ha).2 (wTr_eq hu he).2 hp hc ha he h1 (show r ≤ 1073741824 by omega) ok).1
  have rb := wRoB_eq hb
  have r1 := (rm_class roP_iso (roB_iso hb.y) rb.2.1 rb.2.2.1 rb.2.2.2 (wRo_eq hc).2 (wRo_eq ha).2 (wRo_eq he).2 hb hc ha he h1 (show r ≤ 1073741824 by omega) ok).1
  have r2 := (rm_has roP_iso (wRo_eq hp).2 (wRo_eq hc).2 (wRo_eq ha).2 (wRo_eq he).2 hp hc ha he h1 (show r ≤ 1073741824 by omega) ok).1
  have mb := wMiB_eq hb
  have m1 := (rm_class mjP_iso (mjB_iso hb.x) mb.2.1 mb.2.2.1 mb.2.2.2 (wMi_eq hc).2 (wMi_eq ha).2 (wMi_eq he).2 hb hc ha he h1 (show r ≤ 1073741824 by omega) ok).2
  have m2 := (rm_has mjP_iso (wMi_eq hp).2 (wMi_eq hc).2 (wMi_eq ha).2 (wMi_eq he).2 hp hc ha he h1 (show r ≤ 1073741824 by omega) ok).2
  unfold rm0 rmBad1 rmBad2
  rw [tb.1, rb.1, mb.1, (wTr_eq hu hp).1, (wTr_eq hu hc).1, (wTr_eq hu ha).1, (wTr_eq hu he).1, (wRo_eq hp).1, (wRo_eq hc).1, (wRo_eq ha).1, (wRo_eq he).1, (wMi_eq hp).1, (wMi_eq hc).1, (wMi_eq ha).1, (wMi_eq he).1,
    t1, t2, r1, r2, m1, m2, e0, i0 r h1 (by omega), W_id (by omega) (by omega), i0 (r + (lR more).tmod 9) (by omega) (by omega),
    ringCl_iso (trP_iso u) (trB_iso u b) (trP_cross u), ringCl_iso roP_iso (roB_iso hb.y) roP_cross, ringCl_mir mjP_iso (mjB_iso hb.x) mjP_cross ok.2,
    ringI_iso (trP_iso u) (trP_cross u), ringI_iso roP_iso roP_cross, ringI_mir mjP_iso mjP_cross ok.2]
  have w : ringI p c a e r = true → ringI p c a e (r + (lR more).tmod 9) = true := ringI_wide (by omega) (by omega)
  cases h : ringI p c a e r
  · simp
  · rw [w h]; simp
theorem nr_arc (c : P2) (f s : Int) : Nr (arcAt c f s true) := by
  have h := arc_facts c f s true
  have k := arcK1_bd s
  have n := arcC_s c
  have k2 : arcK s true * arcK s true ≤ 16 := by
    have := (sq_bd (A := 4) (x := arcK1 s) (by omega) (by omega)).2
    exact this
  have hd := h.2.1
  unfold distI at hd
  have one : ∀ x y : Int, x * x + y * y ≤ 400 → -20 ≤ x ∧ x ≤ 20 := fun x y hxy => by
    have hy : 0 ≤ y * y := by rcases Int.le_total 0 y with k | k
                              · exact Int.mul_nonneg k k
                              · have := Int.mul_nonneg (show 0 ≤ -y by omega) (show 0 ≤ -y by omega); rw [Int.neg_mul_neg] at this; exact this
    refine ⟨?_, ?_⟩
    · rcases (show x < -20 ∨ -20 ≤ x by omega) with g | g
      · have := sq_le_sq (x := 21) (y := -x) (by decide) (by omega)
        rw [Int.neg_mul_neg] at this; omega
      · exact g
    · rcases (show 20 < x ∨ x ≤ 20 by omega) with g | g
      · have := sq_le_sq (x := 21) (y := x) (by decide) (by omega)
        omega
      · exact g
  have a := one _ _ (by rw [hd]; omega)
  have b := one _ _ (by rw [Int.add_comm, hd]; omega)
  exact ⟨by omega, by omega, by omega, by omega⟩
theorem ringMoves_true (b : B4) (c : P2) (r f t s : Int) (p u : P2) (more : Int) : ringMoves b c r f t s p u more = true := by
  have hr := lR_bd r
  have e := lSmR_bd (r := lR r) (m := 30) (by omega) (by decide) (by decide)
  have h := lSmall_r b
  have hp := lClose_r p (n := 40) (by decide) (by decide)
  have n := arcC_s c
  exact rm0_true ⟨by omega, by omega, by omega, by omega, by omega, by omega⟩ ⟨by omega, by omega, by omega, by omega⟩ ⟨by omega, by omega, by omega, by omega⟩ (nr_arc c f s) (nr_arc c t s) (lClose_r u (n := 100000000) (by decide) (by decide)) e.1 (by omega) (arc_okI c f t s true)
theorem ringMoves_ok (b : B4) (c : P2) (r f t s : Int) (p u : P2) (more : Int) : CallOk Try.prog 11 [bx b, pt c, vi r, vi f, vi t, vi s, pt p, pt u, vi more] (vb true) := by
  rw [← ringMoves_true b c r f t s p u more]
  exact callOk_D (ds := [dvX b, dvP c, dvI r, dvI f, dvI t, dvI s, dvP p, dvP u, dvI more]) (fun w F => ⟨den_X b w F, den_P c w F, den_I r w F, den_I f w F, den_I t w F, den_I s w F, den_P p w F, den_P u w F, den_I more w F, trivial⟩) (Dyn.dcontractV (lp := Dyn.noLp) (fuel := 3) (X := tabRm) tabRm_ok mo Try.func11 (by kernel_rfl) (c := bodyD Try.f11.body) (by kernel_rfl) (fun w0 => Dyn.noLp_ok _ w0)
    (by kernel_rfl) (by kernel_rfl) (show _ = [W (40 + 1) ≠ 0, W (100000000 + 1) ≠ 0] by kernel_rfl) ⟨by decide, by decide, trivial⟩)
end Go.Proofs.Ytidgkcefjfdcbaa
