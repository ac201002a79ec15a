/-
  OWN WORK. Joined by merge.py: Shf Wid Bar Box Lin Disc Bas Disd Bat Lio Bau.
-/
import Derived.Test.YtfooaikpcbnchaaQE
import Derived.Test.YtfooaikpcbnchaaQD
/-! ## Shf -/
namespace Go.Proofs.Ytfooaikpcbnchaa
open Go Go.RowKit Sym
set_option maxRecDepth 100000

/-- a shape as an input may be: any lengths -/
def ShW : Shp → Prop
  | .nil => False
  | .mk _ _ _ _ _ _ n _ sub => ∀ i, i < n → ShW (sub i)
def smL (l : Ctr) (i : Nat) (_ : Unit) : Bool × Unit := (!(decide ((l.m i : Int) > 40)), ())
def smP (g : Sh → Int → Bool) (sh : Nat → Sh) (deep : Int) (i : Nat) (_ : Unit) : Bool × Unit := (g (sh i) (W (deep + 1)), ())
def smallG (g : Sh → Int → Bool) (sh : Nat → Sh) (s : Sh) (deep : Int) : Bool :=
  bif bif bif decide ((s.n : Int) > 12) then true else decide ((s.l.n : Int) > 12) then true else decide (deep > 12) then false else
  bif (runN (smL s.l) () s.l.n).1 then (runN (smP g sh deep) () s.n).1 else false
def SmOk (x : Sh) (g : Sh → Int → Bool) : Prop := ∀ d, Dyn.CallD Try.prog 14 [dvS x, dvI d] (rB (g x d))
def tdSm (Pd : Sh → Prop) (g : Sh → Int → Bool) : List Dyn.EntryD := [(14, en2D (qAnd qS Pd) qI fun x d => rB (g x d))]
def tabSm (Pd : Sh → Prop) (g : Sh → Int → Bool) : Dyn.Tabs := Dyn.tabs tbF (tdSm Pd g) noD dtyP
theorem tabSm_ok {Pd : Sh → Prop} {g : Sh → Int → Bool} (ih : ∀ x, Pd x → SmOk x g) : Dyn.TabsOk Try.prog (tabSm Pd g) :=
  Dyn.tabs_ok tbF_ok (List.forall_mem_cons.2 ⟨en2D_ok (qAnd_ok qS_ok) qI_ok fun x p h _ => ih x h.1 p, fun _ h => by cases h⟩)
def smH (s : Sh) : List (Option Dyn.HE) := [some (.deep (cS s)), some (.cells 29 (shV 0 8 s))]
def smS (s : Sh) (deep i : Int) : Dyn.St := mkS 52 [(1, sI deep), (2, sL 1), (4, .k (vb false)), (5, sI i)] (smH s)
def smT (s : Sh) (deep i : Int) : Dyn.St := mkS 52 [(1, sI deep), (2, sL 1), (4, .k (vb false)), (6, sI i)] (smH s)
def smR : Dyn.St := mkS 52 [(4, .k (vb false))] []
def smK0 : List Nat := [1, 2, 4, 5]
def smK1 : List Nat := [1, 2, 4, 6]
def smLp (g : Sh → Int → Bool) (sh : Nat → Sh) (s : Sh) (deep : Int) : Dyn.Lp := fun id st => match id with
  | 0 => some (.side [keepA 52 [0, 1] [] smK0 (2 ^ 5) st = smS s deep 0, s.l.n ≤ 12] (.ite (runN (smL s.l) () s.l.n).1 (.leaf .normal (smS s deep s.l.n)) (.leaf .ret smR)))
  | 2 => some (.side [keepA 52 [0, 1] [] smK1 (2 ^ 6) st = smT s deep 0, s.n ≤ 12] (.ite (runN (smP g sh deep) () s.n).1 (.leaf .normal (smT s deep s.n)) (.leaf .ret smR)))
  | _ => none
def smB0 (s : Sh) (deep : Int) (i : Nat) : Dyn.Out :=
  .ite (decide ((i : Int) < s.l.n)) (.side [0 ≤ (i : Int) ∧ (i : Int) < s.l.n] (.ite (decide ((s.l.m i : Int) > 40)) (.leaf .ret smR) (.leaf .normal (smS s deep (W (i + 1)))))) (.leaf (.exit 0) (smS s deep i))
def smB2 (Pd : Sh → Prop) (g : Sh → Int → Bool) (sh : Nat → Sh) (s : Sh) (deep : Int) (i : Nat) : Dyn.Out :=
  .ite (decide ((i : Int) < s.n)) (.side [0 ≤ (i : Int) ∧ (i : Int) < s.n, Pd (sh i), ctrSelf (sh i).l] (.ite (!(g (sh i) (W (deep + 1)))) (.leaf .ret smR) (.leaf .normal (smT s deep (W (i + 1)))))) (.leaf (.exit 2) (smT s deep i))
theorem sm_B0 (Pd : Sh → Prop) (g : Sh → Int → Bool) (sh : Nat → Sh) (s : Sh) (deep : Int) (i : Nat) : (Dyn.lexec Try.prog (tabSm Pd g) (smLp g sh s deep) 3 (unloopD (blkD Try.f14.body 0)) .leaf (smS s deep i)).rl (keepR 52 [0, 1] [] smK0 [4]) = smB0 s deep i := by kernel_rfl
def tabSn (Pd : Sh → Prop) (g : Sh → Int → Bool) : Dyn.Tabs := Dyn.tabs tbF (tdSm Pd g) noD dtyS
theorem tabSn_ok {Pd : Sh → Prop} {g : Sh → Int → Bool} (ih : ∀ x, Pd x → SmOk x g) : Dyn.TabsOk Try.prog (tabSn Pd g) :=
  Dyn.tabs_ok tbF_ok (List.forall_mem_cons.2 ⟨en2D_ok (qAnd_ok qS_ok) qI_ok fun x p h _ => ih x h.1 p, fun _ h => by cases h⟩)
theorem sm_B2 (Pd : Sh → Prop) (g : Sh → Int → Bool) (k : Int) (a b c : P2) (r : Int) (l : Ctr) (n : Nat) (add : Nat → Bool) (sh : Nat → Sh) (deep : Int) (i : Nat) :
    (Dyn.lexec Try.prog (tabSn Pd g) (smLp g sh (mkSh k a b c r l n add sh) deep) 3 (unloopD (blkD Try.f14.body 2)) .leaf (smT (mkSh k a b c r l n add sh) deep i)).rl (keepR 52 [0, 1] [] smK1 [4]) = smB2 Pd g sh (mkSh k a b c r l n add sh) deep i := by kernel_rfl
theorem sm_blocks : blocksL (bodyD Try.f14.body) = [(0, .loop (unloopD (blkD Try.f14.body 0))), (1, blkD Try.f14.body 1), (2, .loop (unloopD (blkD Try.f14.body 2))), (3, blkD Try.f14.body 3)] := by kernel_rfl
theorem sm_b0 : blocksL (unloopD (blkD Try.f14.body 0)) = [(1, blkD Try.f14.body 1)] := by kernel_rfl
theorem sm_b2 : blocksL (unloopD (blkD Try.f14.body 2)) = [(3, blkD Try.f14.body 3)] := by kernel_rfl
theorem sm_loop0 {Pd : Sh → Prop} {g : Sh → Int → Bool} (ih : ∀ x, Pd x → SmOk x g) (sh : Nat → Sh) (s : Sh) (deep : Int) (w0 : Dyn.Base Try.prog) (st : Dyn.St) (o : Dyn.Out) (h : smLp g sh s deep 0 st = some o) : Dyn.BlockSound Try.prog w0 0 (.loop (unloopD (blkD Try.f14.body 0))) st o := by
  simp only [smLp, Option.some.injEq] at h
  subst h
  refine side_two fun hS hn => ?_
  refine run_block (fuel := 3) (tabSm_ok ih) mo (lp := smLp g sh s deep) (by rw [sm_b0]; exact lpOk_cons (fun s o h => by cases h) lpOk_nil) (fun i (_ : Unit) => smS s deep i) s.l.n (smL s.l) () (fun _ => smR) (keepR 52 [0, 1] [] smK0 [4]) (keepR_ent 52 _ _ _ _) (fun i _ => smB0 s deep i) (fun i _ => sm_B0 Pd g sh s deep i) (fun i a hi ha => ?_) (fun a ha => ?_) (hS ▸ keepA_ent 52 _ _ _ _ st)
  · refine ⟨fun _ => ⟨⟨⟨by omega, by omega⟩, trivial⟩, fun hx => .inr ⟨rfl, ?_, Dyn.Fits.refl _⟩, fun hx => .inl ⟨rfl, ?_, ?_⟩⟩, fun hf => ?_⟩
    · unfold smL; rw [hx]; rfl
    · unfold smL; rw [hx]; rfl
    · rw [Wn1 hi (by omega)]; exact Dyn.Fits.refl _
    · rw [decide_eq_false_iff_not] at hf; omega
  · refine ⟨fun ht => ?_, fun _ => ⟨rfl, Dyn.Fits.refl _⟩⟩
    rw [decide_eq_true_eq] at ht; omega
theorem sm_loop2 {Pd : Sh → Prop} {g : Sh → Int → Bool} (ih : ∀ x, Pd x → SmOk x g) (k : Int) (a b c : P2) (r : Int) (l : Ctr) (n : Nat) (add : Nat → Bool) (sh : Nat → Sh) (hP : ∀ i, i < n → Pd (sh i)) (deep : Int) (w0 : Dyn.Base Try.prog) (st : Dyn.St) (o : Dyn.Out) (h : smLp g sh (mkSh k a b c r l n add sh) deep 2 st = some o) : Dyn.BlockSound Try.prog w0 2 (.loop (unloopD (blkD Try.f14.body 2))) st o := by
  simp only [smLp, Option.some.injEq] at h
  subst h
  refine side_two fun hS hn => ?_
  have hn' : n ≤ 12 := hn
  refine run_block (fuel := 3) (tabSn_ok ih) mo (lp := smLp g sh (mkSh k a b c r l n add sh) deep) (by rw [sm_b2]; exact lpOk_cons (fun s o h => by cases h) lpOk_nil) (fun i (_ : Unit) => smT (mkSh k a b c r l n add sh) deep i) n (smP g sh deep) () (fun _ => smR) (keepR 52 [0, 1] [] smK1 [4]) (keepR_ent 52 _ _ _ _) (fun i _ => smB2 Pd g sh (mkSh k a b c r l n add sh) deep i) (fun i _ => sm_B2 Pd g k a b c r l n add sh deep i) (fun i a hi ha => ?_) (fun a ha => ?_) (hS ▸ keepA_ent 52 _ _ _ _ st)
  · refine ⟨fun _ => ⟨⟨⟨by omega, by show (i : Int) < (n : Int); omega⟩, hP i hi, ctrSelf_ok _, trivial⟩, fun hx => .inr ⟨rfl, ?_, Dyn.Fits.refl _⟩, fun hx => .inl ⟨rfl, ?_, ?_⟩⟩, fun hf => ?_⟩
    · simpa [smP] using hx
    · simpa [smP] using hx
    · rw [Wn1 hi (by omega)]; exact Dyn.Fits.refl _
    · rw [decide_eq_false_iff_not] at hf
      exact absurd (show (i : Int) < (n : Int) by omega) hf
  · refine ⟨fun ht => ?_, fun _ => ⟨rfl, Dyn.Fits.refl _⟩⟩
    rw [decide_eq_true_eq] at ht
    exact absurd (show (n : Int) < (n : Int) from ht) (by omega)
def smBig (s : Sh) (deep : Int) : Bool := bif bif decide ((s.n : Int) > 12) then true else decide ((s.l.n : Int) > 12) then true else decide (deep > 12)
def tabS0 (Pd : Sh → Prop) (g : Sh → Int → Bool) : Dyn.Tabs := Dyn.tabs tbF (tdSm Pd g) noD noD
theorem tabS0_ok {Pd : Sh → Prop} {g : Sh → Int → Bool} (ih : ∀ x, Pd x → SmOk x g) : Dyn.TabsOk Try.prog (tabS0 Pd g) :=
  Dyn.tabs_ok tbF_ok (List.forall_mem_cons.2 ⟨en2D_ok (qAnd_ok qS_ok) qI_ok fun x p h _ => ih x h.1 p, fun _ h => by cases h⟩)
def smO (g : Sh → Int → Bool) (sh : Nat → Sh) (s : Sh) (deep : Int) : Dyn.RO :=
  .ite (smBig s deep) (.leaf (rB false)) (.side [smS s deep 0 = smS s deep 0, s.l.n ≤ 12] (.ite (runN (smL s.l) () s.l.n).1 (.side [smT s deep 0 = smT s deep 0, s.n ≤ 12] (.ite (runN (smP g sh deep) () s.n).1 (.leaf (rB true)) (.leaf (rB false)))) (.leaf (rB false))))
theorem sm_O (Pd : Sh → Prop) (g : Sh → Int → Bool) (sh : Nat → Sh) (s : Sh) (deep : Int) : (Dyn.dfun Try.prog (tabS0 Pd g) (smLp g sh s deep) 3 Try.f14 [dvS s, dvI deep]).ro Try.prog Try.f14.results = smO g sh s deep := by kernel_rfl
theorem sm_sat (g : Sh → Int → Bool) (sh : Nat → Sh) (s : Sh) (deep : Int) : (smO g sh s deep).sat fun r => Dyn.RVLe r (rB (smallG g sh s deep)) := by
  have e : smallG g sh s deep = bif smBig s deep then false else bif (runN (smL s.l) () s.l.n).1 then (runN (smP g sh deep) () s.n).1 else false := rfl
  rw [e]
  have hb : smBig s deep = false → s.l.n ≤ 12 ∧ s.n ≤ 12 := fun h => by
    unfold smBig at h
    by_cases h1 : ((s.n : Int) > 12)
    · rw [decide_eq_true h1] at h; cases h
    · by_cases h2 : ((s.l.n : Int) > 12)
      · rw [decide_eq_true h2, decide_eq_false h1] at h; cases h
      · omega
  refine ⟨fun h => ?_, fun h => ⟨⟨rfl, (hb h).1, trivial⟩, fun h2 => ⟨⟨rfl, (hb h).2, trivial⟩, fun h3 => ?_, fun h3 => ?_⟩, fun h2 => ?_⟩⟩
  · rw [h]; exact ro_leaf rfl
  · rw [h, h2, h3]; exact ro_leaf rfl
  · rw [h, h2, h3]; exact ro_leaf rfl
  · rw [h, h2]; exact ro_leaf rfl
theorem small_lvl {Pd : Sh → Prop} {g : Sh → Int → Bool} (ih : ∀ x, Pd x → SmOk x g) (k : Int) (a b c : P2) (r : Int) (l : Ctr) (n : Nat) (add : Nat → Bool) (sh : Nat → Sh) (hP : ∀ i, i < n → Pd (sh i)) (deep : Int) :
    Dyn.CallD Try.prog 14 [dvS (mkSh k a b c r l n add sh), dvI deep] (rB (smallG g sh (mkSh k a b c r l n add sh) deep)) :=
  Dyn.dcontract (lp := smLp g sh (mkSh k a b c r l n add sh) deep) (fuel := 3) (tabS0_ok ih) mo Try.func14 (by kernel_rfl) (c := bodyD Try.f14.body) (by kernel_rfl)
    (fun w0 => by rw [sm_blocks]; exact lpOk_cons (sm_loop0 ih sh _ deep w0) (lpOk_cons (fun s o h => by cases h) (lpOk_cons (sm_loop2 ih k a b c r l n add sh hP deep w0) (lpOk_cons (fun s o h => by cases h) lpOk_nil))))
    (by kernel_rfl) (sm_O Pd g sh _ deep) (sm_sat g sh _ deep)
def smallF : Shp → Int → Bool
  | .nil, _ => false
  | .mk _ _ _ _ _ l n _ sub, deep =>
    bif bif bif decide ((n : Int) > 12) then true else decide ((l.n : Int) > 12) then true else decide (deep > 12) then false else
    bif (runN (smL l) () l.n).1 then (runN (fun i (_ : Unit) => (smallF (sub i) (W (deep + 1)), ())) () n).1 else false
noncomputable def smallE (x : Sh) (d : Int) : Bool := smallF (ofSh x) d
theorem smallE_eq (s : Shp) (d : Int) : smallE (toSh s) d = smallF s d := by unfold smallE; rw [ofSh_toSh]
theorem smallF_lvl (k : Int) (a b c : P2) (r : Int) (l : Ctr) (n : Nat) (add : Nat → Bool) (sub : Nat → Shp) (d : Int) : smallF (.mk k a b c r l n add sub) d = smallG smallE (fun i => toSh (sub i)) (toSh (.mk k a b c r l n add sub)) d := by
  unfold smallG smP
  simp only [smallE_eq]
  rfl
def PdW (x : Sh) : Prop := ShW (ofSh x) ∧ SLe x (toSh (ofSh x))
theorem PdW_mk {s : Shp} (h : ShW s) : PdW (toSh s) := by unfold PdW; rw [ofSh_toSh]; exact ⟨h, SLe.refl _⟩
theorem small_ok : ∀ s : Shp, ShW s → SmOk (toSh s) smallE := by
  intro s
  induction s with
  | nil => intro h; exact h.elim
  | mk k a b c r l n add sub ih =>
    intro h d
    rw [smallE_eq, smallF_lvl]
    exact small_lvl (Pd := fun x => ∃ i, i < n ∧ x = toSh (sub i)) (fun x hx => by
      obtain ⟨i, hi, rfl⟩ := hx
      exact ih i (h i hi)) k a b c r l n add (fun i => toSh (sub i)) (fun i hi => ⟨i, hi, rfl⟩) d
theorem small_all : ∀ x, PdW x → SmOk x smallE := fun x hx d => by
  have k := small_ok _ hx.1 d
  rw [show smallE (toSh (ofSh x)) d = smallE x d by unfold smallE; rw [ofSh_toSh]] at k
  exact CallD_le (args := dvS (toSh (ofSh x)) :: [dvI d]) ⟨SLe.dv hx.2, Dyn.DVLe.refl _, trivial⟩ k
/-- what is small is short -/
theorem runN_all {α : Type} {g : Nat → α → Bool × α} {a : α} : ∀ {n : Nat}, (runN g a n).1 = true → ∀ k, k < n → ∃ b, runN g a k = (true, b) ∧ (g k b).1 = true
  | 0, _ => fun k hk => by omega
  | n + 1, h => fun k hk => by
    have hn : (runN g a n).1 = true := by
      cases hr : runN g a n with
      | mk q b => cases q with
        | true => rfl
        | false => rw [runN_stop hr (Nat.le_succ n)] at h; cases h
    rcases Nat.lt_or_eq_of_le (Nat.le_of_lt_succ hk) with hlt | rfl
    · exact runN_all hn k hlt
    · cases hr : runN g a k with
      | mk q b =>
        rw [hr] at hn
        simp only at hn; subst hn
        exact ⟨b, rfl, by rw [runN_go hr] at h; exact h⟩
theorem small_B : ∀ (s : Shp) (d : Int), smallF s d = true → ShB s := by
  intro s
  induction s with
  | nil => intro d h; cases h
  | mk k a b c r l n add sub ih =>
    intro d h
    unfold smallF at h
    by_cases h1 : ((n : Int) > 12)
    · rw [decide_eq_true h1] at h; cases h
    · by_cases h2 : ((l.n : Int) > 12)
      · rw [decide_eq_true h2, decide_eq_false h1] at h; cases h
      · by_cases h3 : (d > 12)
        · rw [decide_eq_true h3, decide_eq_false h1, decide_eq_false h2] at h; cases h
        · rw [decide_eq_false h1, decide_eq_false h2, decide_eq_false h3] at h
          simp only [cond_false] at h
          cases hl : (runN (smL l) () l.n).1 with
          | false => rw [hl] at h; cases h
          | true =>
            rw [hl] at h
            simp only [cond_true] at h
            refine ⟨⟨by omega, fun i hi => ?_⟩, by omega, fun i hi => ?_⟩
            · obtain ⟨_, _, hx⟩ := runN_all hl i hi
              unfold smL at hx
              simp only [Bool.not_eq_true', decide_eq_false_iff_not] at hx
              omega
            · obtain ⟨_, _, hx⟩ := runN_all h i hi
              exact ih i _ hx
end Go.Proofs.Ytfooaikpcbnchaa

/-! ## Wid -/
namespace Go.Proofs.Ytfooaikpcbnchaa
open Go Go.RowKit

theorem sh32_eq (x : Int) : sh32 x = x / 4294967296 := by
  unfold sh32
  have : (2 : Int) ^ min (Int.toNat 32) 64 = 4294967296 := by decide
  rw [this, Int.fdiv_eq_ediv_of_nonneg _ (by decide)]
theorem lo32_eq {x : Int} (h0 : 0 ≤ x) (h1 : x < 18446744073709551616) : lo32 x = x % 4294967296 := by
  have e : (BitVec.ofInt 64 x &&& BitVec.ofInt 64 4294967295).toNat = x.toNat % 4294967296 := by
    rw [BitVec.toNat_and]
    have a : (BitVec.ofInt 64 4294967295).toNat = 2 ^ 32 - 1 := by decide
    have b : (BitVec.ofInt 64 x).toNat = x.toNat := by
      rw [BitVec.toNat_ofInt]
      have : ((2 ^ 64 : Nat) : Int) = 18446744073709551616 := by decide
      rw [this, Int.emod_eq_of_lt h0 h1]
    rw [a, b, Nat.and_two_pow_sub_one_eq_mod]
  unfold lo32 u64
  rw [e, U_id (by omega) (by omega)]
  omega
theorem halves_mul (x y : Int) : x * y = (x / 4294967296 * (y / 4294967296)) * 18446744073709551616 + (x / 4294967296 * (y % 4294967296) + x % 4294967296 * (y / 4294967296)) * 4294967296 + x % 4294967296 * (y % 4294967296) := by
  have a := Int.emod_add_mul_ediv x 4294967296
  have b := Int.emod_add_mul_ediv y 4294967296
  generalize x / 4294967296 = p at *
  generalize y / 4294967296 = q at *
  generalize x % 4294967296 = s at *
  generalize y % 4294967296 = t at *
  subst a b
  grind
theorem half_bd {x y : Int} (h0 : 0 ≤ x) (h1 : x ≤ 4294967295) (h2 : 0 ≤ y) (h3 : y ≤ 4294967295) : 0 ≤ x * y ∧ x * y ≤ 18446744065119617025 := by
  have a := Int.mul_nonneg h0 h2
  have b := (mul_bd (A := 4294967295) (B := 4294967295) (x := x) (y := y) (by omega) h1 (by omega) h3).2
  have e : (4294967295 : Int) * 4294967295 = 18446744065119617025 := by decide
  omega
structure In64 (x : Int) : Prop where
  lo : 0 ≤ x
  hi : x < 18446744073709551616
theorem mulHi_eq {x y : Int} (hx : In64 x) (hy : In64 y) : mulHi x y = x * y / 18446744073709551616 := by
  obtain ⟨x0, x1⟩ := hx; obtain ⟨y0, y1⟩ := hy
  unfold mulHi
  rw [lo32_eq x0 x1, lo32_eq y0 y1, sh32_eq x, sh32_eq y]
  have e := halves_mul x y
  have a := half_bd (x := x % 4294967296) (y := y % 4294967296) (by omega) (by omega) (by omega) (by omega)
  have b := half_bd (x := x / 4294967296) (y := y % 4294967296) (by omega) (by omega) (by omega) (by omega)
  have c := half_bd (x := x % 4294967296) (y := y / 4294967296) (by omega) (by omega) (by omega) (by omega)
  have d := half_bd (x := x / 4294967296) (y := y / 4294967296) (by omega) (by omega) (by omega) (by omega)
  rw [e]
  generalize x % 4294967296 * (y % 4294967296) = A at *
  generalize x / 4294967296 * (y % 4294967296) = B at *
  generalize x % 4294967296 * (y / 4294967296) = C at *
  generalize x / 4294967296 * (y / 4294967296) = D at *
  dsimp only
  rw [U_id (x := A) (by omega) (by omega), U_id (x := B) (by omega) (by omega), U_id (x := C) (by omega) (by omega), U_id (x := D) (by omega) (by omega), sh32_eq A]
  rw [U_id (x := B + A / 4294967296) (by omega) (by omega)]
  rw [lo32_eq (x := B + A / 4294967296) (by omega) (by omega), sh32_eq (B + A / 4294967296)]
  rw [U_id (x := (B + A / 4294967296) % 4294967296 + C) (by omega) (by omega), sh32_eq ((B + A / 4294967296) % 4294967296 + C)]
  rw [U_id (x := D + (B + A / 4294967296) / 4294967296) (by omega) (by omega), U_id (by omega) (by omega)]
  omega
theorem wmul_eq {x y : Int} (hx : In64 x) (hy : In64 y) : wmul x y = ⟨x * y / 18446744073709551616, x * y % 18446744073709551616⟩ := by
  unfold wmul mulLo
  rw [mulHi_eq hx hy, U_eq]
theorem rMul_eq {x y : Int} (hx : In64 x) (hy : In64 y) : rMul x y = ⟨x * y / 18446744073709551616, x * y % 18446744073709551616⟩ := by
  obtain ⟨x0, x1⟩ := hx; obtain ⟨y0, y1⟩ := hy
  unfold rMul
  rw [lo32_eq x0 x1, lo32_eq y0 y1, sh32_eq x, sh32_eq y]
  have e := halves_mul x y
  have a := half_bd (x := x % 4294967296) (y := y % 4294967296) (by omega) (by omega) (by omega) (by omega)
  have b := half_bd (x := x / 4294967296) (y := y % 4294967296) (by omega) (by omega) (by omega) (by omega)
  have c := half_bd (x := x % 4294967296) (y := y / 4294967296) (by omega) (by omega) (by omega) (by omega)
  have d := half_bd (x := x / 4294967296) (y := y / 4294967296) (by omega) (by omega) (by omega) (by omega)
  rw [e]
  dsimp only
  generalize x % 4294967296 * (y % 4294967296) = A at *
  generalize x / 4294967296 * (y % 4294967296) = B at *
  generalize x % 4294967296 * (y / 4294967296) = C at *
  generalize x / 4294967296 * (y / 4294967296) = D at *
  rw [U_id (x := A) (by omega) (by omega), U_id (x := B) (by omega) (by omega), U_id (x := C) (by omega) (by omega), U_id (x := D) (by omega) (by omega), sh32_eq A, sh32_eq B, sh32_eq C,
    lo32_eq (x := A) (by omega) (by omega), lo32_eq (x := B) (by omega) (by omega), lo32_eq (x := C) (by omega) (by omega)]
  rw [U_id (x := A / 4294967296 + B % 4294967296) (by omega) (by omega)]
  rw [U_id (x := A / 4294967296 + B % 4294967296 + C % 4294967296) (by omega) (by omega)]
  generalize hm : A / 4294967296 + B % 4294967296 + C % 4294967296 = m
  rw [U_id (x := D + B / 4294967296) (by omega) (by omega), U_id (x := D + B / 4294967296 + C / 4294967296) (by omega) (by omega), sh32_eq m, U_id (by omega) (by omega)]
  have p : (2 : Int) ^ min (Int.toNat 32) 64 = 4294967296 := by decide
  rw [p, U_eq (m * 4294967296)]
  have q : m * 4294967296 % 18446744073709551616 = m % 4294967296 * 4294967296 := by omega
  rw [q]
  have o : (BitVec.ofInt 64 (m % 4294967296 * 4294967296) ||| BitVec.ofInt 64 (A % 4294967296)).toNat = 2 ^ 32 * (m % 4294967296).toNat + (A % 4294967296).toNat := by
    rw [BitVec.toNat_or, BitVec.toNat_ofInt, BitVec.toNat_ofInt]
    have : ((2 ^ 64 : Nat) : Int) = 18446744073709551616 := by decide
    rw [this, Int.emod_eq_of_lt (a := m % 4294967296 * 4294967296) (by omega) (by omega), Int.emod_eq_of_lt (a := A % 4294967296) (by omega) (by omega)]
    rw [Nat.two_pow_add_eq_or_of_lt (show (A % 4294967296).toNat < 2 ^ 32 by omega)]
    congr 1
    omega
  unfold u64
  rw [o]
  have g1 : ((2 ^ 32 * (m % 4294967296).toNat + (A % 4294967296).toNat : Nat) : Int) = m % 4294967296 * 4294967296 + A % 4294967296 := by omega
  rw [g1, U_id (by omega) (by omega)]
  have g2 : D + B / 4294967296 + C / 4294967296 + m / 4294967296 = (D * 18446744073709551616 + (B + C) * 4294967296 + A) / 18446744073709551616 := by omega
  have g3 : m % 4294967296 * 4294967296 + A % 4294967296 = (D * 18446744073709551616 + (B + C) * 4294967296 + A) % 18446744073709551616 := by omega
  rw [g2, g3]
theorem wabs_eq {v : Int} (h0 : -9223372036854775808 ≤ v) (h1 : v ≤ 9223372036854775807) : wabs v = (v.natAbs : Int) := by
  unfold wabs
  by_cases h : v < 0
  · rw [decide_eq_true h, bif_t, U_eq, U_eq]; omega
  · rw [decide_eq_false h, bif_f, U_eq]; omega
theorem rAbs_eq {v : Int} (h0 : -9223372036854775808 ≤ v) (h1 : v ≤ 9223372036854775807) : rAbs v = (v.natAbs : Int) := by
  unfold rAbs
  by_cases h : v < 0
  · rw [decide_eq_true h, bif_t, W_id (x := v + 1) (by omega) (by omega), W_id (by omega) (by omega), U_eq, U_eq]; omega
  · rw [decide_eq_false h, bif_f, U_eq]; omega
theorem ucmp_eq (x y : Int) : ucmp x y = if x < y then -1 else if x > y then 1 else 0 := by
  unfold ucmp
  simp only [bne_self_eq_false, bif_f]
  by_cases h : x < y
  · rw [decide_eq_true h, bif_t, if_pos h]
  · rw [decide_eq_false h, bif_f, if_neg h]
    by_cases h' : x > y
    · rw [decide_eq_true h', bif_t, if_pos h']
    · rw [decide_eq_false h', bif_f, if_neg h']
theorem wcmp_le (m n : Int) : wcmp ⟨m / 18446744073709551616, m % 18446744073709551616⟩ ⟨n / 18446744073709551616, n % 18446744073709551616⟩ ≤ 0 ↔ m ≤ n := by
  unfold wcmp
  dsimp only
  by_cases h : m / 18446744073709551616 = n / 18446744073709551616
  · have : (m / 18446744073709551616 != n / 18446744073709551616) = false := by simp [h]
    rw [this, bif_f, ucmp_eq]
    split
    · omega
    · split <;> omega
  · have : (m / 18446744073709551616 != n / 18446744073709551616) = true := by simp [h]
    rw [this, bif_t, ucmp_eq]
    split
    · omega
    · split <;> omega
theorem rCmp_le (m n : Int) : rCmp ⟨m / 18446744073709551616, m % 18446744073709551616⟩ ⟨n / 18446744073709551616, n % 18446744073709551616⟩ ≤ 0 ↔ m ≤ n := by
  unfold rCmp wEq
  dsimp only
  simp only [orB_eq, andB_eq]
  by_cases h : m / 18446744073709551616 = n / 18446744073709551616
  · have e1 : (m / 18446744073709551616 == n / 18446744073709551616) = true := by simp [h]
    have e2 : decide (m / 18446744073709551616 < n / 18446744073709551616) = false := by simp [h]
    rw [e1, e2]
    by_cases h' : m % 18446744073709551616 = n % 18446744073709551616
    · have e3 : (m % 18446744073709551616 == n % 18446744073709551616) = true := by simp [h']
      rw [e3]; simp only [bif_t]; omega
    · have e3 : (m % 18446744073709551616 == n % 18446744073709551616) = false := by simp [h']
      rw [e3]
      by_cases k : m % 18446744073709551616 < n % 18446744073709551616
      · rw [decide_eq_true k]; simp only [bif_t, bif_f, Bool.true_and, Bool.false_or]; omega
      · rw [decide_eq_false k]; simp only [bif_t, bif_f, Bool.and_false, Bool.false_or]; omega
  · have e1 : (m / 18446744073709551616 == n / 18446744073709551616) = false := by simp [h]
    rw [e1]
    by_cases k : m / 18446744073709551616 < n / 18446744073709551616
    · rw [decide_eq_true k]; simp only [bif_t, bif_f, Bool.true_or]; omega
    · rw [decide_eq_false k]; simp only [bif_f, Bool.false_and, Bool.false_or]; omega
theorem natAbs_sq (v : Int) : (v.natAbs : Int) * (v.natAbs : Int) = v * v := by
  rcases Int.natAbs_eq v with h | h <;> grind
theorem wle {k x y : Int} (h0 : -9223372036854775808 ≤ k) (h1 : k ≤ 9223372036854775807) (hx : In64 x) (hy : In64 y) : decide (wcmp (wsq k) (wmul x y) ≤ 0) = decide (k * k ≤ x * y) := by
  unfold wsq
  rw [wabs_eq h0 h1, wmul_eq ⟨by omega, by omega⟩ ⟨by omega, by omega⟩, wmul_eq hx hy, natAbs_sq]
  exact decide_eq_decide.2 (wcmp_le _ _)
theorem rle {k x y : Int} (h0 : -9223372036854775808 ≤ k) (h1 : k ≤ 9223372036854775807) (hx : In64 x) (hy : In64 y) : decide (rCmp (rSq k) (rMul x y) ≤ 0) = decide (k * k ≤ x * y) := by
  unfold rSq
  rw [rAbs_eq h0 h1, rMul_eq ⟨by omega, by omega⟩ ⟨by omega, by omega⟩, rMul_eq hx hy, natAbs_sq]
  exact decide_eq_decide.2 (rCmp_le _ _)

/-! ### the planar products -/
theorem sum2s {x y z w : Int} (h1 : -2147483646 ≤ x) (h2 : x ≤ 2147483646) (h3 : -2147483646 ≤ y) (h4 : y ≤ 2147483646) (h5 : -2147483646 ≤ z) (h6 : z ≤ 2147483646) (h7 : -2147483646 ≤ w) (h8 : w ≤ 2147483646) :
    W (W (x * y) + W (z * w)) = x * y + z * w ∧ W (W (x * y) - W (z * w)) = x * y - z * w ∧ -9223372019674906632 ≤ x * y + z * w ∧ x * y + z * w ≤ 9223372019674906632 ∧ -9223372019674906632 ≤ x * y - z * w ∧ x * y - z * w ≤ 9223372019674906632 := by
  have a := mul_bd (A := 2147483646) (B := 2147483646) h1 h2 h3 h4
  have b := mul_bd (A := 2147483646) (B := 2147483646) h5 h6 h7 h8
  have e : (2147483646 : Int) * 2147483646 = 4611686009837453316 := by decide
  rw [e] at a b
  rw [W_id (x := x * y) (by omega) (by omega), W_id (x := z * w) (by omega) (by omega), W_id (x := x * y + z * w) (by omega) (by omega), W_id (x := x * y - z * w) (by omega) (by omega)]
  omega
theorem df {u v : Int} (h1 : In30 u) (h2 : In30 v) : W (u - v) = u - v ∧ -2147483646 ≤ u - v ∧ u - v ≤ 2147483646 := by
  obtain ⟨a, b⟩ := h1; obtain ⟨c, d⟩ := h2
  rw [W_id (by omega) (by omega)]; omega
theorem cross_eq {o a b : P2} (ho : PR o) (ha : PR a) (hb : PR b) : cross o a b = crossI o a b ∧ -9223372019674906632 ≤ crossI o a b ∧ crossI o a b ≤ 9223372019674906632 := by
  have p := df ha.x ho.x; have q := df hb.y ho.y; have s := df ha.y ho.y; have t := df hb.x ho.x
  unfold cross crossI
  rw [p.1, q.1, s.1, t.1]
  have e := sum2s p.2.1 p.2.2 q.2.1 q.2.2 s.2.1 s.2.2 t.2.1 t.2.2
  exact ⟨e.2.1, e.2.2.2.2⟩
theorem rDot_eq {o a b : P2} (ho : PR o) (ha : PR a) (hb : PR b) : rDot o a b = dotI o a b ∧ -9223372019674906632 ≤ dotI o a b ∧ dotI o a b ≤ 9223372019674906632 := by
  have p := df ha.x ho.x; have q := df hb.y ho.y; have s := df ha.y ho.y; have t := df hb.x ho.x
  unfold rDot dotI
  rw [p.1, q.1, s.1, t.1]
  have e := sum2s p.2.1 p.2.2 t.2.1 t.2.2 s.2.1 s.2.2 q.2.1 q.2.2
  exact ⟨e.1, e.2.2.1, e.2.2.2.1⟩
theorem rDist_eq2 {p q : P2} (hp : PR p) (hq : PR q) : rDist p q = distI p q ∧ 0 ≤ distI p q ∧ distI p q ≤ 9223372019674906632 := by
  have a := df hp.x hq.x; have b := df hp.y hq.y
  unfold rDist distI
  rw [a.1, b.1]
  have e := sum2s a.2.1 a.2.2 a.2.1 a.2.2 b.2.1 b.2.2 b.2.1 b.2.2
  have h1 := sq_nn (p.x - q.x); have h2 := sq_nn (p.y - q.y)
  exact ⟨e.1, by omega, e.2.2.2.1⟩
theorem dist2_eq {a c : P2} (ha : PR a) (hc : PR c) : dist2 (W (c.x - a.x)) (W (c.y - a.y)) = distI a c := by
  have p := df hc.x ha.x; have q := df hc.y ha.y
  unfold dist2 distI
  rw [p.1, q.1, (sum2s p.2.1 p.2.2 p.2.1 p.2.2 q.2.1 q.2.2 q.2.1 q.2.2).1]
  grind
theorem along_eq {p a c : P2} (hp : PR p) (ha : PR a) (hc : PR c) : W (W (W (p.x - a.x) * W (c.x - a.x)) + W (W (p.y - a.y) * W (c.y - a.y))) = dotI a c p := by
  have s := df hc.x ha.x; have q := df hc.y ha.y; have u := df hp.x ha.x; have v := df hp.y ha.y
  rw [s.1, q.1, u.1, v.1, (sum2s u.2.1 u.2.2 s.2.1 s.2.2 v.2.1 v.2.2 q.2.1 q.2.2).1]
  unfold dotI; grind
theorem rsq {r : Int} (h1 : 0 ≤ r) (h2 : r ≤ 2147483648) : W (r * r) = r * r ∧ 0 ≤ r * r ∧ r * r ≤ 4611686018427387904 := by
  have a := sq_bd (A := 2147483648) (x := r) (by omega) h2
  have e : (2147483648 : Int) * 2147483648 = 4611686018427387904 := by decide
  rw [W_id (by omega) (by omega)]; omega
theorem U64 {x : Int} (h1 : 0 ≤ x) (h2 : x ≤ 9223372036854775807) : U x = x ∧ In64 (U x) := by
  have : U x = x := U_id h1 (by omega)
  rw [this]; exact ⟨rfl, by omega, by omega⟩
/-- the line through a and c passes within r of p -/
def clear (p a c : P2) (r : Int) : Bool := decide (crossI a c p * crossI a c p ≤ r * r * distI a c)
theorem clear_eq {p a c : P2} {r : Int} (hp : PR p) (ha : PR a) (hc : PR c) (h1 : 0 ≤ r) (h2 : r ≤ 2147483648) :
    decide (wcmp (wsq (cross a c p)) (wmul (U (square r)) (U (dist2 (W (c.x - a.x)) (W (c.y - a.y))))) ≤ 0) = clear p a c r := by
  have k := cross_eq ha hc hp
  have d := rDist_eq2 ha hc
  have s := rsq h1 h2
  rw [k.1, dist2_eq ha hc, square_eq h1 h2]
  rw [wle (by omega) (by omega) (U64 (x := r * r) (by omega) (by omega)).2 (U64 (x := distI a c) (by omega) (by omega)).2, (U64 (x := r * r) (by omega) (by omega)).1, (U64 (x := distI a c) (by omega) (by omega)).1]
  rfl
theorem rWithin_eq {p a c : P2} {r : Int} (hp : PR p) (ha : PR a) (hc : PR c) (h1 : 0 ≤ r) (h2 : r ≤ 2147483648) :
    rWithin (cross a c p) r (rDist a c) = clear p a c r := by
  have k := cross_eq ha hc hp
  have d := rDist_eq2 ha hc
  have s := rsq h1 h2
  unfold rWithin
  rw [k.1, d.1, s.1]
  rw [rle (by omega) (by omega) (U64 (x := r * r) (by omega) (by omega)).2 (U64 (x := distI a c) (by omega) (by omega)).2, (U64 (x := r * r) (by omega) (by omega)).1, (U64 (x := distI a c) (by omega) (by omega)).1]
  rfl
end Go.Proofs.Ytfooaikpcbnchaa

/-! ## Bar -/
namespace Go.Proofs.Ytfooaikpcbnchaa
open Go Go.RowKit
set_option maxRecDepth 100000

def all4 (f : P2 → Bool) (b : B4) : Bool := f ⟨b.x0, b.y0⟩ && f ⟨b.x1, b.y0⟩ && f ⟨b.x0, b.y1⟩ && f ⟨b.x1, b.y1⟩
theorem up_sum (c : Bool) {n : Int} (h1 : -100 ≤ n) (h2 : n ≤ 100) : up c n = n + (if c then 1 else 0) := by
  cases c
  · simp [up]
  · simp only [up, bif_t, if_true]; rw [W_id (by omega) (by omega)]
theorem cnt4_sum (f : P2 → Bool) (b : B4) : cnt4 f b = (if f ⟨b.x0, b.y0⟩ then 1 else 0) + (if f ⟨b.x1, b.y0⟩ then 1 else 0) + (if f ⟨b.x0, b.y1⟩ then 1 else 0) + (if f ⟨b.x1, b.y1⟩ then 1 else 0) := by
  unfold cnt4
  cases f ⟨b.x0, b.y0⟩ <;> cases f ⟨b.x1, b.y0⟩ <;> cases f ⟨b.x0, b.y1⟩ <;> cases f ⟨b.x1, b.y1⟩ <;> decide
theorem cnt4_all (f : P2 → Bool) (b : B4) : (cnt4 f b == 4) = all4 f b := by
  rw [cnt4_sum]; unfold all4
  cases f ⟨b.x0, b.y0⟩ <;> cases f ⟨b.x1, b.y0⟩ <;> cases f ⟨b.x0, b.y1⟩ <;> cases f ⟨b.x1, b.y1⟩ <;> rfl
theorem bumps (i j k l : Int) (hi : i = -1 ∨ i = 0 ∨ i = 1) (hj : j = -1 ∨ j = 0 ∨ j = 1) (hk : k = -1 ∨ k = 0 ∨ k = 1) (hl : l = -1 ∨ l = 0 ∨ l = 1) :
    ((bump3 (W (l + 1)) (bump3 (W (k + 1)) (bump3 (W (j + 1)) (bump3 (W (i + 1)) ⟨0, 0, 0⟩)))).m == 4) = (i == -1 && j == -1 && k == -1 && l == -1)
    ∧ ((bump3 (W (l + 1)) (bump3 (W (k + 1)) (bump3 (W (j + 1)) (bump3 (W (i + 1)) ⟨0, 0, 0⟩)))).p == 4) = (i == 1 && j == 1 && k == 1 && l == 1) := by
  rcases hi with rfl | rfl | rfl <;> rcases hj with rfl | rfl | rfl <;> rcases hk with rfl | rfl | rfl <;> rcases hl with rfl | rfl | rfl <;> decide
theorem cnt3_all (f : P2 → Int) (b : B4) (h : ∀ q, f q = -1 ∨ f q = 0 ∨ f q = 1) : ((cnt3 f b).m == 4) = all4 (fun q => f q == -1) b ∧ ((cnt3 f b).p == 4) = all4 (fun q => f q == 1) b := by
  unfold cnt3 all4
  exact bumps _ _ _ _ (h _) (h _) (h _) (h _)
structure Cs (b : B4) (f g : P2 → Bool) : Prop where
  h : all4 f b = all4 g b
theorem all4_congr {f g : P2 → Bool} {b : B4} (hb : BR b) (h : ∀ q, PR q → f q = g q) : all4 f b = all4 g b := by
  unfold all4
  rw [h _ ⟨hb.x0, hb.y0⟩, h _ ⟨hb.x1, hb.y0⟩, h _ ⟨hb.x0, hb.y1⟩, h _ ⟨hb.x1, hb.y1⟩]
theorem all4_mono {f g : P2 → Bool} {b : B4} (hb : BR b) (h : ∀ q, PR q → f q = true → g q = true) (ha : all4 f b = true) : all4 g b = true := by
  unfold all4 at *
  simp only [Bool.and_eq_true] at *
  exact ⟨⟨⟨h _ ⟨hb.x0, hb.y0⟩ ha.1.1.1, h _ ⟨hb.x1, hb.y0⟩ ha.1.1.2⟩, h _ ⟨hb.x0, hb.y1⟩ ha.1.2⟩, h _ ⟨hb.x1, hb.y1⟩ ha.2⟩

/-! ### bars -/
def same (a c : P2) : Prop := a.x = c.x ∧ a.y = c.y
instance (a c : P2) : Decidable (same a c) := inferInstanceAs (Decidable (_ ∧ _))
theorem ptEq_eq (a c : P2) : ptEq a c = decide (same a c) := by
  unfold ptEq same
  by_cases h : a.x = c.x
  · by_cases k : a.y = c.y
    · simp [h, k]
    · simp [h, k]
  · simp [h]
theorem dist_pos (a c : P2) : distI a c = 0 ↔ same a c := by
  unfold distI same
  constructor
  · intro h
    have h1 := sq_nn (a.x - c.x); have h2 := sq_nn (a.y - c.y)
    have e1 : (a.x - c.x) * (a.x - c.x) = 0 := by omega
    have e2 : (a.y - c.y) * (a.y - c.y) = 0 := by omega
    have := Int.mul_eq_zero.1 e1; have := Int.mul_eq_zero.1 e2
    omega
  · rintro ⟨h, k⟩; rw [h, k]; simp
theorem dist_nn (a c : P2) : 0 ≤ distI a c := by
  unfold distI
  have h1 := sq_nn (a.x - c.x); have h2 := sq_nn (a.y - c.y); omega
theorem beside_eq {p a c : P2} {h : Int} (hp : PR p) (ha : PR a) (hc : PR c) (h1 : 0 ≤ h) (h2 : h ≤ 2147483648) :
    beside p a c h = if clear p a c h = true then 0 else if crossI a c p > 0 then 1 else -1 := by
  unfold beside
  dsimp only
  rw [clear_eq hp ha hc h1 h2, (cross_eq ha hc hp).1]
  cases clear p a c h
  · by_cases k : crossI a c p > 0
    · simp [k]
    · simp [k]
  · simp
theorem past_eq {p a c : P2} (hp : PR p) (ha : PR a) (hc : PR c) : past p a c = if dotI a c p < 0 then -1 else if dotI a c p > distI a c then 1 else 0 := by
  unfold past
  dsimp only
  rw [along_eq hp ha hc, dist2_eq ha hc]
  by_cases k : dotI a c p < 0
  · simp [k]
  · by_cases k' : dotI a c p > distI a c
    · simp [k, k']
    · simp [k, k']
def barI (p a c : P2) (h : Int) : Bool := !(decide (same a c)) && decide (1 ≤ h) && clear p a c h && decide (0 ≤ dotI a c p) && decide (dotI a c p ≤ distI a c)
theorem barHas_eq {p a c : P2} {h : Int} (hp : PR p) (ha : PR a) (hc : PR c) (h2 : h ≤ 2147483648) : barHas p a c h = barI p a c h := by
  unfold barHas barVoid barI
  rw [ptEq_eq]
  by_cases h1 : h < 1
  · have : ¬ 1 ≤ h := by omega
    simp [h1, this, orB_eq, andB_eq]
  · rw [beside_eq hp ha hc (by omega) h2, past_eq hp ha hc]
    have : 1 ≤ h := by omega
    simp only [h1, this, orB_eq, andB_eq, decide_true, decide_false, Bool.or_false, Bool.and_true]
    cases clear p a c h
    · by_cases k : crossI a c p > 0
      · simp [k]
      · simp [k]
    · by_cases k : dotI a c p < 0
      · have : ¬ 0 ≤ dotI a c p := by omega
        simp [k, this]
      · by_cases k' : dotI a c p > distI a c
        · have : ¬ dotI a c p ≤ distI a c := by omega
          simp [k, k', this]
        · have k1 : 0 ≤ dotI a c p := by omega
          have k2 : dotI a c p ≤ distI a c := by omega
          simp [k, k', k1, k2]
theorem rBarHas_eq {p a c : P2} {h : Int} (hp : PR p) (ha : PR a) (hc : PR c) (h2 : h ≤ 2147483648) : rBarHas p a c h = barI p a c h := by
  unfold rBarHas barI

  by_cases h1 : h < 1
  · have : ¬ 1 ≤ h := by omega
    simp [this, andB_eq]
  · rw [rWithin_eq hp ha hc (by omega) h2, (rDist_eq2 ha hc).1, (rDot_eq ha hc hp).1]
    have k : decide (distI a c > 0) = !(decide (same a c)) := by
      have := dist_pos a c; have := dist_nn a c
      by_cases e : same a c
      · have : distI a c = 0 := (dist_pos a c).2 e
        simp [e, this]
      · have : distI a c > 0 := by
          have : distI a c ≠ 0 := fun x => e ((dist_pos a c).1 x)
          omega
        simp [e, this]
    rw [k]
    simp only [andB_eq]
    cases decide (same a c) <;> cases clear p a c h <;> cases decide (0 ≤ dotI a c p) <;> cases decide (dotI a c p ≤ distI a c) <;> simp
def leftI (a c : P2) (h : Int) (q : P2) : Bool := !(clear q a c h) && decide (crossI a c q > 0)
def rightI (a c : P2) (h : Int) (q : P2) : Bool := !(clear q a c h) && !(decide (crossI a c q > 0))
def barCl (b : B4) (a c : P2) (h : Int) : Int :=
  if h < 1 ∨ same a c then 0 else
  if all4 (fun q => barI q a c h) b then 2 else
  if all4 (rightI a c h) b || all4 (leftI a c h) b || all4 (fun q => decide (dotI a c q < 0)) b || all4 (fun q => decide (dotI a c q > distI a c)) b then 0 else 1
theorem barClass_eq {b : B4} {a c : P2} {h : Int} (hb : BR b) (ha : PR a) (hc : PR c) (hx : b.x0 ≤ b.x1) (hy : b.y0 ≤ b.y1) (h2 : h ≤ 2147483648) : barClass b a c h = barCl b a c h := by
  unfold barClass barCl
  have e0 : barVoid a c h = decide (h < 1 ∨ same a c) := by
    unfold barVoid; rw [ptEq_eq, orB_eq]
    by_cases k : h < 1 <;> by_cases k' : same a c <;> simp [k, k']
  rw [e0]
  by_cases k0 : h < 1 ∨ same a c
  · rw [decide_eq_true k0, bif_t, if_pos k0]
  · rw [decide_eq_false k0, bif_f, if_neg k0]
    have h1 : 1 ≤ h := by omega
    have hh : boxHas b ⟨b.x0, b.y0⟩ = true := (boxHas_eq _ _).2 ⟨by simp, hx, by simp, hy⟩
    rw [hh]
    have hv : barVoid a c h = false := by rw [e0, decide_eq_false k0]
    have e1 : (cnt4 (fun p => andB (beside p a c h == 0) (past p a c == 0)) b == 4) = all4 (fun q => barI q a c h) b := by
      rw [cnt4_all]
      refine all4_congr hb fun q hq => ?_
      rw [← barHas_eq hq ha hc h2]; unfold barHas; rw [hv]; rfl
    have s3 : ∀ q, beside q a c h = -1 ∨ beside q a c h = 0 ∨ beside q a c h = 1 := fun q => by have := beside_01 q a c h; omega
    have p3 : ∀ q, past q a c = -1 ∨ past q a c = 0 ∨ past q a c = 1 := fun q => by have := past_01 q a c; omega
    rw [e1, (cnt3_all _ b s3).1, (cnt3_all _ b s3).2, (cnt3_all _ b p3).1, (cnt3_all _ b p3).2]
    have e2 : all4 (fun q => beside q a c h == -1) b = all4 (rightI a c h) b := all4_congr hb fun q hq => by
      rw [beside_eq hq ha hc (by omega) h2]; unfold rightI
      cases clear q a c h
      · by_cases k : crossI a c q > 0 <;> simp [k]
      · simp
    have e3 : all4 (fun q => beside q a c h == 1) b = all4 (leftI a c h) b := all4_congr hb fun q hq => by
      rw [beside_eq hq ha hc (by omega) h2]; unfold leftI
      cases clear q a c h
      · by_cases k : crossI a c q > 0 <;> simp [k]
      · simp
    have e4 : all4 (fun q => past q a c == -1) b = all4 (fun q => decide (dotI a c q < 0)) b := all4_congr hb fun q hq => by
      rw [past_eq hq ha hc]
      by_cases k : dotI a c q < 0
      · simp [k]
      · by_cases k' : dotI a c q > distI a c <;> simp [k, k']
    have e5 : all4 (fun q => past q a c == 1) b = all4 (fun q => decide (dotI a c q > distI a c)) b := all4_congr hb fun q hq => by
      rw [past_eq hq ha hc]
      by_cases k : dotI a c q < 0
      · have : ¬ dotI a c q > distI a c := by have := dist_nn a c; omega
        simp [k, this]
      · by_cases k' : dotI a c q > distI a c <;> simp [k, k']
    rw [e2, e3, e4, e5]
    simp only [orB_eq, Bool.not_true, bif_f]
    cases all4 (fun q => barI q a c h) b <;> cases all4 (rightI a c h) b <;> cases all4 (leftI a c h) b <;> cases all4 (fun q => decide (dotI a c q < 0)) b <;> cases all4 (fun q => decide (dotI a c q > distI a c)) b <;> rfl
theorem clear_zero {q a c : P2} {h : Int} (k : crossI a c q = 0) : clear q a c h = true := by
  unfold clear
  rw [k]
  have := Int.mul_nonneg (sq_nn h) (dist_nn a c)
  simpa using this
theorem rBar_eq {b : B4} {a c : P2} {h : Int} (hb : BR b) (ha : PR a) (hc : PR c) (h2 : h ≤ 2147483648) : rBar b a c h = barCl b a c h := by
  unfold rBar barCl
  have e0 : orB (decide (h < 1)) (rDist a c == 0) = decide (h < 1 ∨ same a c) := by
    rw [(rDist_eq2 ha hc).1, orB_eq]
    have := dist_pos a c
    by_cases k : h < 1 <;> by_cases k' : same a c <;> simp [k, k', this]
  rw [e0]
  by_cases k0 : h < 1 ∨ same a c
  · rw [decide_eq_true k0, bif_t, if_pos k0]
  · rw [decide_eq_false k0, bif_f, if_neg k0]
    have h1 : 1 ≤ h := by omega
    dsimp only
    rw [cnt4_all, cnt4_all, cnt4_all, cnt4_all, cnt4_all]
    have e1 : all4 (fun q => rBarHas q a c h) b = all4 (fun q => barI q a c h) b := all4_congr hb fun q hq => rBarHas_eq hq ha hc h2
    have e2 : all4 (fun q => andB (!(rWithin (cross a c q) h (rDist a c))) (decide (cross a c q > 0))) b = all4 (leftI a c h) b := all4_congr hb fun q hq => by
      rw [rWithin_eq hq ha hc (by omega) h2, (cross_eq ha hc hq).1, andB_eq]; rfl
    have e3 : all4 (fun q => andB (!(rWithin (cross a c q) h (rDist a c))) (decide (cross a c q < 0))) b = all4 (rightI a c h) b := all4_congr hb fun q hq => by
      rw [rWithin_eq hq ha hc (by omega) h2, (cross_eq ha hc hq).1, andB_eq]; unfold rightI
      by_cases k : crossI a c q = 0
      · rw [clear_zero k]; rfl
      · congr 1
        by_cases k' : crossI a c q < 0
        · have : ¬ crossI a c q > 0 := by omega
          simp [k', this]
        · have : crossI a c q > 0 := by omega
          simp [k', this]
    have e4 : all4 (fun q => decide (rDot a c q < 0)) b = all4 (fun q => decide (dotI a c q < 0)) b := all4_congr hb fun q hq => by rw [(rDot_eq ha hc hq).1]
    have e5 : all4 (fun q => decide (rDot a c q > rDist a c)) b = all4 (fun q => decide (dotI a c q > distI a c)) b := all4_congr hb fun q hq => by rw [(rDot_eq ha hc hq).1, (rDist_eq2 ha hc).1]
    rw [e1, e2, e3, e4, e5]
    simp only [orB_eq]
    cases all4 (fun q => barI q a c h) b <;> cases all4 (rightI a c h) b <;> cases all4 (leftI a c h) b <;> cases all4 (fun q => decide (dotI a c q < 0)) b <;> cases all4 (fun q => decide (dotI a c q > distI a c)) b <;> rfl
theorem barVoid_lt {a c : P2} {h : Int} (k : h < 1) : barVoid a c h = true := by
  unfold barVoid; rw [orB_eq, decide_eq_true k, Bool.or_true]
theorem barVoid_same (a : P2) (h : Int) : barVoid a a h = true := by
  unfold barVoid; rw [orB_eq, ptEq_eq, decide_eq_true (show same a a from ⟨rfl, rfl⟩), Bool.true_or]
theorem barClass_void {b : B4} {a c : P2} {h : Int} (k : barVoid a c h = true) : barClass b a c h = 0 := by unfold barClass; rw [k]; rfl
theorem barHas_void {p a c : P2} {h : Int} (k : barVoid a c h = true) : barHas p a c h = false := by unfold barHas; rw [k]; rfl
end Go.Proofs.Ytfooaikpcbnchaa

/-! ## Box -/
namespace Go.Proofs.Ytfooaikpcbnchaa
open Go Go.RowKit Sym
set_option maxRecDepth 100000

theorem cnt4_lt (f : P2 → Bool) (b : B4) : decide (cnt4 f b < 4) = !(all4 f b) := by
  rw [cnt4_sum]; unfold all4
  cases f ⟨b.x0, b.y0⟩ <;> cases f ⟨b.x1, b.y0⟩ <;> cases f ⟨b.x0, b.y1⟩ <;> cases f ⟨b.x1, b.y1⟩ <;> rfl
/-- the segment's own box has no point of b -/
def sepI (b : B4) (p q : P2) : Bool := decide (max p.x q.x < b.x0) || decide (min p.x q.x > b.x1) || decide (max p.y q.y < b.y0) || decide (min p.y q.y > b.y1)
def meetsI (b : B4) (p q : P2) : Bool := !(sepI b p q) && (!(all4 (fun c => decide (crossI p q c > 0)) b) && !(all4 (fun c => decide (crossI p q c < 0)) b))
theorem meets_eq {b : B4} {p q : P2} (hb : BR b) (hp : PR p) (hq : PR q) (hx : b.x0 ≤ b.x1) (hy : b.y0 ≤ b.y1) : meets b p q = meetsI b p q := by
  have e1 : all4 (fun c => decide (cross p q c > 0)) b = all4 (fun c => decide (crossI p q c > 0)) b := all4_congr hb fun c hc => by rw [(cross_eq hp hq hc).1]
  have e2 : all4 (fun c => decide (cross p q c < 0)) b = all4 (fun c => decide (crossI p q c < 0)) b := all4_congr hb fun c hc => by rw [(cross_eq hp hq hc).1]
  have e3 : emptyBx b = false := by
    unfold emptyBx; rw [orB_eq, decide_eq_false (show ¬ b.x0 > b.x1 by omega), decide_eq_false (show ¬ b.y0 > b.y1 by omega)]; rfl
  unfold meets meetsI sepI
  rw [cnt4_lt, cnt4_lt, e1, e2, e3]
  simp only [orB_eq, andB_eq, imax_eq, imin_eq, Bool.false_or]
  cases (decide (max p.x q.x < b.x0) || decide (min p.x q.x > b.x1) || decide (max p.y q.y < b.y0) || decide (min p.y q.y > b.y1)) <;> rfl
theorem rMeets_eq {b : B4} {p q : P2} (hb : BR b) (hp : PR p) (hq : PR q) : rMeets b p q = meetsI b p q := by
  have e1 : all4 (fun c => decide (cross p q c > 0)) b = all4 (fun c => decide (crossI p q c > 0)) b := all4_congr hb fun c hc => by rw [(cross_eq hp hq hc).1]
  have e2 : all4 (fun c => decide (cross p q c < 0)) b = all4 (fun c => decide (crossI p q c < 0)) b := all4_congr hb fun c hc => by rw [(cross_eq hp hq hc).1]
  unfold rMeets meetsI sepI rApart
  rw [cnt4_lt, cnt4_lt, e1, e2]
  simp only [orB_eq, andB_eq, imax_eq, imin_eq]
  have e4 : (decide (b.x1 < min p.x q.x) || decide (max p.x q.x < b.x0) || decide (b.y1 < min p.y q.y) || decide (max p.y q.y < b.y0)) = (decide (max p.x q.x < b.x0) || decide (min p.x q.x > b.x1) || decide (max p.y q.y < b.y0) || decide (min p.y q.y > b.y1)) := by
    rw [Bool.or_comm (decide (b.x1 < min p.x q.x)), Bool.or_assoc, Bool.or_assoc, Bool.or_assoc, Bool.or_assoc, Bool.or_comm (decide (b.y1 < min p.y q.y))]
  rw [e4]
  cases (decide (max p.x q.x < b.x0) || decide (min p.x q.x > b.x1) || decide (max p.y q.y < b.y0) || decide (min p.y q.y > b.y1)) <;> rfl
/-- some corner of a box is on the one side of a line through a point of the box, some on the other -/
theorem sides_in {b : B4} {p q : P2} (h : hasI b p) : all4 (fun c => decide (crossI p q c > 0)) b = false ∧ all4 (fun c => decide (crossI p q c < 0)) b = false := by
  obtain ⟨h1, h2, h3, h4⟩ := h
  have key : ∀ (u v : Int), (0 ≤ u * (b.x1 - p.x) ∧ u * (b.x0 - p.x) ≤ 0 ∨ u * (b.x1 - p.x) ≤ 0 ∧ 0 ≤ u * (b.x0 - p.x)) ∧ (0 ≤ v * (b.y1 - p.y) ∧ v * (b.y0 - p.y) ≤ 0 ∨ v * (b.y1 - p.y) ≤ 0 ∧ 0 ≤ v * (b.y0 - p.y)) := fun u v => by
    have one : ∀ (u lo hi : Int), lo ≤ 0 → 0 ≤ hi → (0 ≤ u * hi ∧ u * lo ≤ 0 ∨ u * hi ≤ 0 ∧ 0 ≤ u * lo) := fun u lo hi a c => by
      rcases Int.le_total 0 u with k | k
      · have := Int.mul_nonneg k c; have := Int.mul_nonneg k (show 0 ≤ -lo by omega)
        left; constructor
        · assumption
        · have e : u * -lo = -(u * lo) := by grind
          omega
      · have := Int.mul_nonneg (show 0 ≤ -u by omega) c; have := Int.mul_nonneg (show 0 ≤ -u by omega) (show 0 ≤ -lo by omega)
        right
        have e1 : -u * hi = -(u * hi) := by grind
        have e2 : -u * -lo = u * lo := by grind
        omega
    exact ⟨one u _ _ (by omega) (by omega), one v _ _ (by omega) (by omega)⟩
  have e : ∀ x y, crossI p q ⟨x, y⟩ = (q.x - p.x) * (y - p.y) - (q.y - p.y) * (x - p.x) := fun _ _ => rfl
  unfold all4
  simp only [e]
  obtain ⟨k1, k2⟩ := key (q.y - p.y) (q.x - p.x)
  generalize (q.x - p.x) * (b.y0 - p.y) = A at *
  generalize (q.x - p.x) * (b.y1 - p.y) = B at *
  generalize (q.y - p.y) * (b.x0 - p.x) = C at *
  generalize (q.y - p.y) * (b.x1 - p.x) = D at *
  constructor
  · simp only [Bool.and_eq_false_iff, decide_eq_false_iff_not]; omega
  · simp only [Bool.and_eq_false_iff, decide_eq_false_iff_not]; omega
theorem meetsI_in {b : B4} {p : P2} (q : P2) (h : hasI b p) : meetsI b p q = true := by
  have s := sides_in (q := q) h
  obtain ⟨h1, h2, h3, h4⟩ := h
  unfold meetsI
  rw [s.1, s.2]
  unfold sepI
  rw [decide_eq_false (show ¬ max p.x q.x < b.x0 by omega), decide_eq_false (show ¬ min p.x q.x > b.x1 by omega), decide_eq_false (show ¬ max p.y q.y < b.y0 by omega), decide_eq_false (show ¬ min p.y q.y > b.y1 by omega)]
  rfl
theorem near_zero (b : B4) (p : P2) (hx : b.x0 ≤ b.x1) (hy : b.y0 ≤ b.y1) : nearI b p = 0 ↔ hasI b p := by
  have e : ∀ v lo hi : Int, lo ≤ hi → (gapI v lo hi * gapI v lo hi = 0 ↔ lo ≤ v ∧ v ≤ hi) := fun v lo hi hh => by
    rw [Int.mul_eq_zero]
    unfold gapI; split
    · omega
    · split <;> omega
  have a := e p.x b.x0 b.x1 hx; have c := e p.y b.y0 b.y1 hy
  have n1 := sq_nn (gapI p.x b.x0 b.x1); have n2 := sq_nn (gapI p.y b.y0 b.y1)
  unfold nearI hasI
  omega

/-! ### quarters -/
def q0 (b : B4) : B4 := ⟨spl b 0 b.x0, spl b 0 b.y0, spl b 0 (midX b), spl b 0 (midY b)⟩
def q1 (b : B4) : B4 := ⟨spl b 0 (midX b), spl b 0 b.y0, spl b 0 b.x1, spl b 0 (midY b)⟩
def q2 (b : B4) : B4 := ⟨spl b 0 b.x0, spl b 0 (midY b), spl b 0 (midX b), spl b 0 b.y1⟩
def q3 (b : B4) : B4 := ⟨spl b 0 (midX b), spl b 0 (midY b), spl b 0 b.x1, spl b 0 b.y1⟩
structure Fits (b : B4) : Prop where
  x0 : -536870912 ≤ b.x0
  x : b.x0 ≤ b.x1
  x1 : b.x1 ≤ 536870912
  y0 : -536870912 ≤ b.y0
  y : b.y0 ≤ b.y1
  y1 : b.y1 ≤ 536870912
theorem lBox_fits (b : B4) : Fits (lBox b) := by
  obtain ⟨h1, h2, h3, h4, h5, h6⟩ := lBox_r b
  exact ⟨h1, h2, h3, h4, h5, h6⟩
theorem boxOk_iff (b : B4) : boxOk b = true ↔ Fits b := by
  unfold boxOk within
  simp only [andB_eq, Bool.and_eq_true, decide_eq_true_eq]
  constructor
  · rintro ⟨⟨⟨⟨⟨a, c⟩, d, e⟩, f, g⟩, h, i⟩, j, k⟩; exact ⟨d, a, i, f, c, k⟩
  · rintro ⟨a, c, d, e, f, g⟩; exact ⟨⟨⟨⟨⟨c, f⟩, by omega, by omega⟩, by omega, by omega⟩, by omega, by omega⟩, by omega, by omega⟩
theorem spl_of {b : B4} (hb : Fits b) (h : splOk b = true) : (∀ v, spl b 0 v = v) ∧ b.x0 < midX b ∧ b.y0 < midY b ∧ 2 * midX b = b.x0 + b.x1 ∧ 2 * midY b = b.y0 + b.y1 := by
  obtain ⟨a1, a2, a3, a4, a5, a6⟩ := hb
  have k : ∀ v, spl b 0 v = v := fun v => by
    unfold splOk at h; unfold spl
    cases hq : boxOk b
    · rw [hq] at h; cases h
    · rw [hq] at h
      simp only [Bool.not_true, bif_f] at h ⊢
      cases ho : orB (orB (orB (W (b.x1 - b.x0) == 0) (W (b.y1 - b.y0) == 0)) ((W (b.x1 - b.x0)).tmod 2 != 0)) ((W (b.y1 - b.y0)).tmod 2 != 0)
      · rfl
      · rw [ho] at h; cases h
  refine ⟨k, ?_⟩
  unfold splOk at h
  rw [(boxOk_iff b).2 ⟨a1, a2, a3, a4, a5, a6⟩] at h
  rw [W_id (x := b.x1 - b.x0) (by omega) (by omega), W_id (x := b.y1 - b.y0) (by omega) (by omega)] at h
  simp only [Bool.not_true, bif_f, orB_eq] at h
  have h' : ¬ (((b.x1 - b.x0 = 0 ∨ b.y1 - b.y0 = 0) ∨ (b.x1 - b.x0).tmod 2 ≠ 0) ∨ (b.y1 - b.y0).tmod 2 ≠ 0) := by
    intro q
    have : (b.x1 - b.x0 == 0 || b.y1 - b.y0 == 0 || (b.x1 - b.x0).tmod 2 != 0 || (b.y1 - b.y0).tmod 2 != 0) = true := by
      simp only [Bool.or_eq_true, beq_iff_eq, bne_iff_ne]; exact q
    rw [this] at h; cases h
  rw [Int.tmod_eq_emod_of_nonneg (by omega), Int.tmod_eq_emod_of_nonneg (by omega)] at h'
  unfold midX midY
  rw [W_id (x := b.x1 - b.x0) (by omega) (by omega), W_id (x := b.y1 - b.y0) (by omega) (by omega), Int.tdiv_eq_ediv_of_nonneg (by omega), Int.tdiv_eq_ediv_of_nonneg (by omega),
    W_id (x := (b.x1 - b.x0) / 2) (by omega) (by omega), W_id (x := (b.y1 - b.y0) / 2) (by omega) (by omega), W_id (by omega) (by omega), W_id (by omega) (by omega)]
  omega
def badQ (b s : B4) (c d : P2) : Bool := orB (orB (orB (!(boxOk s)) (apart s b)) (!(boxHas b c))) (!(ptEq c d))
theorem badQ_no {b s : B4} {c : P2} (hs : Fits s) (h1 : b.x0 ≤ s.x0) (h2 : s.x1 ≤ b.x1) (h3 : b.y0 ≤ s.y0) (h4 : s.y1 ≤ b.y1) (hc : hasI s c) : badQ b s c c = false := by
  obtain ⟨a1, a2, a3, a4, a5, a6⟩ := id hs
  obtain ⟨c1, c2, c3, c4⟩ := hc
  have e1 : boxOk s = true := (boxOk_iff s).2 hs
  have e2 : apart s b = false := by
    unfold apart emptyBx
    simp only [orB_eq, Bool.or_eq_false_iff, decide_eq_false_iff_not]
    omega
  have e3 : boxHas b c = true := (boxHas_eq b c).2 ⟨by omega, by omega, by omega, by omega⟩
  have e4 : ptEq c c = true := by rw [ptEq_eq]; exact decide_eq_true ⟨rfl, rfl⟩
  unfold badQ; rw [e1, e2, e3, e4]; rfl
def boxHolds (b0 : B4) (x y : Int) (p0 : P2) : Bool :=
  let b := lBox b0
  let p := lPt p0
  let q := lIn b x y
  let d := rDist p q
  bif orB (orB (orB (!(boxHas b q)) (decide (near b p > d))) (decide (most b p < d))) (!((near b p == 0) == boxHas b p)) then false else
  let fin := fun n => andB (andB (orB (!(splOk b)) (decide (n ≥ 1))) (meets b q p)) true
  let n1 := up (boxHas (q0 b) q) 0
  let n2 := up (boxHas (q1 b) q) n1
  let n3 := up (boxHas (q2 b) q) n2
  let n4 := up (boxHas (q3 b) q) n3
  bif splOk b then bif badQ b (q0 b) ⟨(q0 b).x0, (q0 b).y0⟩ ⟨b.x0, b.y0⟩ then false else
  bif splOk b then bif badQ b (q1 b) ⟨(q1 b).x1, (q1 b).y0⟩ ⟨b.x1, b.y0⟩ then false else
  bif splOk b then bif badQ b (q2 b) ⟨(q2 b).x0, (q2 b).y1⟩ ⟨b.x0, b.y1⟩ then false else
  bif splOk b then bif badQ b (q3 b) ⟨(q3 b).x1, (q3 b).y1⟩ ⟨b.x1, b.y1⟩ then false else fin n4 else fin n3 else fin n2 else fin n1 else fin 0
theorem boxHolds_true (b0 : B4) (x y : Int) (p0 : P2) : boxHolds b0 x y p0 = true := by
  have hb := lBox_fits b0
  have hB := lBox_R b0
  have hP := lPt_R p0
  have hq := (lIn_has x y hB hb.x hb.y).1
  unfold boxHolds
  dsimp only
  generalize lBox b0 = b at *
  generalize lPt p0 = p at *
  generalize lIn b x y = q at *
  have hQ : PR q := by
    obtain ⟨⟨a1, a2⟩, ⟨a3, a4⟩, ⟨a5, a6⟩, a7, a8⟩ := hB
    obtain ⟨h1, h2, h3, h4⟩ := hq
    exact ⟨⟨by omega, by omega⟩, ⟨by omega, by omega⟩⟩
  have e0 : orB (orB (orB (!(boxHas b q)) (decide (near b p > rDist p q))) (decide (most b p < rDist p q))) (!((near b p == 0) == boxHas b p)) = false := by
    rw [(boxHas_eq b q).2 hq, (near_eq hB hP).1, (most_eq hB hP).1, (rDist_eq2 hP hQ).1]
    have a := near_le (p := p) hq; have c := most_ge (p := p) hq
    rw [decide_eq_false (show ¬ nearI b p > distI p q by omega), decide_eq_false (show ¬ mostI b p < distI p q by omega)]
    have z := near_zero b p hb.x hb.y
    have : (nearI b p == 0) = boxHas b p := by
      rw [Bool.eq_iff_iff, boxHas_eq, beq_iff_eq]; exact z
    rw [this]; simp [orB_eq]
  rw [e0, bif_f, meets_eq hB hQ hP hb.x hb.y, meetsI_in p hq]
  cases hs : splOk b
  · rfl
  · obtain ⟨k, l1, l2, l3, l4⟩ := spl_of hb hs
    obtain ⟨a1, a2, a3, a4, a5, a6⟩ := hb
    obtain ⟨h1, h2, h3, h4⟩ := hq
    unfold q0 q1 q2 q3
    simp only [k]
    rw [badQ_no (b := b) (s := ⟨b.x0, b.y0, midX b, midY b⟩) (c := ⟨b.x0, b.y0⟩) ⟨a1, by dsimp only; omega, by dsimp only; omega, a4, by dsimp only; omega, by dsimp only; omega⟩ (by simp) (by dsimp only; omega) (by simp) (by dsimp only; omega) ⟨by simp, by dsimp only; omega, by simp, by dsimp only; omega⟩,
      badQ_no (b := b) (s := ⟨midX b, b.y0, b.x1, midY b⟩) (c := ⟨b.x1, b.y0⟩) ⟨by dsimp only; omega, by dsimp only; omega, by dsimp only; omega, a4, by dsimp only; omega, by dsimp only; omega⟩ (by dsimp only; omega) (by simp) (by simp) (by dsimp only; omega) ⟨by dsimp only; omega, by simp, by simp, by dsimp only; omega⟩,
      badQ_no (b := b) (s := ⟨b.x0, midY b, midX b, b.y1⟩) (c := ⟨b.x0, b.y1⟩) ⟨a1, by dsimp only; omega, by dsimp only; omega, by dsimp only; omega, by dsimp only; omega, by dsimp only; omega⟩ (by simp) (by dsimp only; omega) (by dsimp only; omega) (by simp) ⟨by simp, by dsimp only; omega, by dsimp only; omega, by simp⟩,
      badQ_no (b := b) (s := ⟨midX b, midY b, b.x1, b.y1⟩) (c := ⟨b.x1, b.y1⟩) ⟨by dsimp only; omega, by dsimp only; omega, by dsimp only; omega, by dsimp only; omega, by dsimp only; omega, by dsimp only; omega⟩ (by dsimp only; omega) (by simp) (by dsimp only; omega) (by simp) ⟨by dsimp only; omega, by simp, by dsimp only; omega, by simp⟩]
    have u : ∀ (c : Bool) (n : Int), 0 ≤ n → n ≤ 10 → n ≤ up c n ∧ up c n ≤ n + 1 ∧ (c = true → up c n = n + 1) := fun c n a d => by
      rw [up_sum c (by omega) (by omega)]; cases c <;> simp <;> omega
    have u1 := u (boxHas ⟨b.x0, b.y0, midX b, midY b⟩ q) 0 (by omega) (by omega)
    have u2 := u (boxHas ⟨midX b, b.y0, b.x1, midY b⟩ q) _ u1.1 (by omega)
    have u3 := u (boxHas ⟨b.x0, midY b, midX b, b.y1⟩ q) _ (Int.le_trans u1.1 u2.1) (by omega)
    have u4 := u (boxHas ⟨midX b, midY b, b.x1, b.y1⟩ q) _ (Int.le_trans (Int.le_trans u1.1 u2.1) u3.1) (by omega)
    have n : up (boxHas ⟨midX b, midY b, b.x1, b.y1⟩ q) (up (boxHas ⟨b.x0, midY b, midX b, b.y1⟩ q) (up (boxHas ⟨midX b, b.y0, b.x1, midY b⟩ q) (up (boxHas ⟨b.x0, b.y0, midX b, midY b⟩ q) 0))) ≥ 1 := by
      by_cases kx : q.x ≤ midX b
      · by_cases ky : q.y ≤ midY b
        · have := u1.2.2 ((boxHas_eq _ _).2 ⟨h1, kx, h3, ky⟩); omega
        · have := u3.2.2 ((boxHas_eq _ _).2 ⟨h1, kx, by dsimp only; omega, h4⟩); omega
      · by_cases ky : q.y ≤ midY b
        · have := u2.2.2 ((boxHas_eq _ _).2 ⟨by dsimp only; omega, h2, h3, ky⟩); omega
        · have := u4.2.2 ((boxHas_eq _ _).2 ⟨by dsimp only; omega, h2, by dsimp only; omega, h4⟩); omega
    simp only [bif_t, bif_f]
    rw [decide_eq_true n]; rfl
end Go.Proofs.Ytfooaikpcbnchaa

/-! ## Lin -/
namespace Go.Proofs.Ytfooaikpcbnchaa
open Go Go.RowKit Sym
set_option maxRecDepth 100000

/-- p is in the stroke -/
def lineI (p a c : P2) (r : Int) : Bool :=
  if dotI a c p ≤ 0 then decide (distI p a ≤ r * r) else if dotI a c p ≥ distI a c then decide (distI p c ≤ r * r) else clear p a c r
theorem lineHas_eq {p a c : P2} {r : Int} (hp : PR p) (ha : PR a) (hc : PR c) (h1 : 1 ≤ r) (h2 : r ≤ 2147483648) : lineHas p a c r = lineI p a c r := by
  unfold lineHas lineI
  rw [decide_eq_false (show ¬ r < 1 by omega), bif_f]
  dsimp only
  rw [along_eq hp ha hc, dist2_eq ha hc]
  have e := clear_eq hp ha hc (r := r) (by omega) h2
  rw [dist2_eq ha hc] at e
  rw [e, square_eq (by omega) h2]
  have n1 := near_eq (b := ⟨a.x, a.y, a.x, a.y⟩) ⟨ha.x, ha.y, ha.x, ha.y⟩ hp
  have n2 := near_eq (b := ⟨c.x, c.y, c.x, c.y⟩) ⟨hc.x, hc.y, hc.x, hc.y⟩ hp
  rw [n1.1, n2.1, dist_near, dist_near]
  by_cases k : dotI a c p ≤ 0
  · simp [k]
  · by_cases k' : dotI a c p ≥ distI a c
    · simp [k, k']
    · simp [k, k']
theorem rLineHas_eq {p a c : P2} {r : Int} (hp : PR p) (ha : PR a) (hc : PR c) (h1 : 1 ≤ r) (h2 : r ≤ 2147483648) : rLineHas p a c r = lineI p a c r := by
  unfold rLineHas lineI
  rw [decide_eq_false (show ¬ r < 1 by omega), bif_f]
  rw [rWithin_eq hp ha hc (by omega) h2, (rDot_eq ha hc hp).1, (rDist_eq2 ha hc).1, (rDist_eq2 hp ha).1, (rDist_eq2 hp hc).1, (rsq (r := r) (by omega) h2).1]
  by_cases k : dotI a c p ≤ 0
  · simp [k]
  · by_cases k' : dotI a c p ≥ distI a c
    · simp [k, k']
    · simp [k, k']
def any4 (f : P2 → Bool) (b : B4) : Bool := f ⟨b.x0, b.y0⟩ || f ⟨b.x1, b.y0⟩ || f ⟨b.x0, b.y1⟩ || f ⟨b.x1, b.y1⟩
theorem cnt4_any (f : P2 → Bool) (b : B4) : decide (cnt4 f b > 0) = any4 f b := by
  rw [cnt4_sum]; unfold any4
  cases f ⟨b.x0, b.y0⟩ <;> cases f ⟨b.x1, b.y0⟩ <;> cases f ⟨b.x0, b.y1⟩ <;> cases f ⟨b.x1, b.y1⟩ <;> rfl
theorem cnt4_none (f : P2 → Bool) (b : B4) : (cnt4 f b == 0) = !(any4 f b) := by
  rw [cnt4_sum]; unfold any4
  cases f ⟨b.x0, b.y0⟩ <;> cases f ⟨b.x1, b.y0⟩ <;> cases f ⟨b.x0, b.y1⟩ <;> cases f ⟨b.x1, b.y1⟩ <;> rfl
theorem any4_congr {f g : P2 → Bool} {b : B4} (hb : BR b) (h : ∀ q, PR q → f q = g q) : any4 f b = any4 g b := by
  unfold any4
  rw [h _ ⟨hb.x0, hb.y0⟩, h _ ⟨hb.x1, hb.y0⟩, h _ ⟨hb.x0, hb.y1⟩, h _ ⟨hb.x1, hb.y1⟩]
def lineCl (b : B4) (a c : P2) (r : Int) : Int :=
  if all4 (fun q => lineI q a c r) b then 2 else
  if any4 (fun q => lineI q a c r) b || decide (nearI b a ≤ r * r) || decide (nearI b c ≤ r * r) || meetsI b a c then 1 else 0
theorem lineClass_lt {b : B4} {a c : P2} {r : Int} (h : r < 1) : lineClass b a c r = 0 := by unfold lineClass; rw [decide_eq_true h]; rfl
theorem lineHas_lt {p a c : P2} {r : Int} (h : r < 1) : lineHas p a c r = false := by unfold lineHas; rw [decide_eq_true h]; rfl
theorem lineClass_eq {b : B4} {a c : P2} {r : Int} (hb : BR b) (ha : PR a) (hc : PR c) (hx : b.x0 ≤ b.x1) (hy : b.y0 ≤ b.y1) (h1 : 1 ≤ r) (h2 : r ≤ 2147483648) : lineClass b a c r = lineCl b a c r := by
  unfold lineClass lineCl
  have hh : boxHas b ⟨b.x0, b.y0⟩ = true := (boxHas_eq _ _).2 ⟨by simp, hx, by simp, hy⟩
  rw [hh, decide_eq_false (show ¬ r < 1 by omega)]
  have e1 : all4 (fun p => lineHas p a c r) b = all4 (fun p => lineI p a c r) b := all4_congr hb fun q hq => lineHas_eq hq ha hc h1 h2
  have e2 : any4 (fun p => lineHas p a c r) b = any4 (fun p => lineI p a c r) b := any4_congr hb fun q hq => lineHas_eq hq ha hc h1 h2
  dsimp only
  rw [cnt4_all, cnt4_any, e1, e2, square_eq (by omega) h2, (near_eq hb ha).1, (near_eq hb hc).1, meets_eq hb ha hc hx hy]
  simp only [orB_eq, Bool.not_true, Bool.or_false, bif_f]
  cases all4 (fun p => lineI p a c r) b
  · cases (any4 (fun p => lineI p a c r) b || decide (nearI b a ≤ r * r) || decide (nearI b c ≤ r * r) || meetsI b a c) <;> rfl
  · rfl
theorem clamp_dist {b : B4} {p : P2} (hx : b.x0 ≤ b.x1) (hy : b.y0 ≤ b.y1) : distI p ⟨imin (imax p.x b.x0) b.x1, imin (imax p.y b.y0) b.y1⟩ = nearI b p := by
  have e : ∀ u lo hi : Int, lo ≤ hi → (u - min (max u lo) hi) * (u - min (max u lo) hi) = gapI u lo hi * gapI u lo hi := fun u lo hi h => by
    have : gapI u lo hi = u - min (max u lo) hi ∨ gapI u lo hi = -(u - min (max u lo) hi) := by unfold gapI; split <;> omega
    rcases this with h | h <;> rw [h]
    grind
  unfold distI nearI
  simp only [imin_eq, imax_eq]
  rw [e _ _ _ hx, e _ _ _ hy]
theorem rNear_eq2 {b : B4} {p : P2} (hb : BR b) (hp : PR p) (hx : b.x0 ≤ b.x1) (hy : b.y0 ≤ b.y1) : rNear b p = nearI b p := by
  obtain ⟨⟨a1, a2⟩, ⟨a3, a4⟩, ⟨a5, a6⟩, a7, a8⟩ := hb
  unfold rNear
  rw [(rDist_eq2 hp (q := ⟨imin (imax p.x b.x0) b.x1, imin (imax p.y b.y0) b.y1⟩) ⟨⟨by dsimp only; simp only [imin_eq, imax_eq]; omega, by dsimp only; simp only [imin_eq, imax_eq]; omega⟩, ⟨by dsimp only; simp only [imin_eq, imax_eq]; omega, by dsimp only; simp only [imin_eq, imax_eq]; omega⟩⟩).1, clamp_dist hx hy]
theorem rLine_eq {b : B4} {a c : P2} {r : Int} (hb : BR b) (ha : PR a) (hc : PR c) (hx : b.x0 ≤ b.x1) (hy : b.y0 ≤ b.y1) (h1 : 1 ≤ r) (h2 : r ≤ 2147483648) : rLine b a c r = lineCl b a c r := by
  unfold rLine lineCl
  rw [decide_eq_false (show ¬ r < 1 by omega), bif_f]
  have e1 : all4 (fun p => rLineHas p a c r) b = all4 (fun p => lineI p a c r) b := all4_congr hb fun q hq => rLineHas_eq hq ha hc h1 h2
  have e2 : any4 (fun p => rLineHas p a c r) b = any4 (fun p => lineI p a c r) b := any4_congr hb fun q hq => rLineHas_eq hq ha hc h1 h2
  dsimp only
  rw [cnt4_all, cnt4_any, e1, e2, (rsq (r := r) (by omega) h2).1, rNear_eq2 hb ha hx hy, rNear_eq2 hb hc hx hy, rMeets_eq hb ha hc]
  simp only [orB_eq]
  cases all4 (fun p => lineI p a c r) b <;> cases any4 (fun p => lineI p a c r) b <;> cases decide (nearI b a ≤ r * r) <;> cases decide (nearI b c ≤ r * r) <;> cases meetsI b a c <;> rfl

/-! ### corners say all of what is linear -/
def isC (b : B4) (c : P2) : Prop := (c.x = b.x0 ∨ c.x = b.x1) ∧ (c.y = b.y0 ∨ c.y = b.y1)
theorem all4_iff {f : P2 → Bool} {b : B4} : all4 f b = true ↔ ∀ c, isC b c → f c = true := by
  unfold all4
  simp only [Bool.and_eq_true]
  constructor
  · rintro ⟨⟨⟨h1, h2⟩, h3⟩, h4⟩ ⟨x, y⟩ ⟨hx, hy⟩
    dsimp only at hx hy
    rcases hx with rfl | rfl <;> rcases hy with rfl | rfl <;> assumption
  · intro h
    exact ⟨⟨⟨h _ ⟨.inl rfl, .inl rfl⟩, h _ ⟨.inr rfl, .inl rfl⟩⟩, h _ ⟨.inl rfl, .inr rfl⟩⟩, h _ ⟨.inr rfl, .inr rfl⟩⟩
theorem any4_iff {f : P2 → Bool} {b : B4} : any4 f b = true ↔ ∃ c, isC b c ∧ f c = true := by
  unfold any4
  simp only [Bool.or_eq_true]
  constructor
  · rintro (((h | h) | h) | h)
    · exact ⟨_, ⟨.inl rfl, .inl rfl⟩, h⟩
    · exact ⟨_, ⟨.inr rfl, .inl rfl⟩, h⟩
    · exact ⟨_, ⟨.inl rfl, .inr rfl⟩, h⟩
    · exact ⟨_, ⟨.inr rfl, .inr rfl⟩, h⟩
  · rintro ⟨⟨x, y⟩, ⟨hx, hy⟩, h⟩
    dsimp only at hx hy
    rcases hx with rfl | rfl <;> rcases hy with rfl | rfl <;> simp [h]
theorem isC_has {b : B4} {c : P2} (hx : b.x0 ≤ b.x1) (hy : b.y0 ≤ b.y1) (h : isC b c) : hasI b c := by
  obtain ⟨h1, h2⟩ := h
  exact ⟨by omega, by omega, by omega, by omega⟩
/-- some corner has at least so much of a linear form -/
theorem corner_ge {b : B4} {q : P2} (u v : Int) (h : hasI b q) : ∃ c, isC b c ∧ u * q.x + v * q.y ≤ u * c.x + v * c.y := by
  obtain ⟨h1, h2, h3, h4⟩ := h
  have one : ∀ u x lo hi : Int, lo ≤ x → x ≤ hi → u * x ≤ u * lo ∨ u * x ≤ u * hi := fun u x lo hi a c => by
    rcases Int.le_total 0 u with k | k
    · right; exact Int.mul_le_mul_of_nonneg_left c k
    · left
      have := Int.mul_nonneg (show 0 ≤ -u by omega) (show 0 ≤ x - lo by omega)
      have e : -u * (x - lo) = u * lo - u * x := by grind
      omega
  rcases one u q.x b.x0 b.x1 h1 h2 with k | k <;> rcases one v q.y b.y0 b.y1 h3 h4 with k' | k'
  · exact ⟨⟨b.x0, b.y0⟩, ⟨.inl rfl, .inl rfl⟩, by dsimp only; omega⟩
  · exact ⟨⟨b.x0, b.y1⟩, ⟨.inl rfl, .inr rfl⟩, by dsimp only; omega⟩
  · exact ⟨⟨b.x1, b.y0⟩, ⟨.inr rfl, .inl rfl⟩, by dsimp only; omega⟩
  · exact ⟨⟨b.x1, b.y1⟩, ⟨.inr rfl, .inr rfl⟩, by dsimp only; omega⟩
theorem cross_lin (a c p : P2) : crossI a c p = -(c.y - a.y) * p.x + (c.x - a.x) * p.y + ((c.y - a.y) * a.x - (c.x - a.x) * a.y) := by unfold crossI; grind
theorem dot_lin (a c p : P2) : dotI a c p = (c.x - a.x) * p.x + (c.y - a.y) * p.y - ((c.x - a.x) * a.x + (c.y - a.y) * a.y) := by unfold dotI; grind
theorem cross_ge {b : B4} {q : P2} (a c : P2) (h : hasI b q) : ∃ k, isC b k ∧ crossI a c q ≤ crossI a c k := by
  obtain ⟨k, hk, hl⟩ := corner_ge (-(c.y - a.y)) (c.x - a.x) h
  exact ⟨k, hk, by rw [cross_lin, cross_lin]; omega⟩
theorem cross_le {b : B4} {q : P2} (a c : P2) (h : hasI b q) : ∃ k, isC b k ∧ crossI a c k ≤ crossI a c q := by
  obtain ⟨k, hk, hl⟩ := corner_ge (c.y - a.y) (-(c.x - a.x)) h
  refine ⟨k, hk, ?_⟩
  rw [cross_lin, cross_lin a c q]
  have e1 : -(c.y - a.y) * q.x = -((c.y - a.y) * q.x) := by grind
  have e2 : -(c.x - a.x) * q.y = -((c.x - a.x) * q.y) := by grind
  have e3 : -(c.y - a.y) * k.x = -((c.y - a.y) * k.x) := by grind
  have e4 : -(c.x - a.x) * k.y = -((c.x - a.x) * k.y) := by grind
  rw [e1, e3]; rw [e2, e4] at hl; omega
theorem dot_ge {b : B4} {q : P2} (a c : P2) (h : hasI b q) : ∃ k, isC b k ∧ dotI a c q ≤ dotI a c k := by
  obtain ⟨k, hk, hl⟩ := corner_ge (c.x - a.x) (c.y - a.y) h
  exact ⟨k, hk, by rw [dot_lin, dot_lin]; omega⟩
theorem dot_le {b : B4} {q : P2} (a c : P2) (h : hasI b q) : ∃ k, isC b k ∧ dotI a c k ≤ dotI a c q := by
  obtain ⟨k, hk, hl⟩ := corner_ge (-(c.x - a.x)) (-(c.y - a.y)) h
  refine ⟨k, hk, ?_⟩
  rw [dot_lin, dot_lin a c q]
  have e1 : -(c.y - a.y) * q.y = -((c.y - a.y) * q.y) := by grind
  have e2 : -(c.x - a.x) * q.x = -((c.x - a.x) * q.x) := by grind
  have e3 : -(c.y - a.y) * k.y = -((c.y - a.y) * k.y) := by grind
  have e4 : -(c.x - a.x) * k.x = -((c.x - a.x) * k.x) := by grind
  rw [e1, e2, e3, e4] at hl; omega
/-- what is clear at the corners is clear within -/
theorem clear_in {b : B4} {q a c : P2} {r : Int} (h : hasI b q) (hk : ∀ k, isC b k → clear k a c r = true) : clear q a c r = true := by
  unfold clear at *
  simp only [decide_eq_true_eq] at *
  rcases Int.le_total 0 (crossI a c q) with s | s
  · obtain ⟨k, hc, hl⟩ := cross_ge a c h
    have := hk k hc
    have := sq_le (x := crossI a c q) (y := crossI a c k) (by omega) hl
    omega
  · obtain ⟨k, hc, hl⟩ := cross_le a c h
    have := hk k hc
    have t := sq_le (x := crossI a c q) (y := -crossI a c k) (by omega) (by omega)
    have e : -crossI a c k * -crossI a c k = crossI a c k * crossI a c k := by grind
    omega
/-- the product of lengths is told by both products -/
theorem lagrange (a c p : P2) : distI a c * distI p a = dotI a c p * dotI a c p + crossI a c p * crossI a c p := by
  unfold distI dotI crossI; grind
theorem lagrange2 (a c p : P2) : distI a c * distI p c = (dotI a c p - distI a c) * (dotI a c p - distI a c) + crossI a c p * crossI a c p := by
  unfold distI dotI crossI; grind
end Go.Proofs.Ytfooaikpcbnchaa

/-! ## Disc -/
namespace Go.Proofs.Ytfooaikpcbnchaa
open Go Go.RowKit Sym
set_option maxRecDepth 100000

theorem pt_BR {p : P2} (h : PR p) : BR ⟨p.x, p.y, p.x, p.y⟩ := ⟨h.x, h.y, h.x, h.y⟩
theorem discHas_eq {p c : P2} {r : Int} (hp : PR p) (hc : PR c) (h1 : 1 ≤ r) (h2 : r ≤ 2147483648) : discHas p c r = decide (distI p c ≤ r * r) := by
  unfold discHas
  rw [decide_eq_false (show ¬ r < 1 by omega), bif_f, (near_eq (pt_BR hc) hp).1, dist_near, square_eq (by omega) h2]
theorem discHas_no {p c : P2} {r : Int} (h : r < 1) : discHas p c r = false := by
  unfold discHas; rw [decide_eq_true h, bif_t]
theorem discClass_no {b : B4} {c : P2} {r : Int} (h : r < 1) : discClass b c r = 0 := by
  unfold discClass; rw [decide_eq_true h]; rfl
theorem discClass_eq {b : B4} {c : P2} {r : Int} (hb : BR b) (hc : PR c) (hx : b.x0 ≤ b.x1) (hy : b.y0 ≤ b.y1) (h1 : 1 ≤ r) (h2 : r ≤ 2147483648) :
    discClass b c r = if nearI b c > r * r then 0 else if mostI b c ≤ r * r then 2 else 1 := by
  unfold discClass
  have hh : boxHas b ⟨b.x0, b.y0⟩ = true := (boxHas_eq _ _).2 ⟨by simp, hx, by simp, hy⟩
  rw [decide_eq_false (show ¬ r < 1 by omega), hh, (near_eq hb hc).1, (most_eq hb hc).1, square_eq (by omega) h2]
  show (bif decide (nearI b c > r * r) then 0 else bif decide (mostI b c ≤ r * r) then 2 else 1) = _
  by_cases k : nearI b c > r * r
  · rw [decide_eq_true k, if_pos k]; rfl
  · rw [decide_eq_false k, if_neg k, bif_f]
    by_cases k' : mostI b c ≤ r * r
    · rw [decide_eq_true k', if_pos k']; rfl
    · rw [decide_eq_false k', if_neg k']; rfl

/-! ### the reference -/
theorem rDist_eq {p q : P2} (hp : PR p) (hq : PR q) : rDist p q = distI p q := by
  obtain ⟨⟨a, b⟩, c, d⟩ := hp; obtain ⟨⟨e, f⟩, g, h⟩ := hq
  unfold rDist distI
  rw [W_id (x := p.x - q.x) (by omega) (by omega), W_id (x := p.y - q.y) (by omega) (by omega)]
  have k := sq_bd (A := 2147483646) (x := p.x - q.x) (by omega) (by omega)
  have l := sq_bd (A := 2147483646) (x := p.y - q.y) (by omega) (by omega)
  have m : (2147483646 : Int) * 2147483646 = 4611686009837453316 := by decide
  rw [m] at k l
  rw [W_id (x := (p.x - q.x) * (p.x - q.x)) (by omega) (by omega), W_id (x := (p.y - q.y) * (p.y - q.y)) (by omega) (by omega), W_id (by omega) (by omega)]
theorem rNear_eq {b : B4} {p : P2} (hb : BR b) (hp : PR p) (hx : b.x0 ≤ b.x1) (hy : b.y0 ≤ b.y1) : rNear b p = nearI b p := by
  unfold rNear
  simp only [imin_eq, imax_eq]
  obtain ⟨⟨a1, a2⟩, ⟨a3, a4⟩, ⟨a5, a6⟩, a7, a8⟩ := hb
  have hq : PR ⟨min (max p.x b.x0) b.x1, min (max p.y b.y0) b.y1⟩ := ⟨⟨by dsimp only; omega, by dsimp only; omega⟩, ⟨by dsimp only; omega, by dsimp only; omega⟩⟩
  rw [rDist_eq hp hq]
  have e : ∀ u lo hi : Int, lo ≤ hi → (u - min (max u lo) hi) * (u - min (max u lo) hi) = gapI u lo hi * gapI u lo hi := fun u lo hi h => by
    have : gapI u lo hi = u - min (max u lo) hi ∨ gapI u lo hi = -(u - min (max u lo) hi) := by unfold gapI; split <;> omega
    rcases this with h | h <;> rw [h]
    grind
  unfold distI nearI
  dsimp only
  rw [e _ _ _ hx, e _ _ _ hy]
theorem rMost_eq {b : B4} {p : P2} (hb : BR b) (hp : PR p) (hx : b.x0 ≤ b.x1) (hy : b.y0 ≤ b.y1) : rMost b p = mostI b p := by
  unfold rMost
  rw [rDist_eq hp ⟨hb.x0, hb.y0⟩, rDist_eq hp ⟨hb.x1, hb.y0⟩, rDist_eq hp ⟨hb.x0, hb.y1⟩, rDist_eq hp ⟨hb.x1, hb.y1⟩]
  simp only [imax_eq]
  have e : ∀ u lo hi : Int, lo ≤ hi → reachI u lo hi * reachI u lo hi = max ((u - lo) * (u - lo)) ((u - hi) * (u - hi)) := fun u lo hi h => by
    have h5 : (reachI u lo hi = u - lo ∧ -(u - lo) ≤ u - hi ∧ u - hi ≤ u - lo) ∨ (reachI u lo hi = -(u - hi) ∧ u - hi ≤ u - lo ∧ u - lo ≤ -(u - hi)) := by unfold reachI; omega
    rcases h5 with ⟨h6, h7, h8⟩ | ⟨h6, h7, h8⟩
    · have := sq_le h7 h8
      rw [h6]; omega
    · have := sq_le (x := u - lo) (y := -(u - hi)) (by omega) h8
      have e : -(u - hi) * -(u - hi) = (u - hi) * (u - hi) := by grind
      rw [h6, e]; rw [e] at this; omega
  unfold distI mostI
  dsimp only
  rw [e _ _ _ hx, e _ _ _ hy]
  omega
theorem rDiscHas_eq {p c : P2} {r : Int} (hp : PR p) (hc : PR c) (h1 : 1 ≤ r) (h2 : r ≤ 2147483648) : rDiscHas p c r = decide (distI p c ≤ r * r) := by
  have a := sq_bd (A := 2147483648) (x := r) (by omega) h2
  unfold rDiscHas
  rw [decide_eq_true (show r ≥ 1 by omega), rDist_eq hp hc, W_id (by omega) (by omega)]; rfl
theorem rDisc_eq {b : B4} {c : P2} {r : Int} (hb : BR b) (hc : PR c) (hx : b.x0 ≤ b.x1) (hy : b.y0 ≤ b.y1) (h1 : 1 ≤ r) (h2 : r ≤ 2147483648) : rDisc b c r = discClass b c r := by
  have a := sq_bd (A := 2147483648) (x := r) (by omega) h2
  rw [discClass_eq hb hc hx hy h1 h2]
  unfold rDisc
  rw [decide_eq_false (show ¬ r < 1 by omega), rNear_eq hb hc hx hy, rMost_eq hb hc hx hy, W_id (by omega) (by omega)]
  show (bif decide (nearI b c > r * r) then 0 else bif decide (mostI b c ≤ r * r) then 2 else 1) = _
  by_cases k : nearI b c > r * r
  · rw [decide_eq_true k, if_pos k]; rfl
  · rw [decide_eq_false k, if_neg k, bif_f]
    by_cases k' : mostI b c ≤ r * r
    · rw [decide_eq_true k', if_pos k']; rfl
    · rw [decide_eq_false k', if_neg k']; rfl

/-! ### DiscFar -/
def sel4 (i a b c d : Int) : Int := bif decide (i = ((0 : Nat) : Int)) then a else bif decide (i = ((1 : Nat) : Int)) then b else bif decide (i = ((2 : Nat) : Int)) then c else d
def dfC (at_ : Int) : P2 := ⟨sel4 (band at_ 3) 536870912 (W (0 - 536870912)) 536870912 (W (0 - 536870912)), sel4 (band at_ 3) 536870912 536870912 (W (0 - 536870912)) (W (0 - 536870912))⟩
def dfR (less : Int) : Int := W (536870912 - (lR less).tmod 1000)
def discFar (p0 : P2) (at_ less : Int) : Bool :=
  let c := dfC at_
  let p := lPt p0
  let r := dfR less
  let d := W (W (W (p.x - c.x) * W (p.x - c.x)) + W (W (p.y - c.y) * W (p.y - c.y)))
  let k := discClass ⟨p.x, p.y, p.x, p.y⟩ c r
  andB (andB (andB (discHas p c r == decide (d ≤ W (r * r))) ((k == 2) == decide (d ≤ W (r * r)))) ((k == 0) == decide (d > W (r * r)))) true
theorem discFar_true (p0 : P2) (at_ less : Int) : discFar p0 at_ less = true := by
  have hp := lPt_R p0
  have hc : PR (dfC at_) := by
    have e : W (0 - 536870912) = -536870912 := by decide
    have s : ∀ i a b c d : Int, (a = 536870912 ∨ a = -536870912) → (b = 536870912 ∨ b = -536870912) → (c = 536870912 ∨ c = -536870912) → (d = 536870912 ∨ d = -536870912) → In30 (sel4 i a b c d) := by
      intro i a b c d h1 h2 h3 h4
      have t : ∀ q1 q2 q3 : Bool, In30 (bif q1 then a else bif q2 then b else bif q3 then c else d) := by
        intro q1 q2 q3
        unfold In30
        cases q1 <;> cases q2 <;> cases q3 <;> simp only [cond_true, cond_false] <;> omega
      exact t _ _ _
    unfold dfC; rw [e]
    exact ⟨s _ _ _ _ _ (.inl rfl) (.inr rfl) (.inl rfl) (.inr rfl), s _ _ _ _ _ (.inl rfl) (.inl rfl) (.inr rfl) (.inr rfl)⟩
  have hr : 1 ≤ dfR less ∧ dfR less ≤ 536870912 := by
    have a := lR_bd less
    have b := Int.tmod_nonneg (a := lR less) 1000 (by omega)
    have c := (tmod_bd (lR less) (n := 1000) (by decide)).2
    unfold dfR; rw [W_id (by omega) (by omega)]; omega
  have h2 := sq_bd (A := 536870912) (x := dfR less) (by omega) hr.2
  have ed : W (W (W ((lPt p0).x - (dfC at_).x) * W ((lPt p0).x - (dfC at_).x)) + W (W ((lPt p0).y - (dfC at_).y) * W ((lPt p0).y - (dfC at_).y))) = distI (lPt p0) (dfC at_) := rDist_eq hp hc
  unfold discFar
  dsimp only
  rw [ed, discHas_eq hp hc hr.1 (by omega), W_id (x := dfR less * dfR less) (by omega) (by omega), discClass_eq (pt_BR hp) hc (by simp) (by simp) hr.1 (by omega)]
  have e1 : nearI ⟨(lPt p0).x, (lPt p0).y, (lPt p0).x, (lPt p0).y⟩ (dfC at_) = distI (lPt p0) (dfC at_) := by rw [dist_near]; unfold distI; grind
  have e2 : mostI ⟨(lPt p0).x, (lPt p0).y, (lPt p0).x, (lPt p0).y⟩ (dfC at_) = distI (lPt p0) (dfC at_) := by rw [dist_most]; unfold distI; grind
  rw [e1, e2]
  generalize distI (lPt p0) (dfC at_) = D; generalize dfR less * dfR less = R
  by_cases k : D > R
  · have k' : ¬ D ≤ R := by omega
    simp [k, k', andB]
  · have k' : D ≤ R := by omega
    simp [k, k', andB]

/-! ### DiscTells -/
def discTells0 (b : B4) (c : P2) (r : Int) (p : P2) (k : Int) : Bool :=
  andB (andB (andB (discClass b c r == rDisc b c r) (discHas p c r == rDiscHas p c r)) (orB (decide (k ≥ 1)) (andB (discClass b c k == 0) (!(discHas p c k))))) true
def lSmR (r m : Int) : Int := W (r.tmod m + 1)
theorem lSmR_bd {r m : Int} (h : 0 ≤ r) (h0 : 0 < m) (h1 : m ≤ 100) : 1 ≤ lSmR r m ∧ lSmR r m ≤ m := by
  have a := Int.tmod_nonneg (a := r) m h
  have b := (tmod_bd r h0).2
  unfold lSmR; rw [W_id (by omega) (by omega)]; omega
def discTells (b : B4) (c : P2) (r : Int) (p : P2) (small : Bool) : Bool :=
  bif small then discTells0 (lSmall (lBox b)) (lClose (lPt c) 20) (lSmR (lR r) 25) (lClose (lPt p) 20) r else discTells0 (lBox b) (lPt c) (lR r) (lPt p) r
theorem close_R (p : P2) {n : Int} (h0 : 0 ≤ n) (h1 : n ≤ 1073741823) : PR (lClose p n) := by
  obtain ⟨⟨a, b⟩, c, d⟩ := lClose_r p h0 (by omega)
  exact ⟨⟨by omega, by omega⟩, ⟨by omega, by omega⟩⟩
theorem discTells0_true {b : B4} {c : P2} {r : Int} {p : P2} (k : Int) (hb : BR b) (hc : PR c) (hp : PR p) (hx : b.x0 ≤ b.x1) (hy : b.y0 ≤ b.y1) (h1 : 1 ≤ r) (h2 : r ≤ 2147483648) : discTells0 b c r p k = true := by
  unfold discTells0
  rw [rDisc_eq hb hc hx hy h1 h2, discHas_eq hp hc h1 h2, rDiscHas_eq hp hc h1 h2]
  by_cases hk : k ≥ 1
  · simp [hk, andB, orB]
  · rw [discClass_no (show k < 1 by omega), discHas_no (show k < 1 by omega)]
    simp [andB, orB]
theorem discTells_true (b : B4) (c : P2) (r : Int) (p : P2) (small : Bool) : discTells b c r p small = true := by
  have a := lR_bd r
  unfold discTells
  cases small
  · have h := lBox_r b
    exact discTells0_true r (lBox_R b) (lPt_R c) (lPt_R p) h.2.1 h.2.2.2.2.1 a.1 (by omega)
  · have h := lSmall_r (lBox b)
    have e := lSmR_bd (r := lR r) (m := 25) (by omega) (by decide) (by decide)
    exact discTells0_true r (lSmall_R _) (close_R _ (by decide) (by decide)) (close_R _ (by decide) (by decide)) h.2.2.1 h.2.2.2.2.2.2.1 e.1 (by omega)
theorem n21 : W (20 + 1) ≠ 0 := by decide
end Go.Proofs.Ytfooaikpcbnchaa

/-! ## Bas -/
namespace Go.Proofs.Ytfooaikpcbnchaa
open Go Go.RowKit Sym
set_option maxRecDepth 100000

def barTells0 (b : B4) (a c : P2) (h : Int) (p : P2) (k : Int) : Bool :=
  andB (andB (andB (andB (barClass b a c h == rBar b a c h) (barHas p a c h == rBarHas p a c h)) (orB (decide (k ≥ 1)) (andB (barClass b a c k == 0) (!(barHas p a c k))))) (barClass b a a h == 0)) true
def barTells (b : B4) (a c : P2) (h : Int) (p : P2) (small : Bool) : Bool :=
  bif small then barTells0 (lSmall (lBox b)) (lClose (lPt a) 20) (lClose (lPt c) 20) (lSmR (lR h) 12) (lClose (lPt p) 20) h else barTells0 (lBox b) (lPt a) (lPt c) (lR h) (lPt p) h
theorem barTells0_true {b : B4} {a c : P2} {h : Int} {p : P2} (k : Int) (hb : BR b) (ha : PR a) (hc : PR c) (hp : PR p) (hx : b.x0 ≤ b.x1) (hy : b.y0 ≤ b.y1) (h2 : h ≤ 2147483648) : barTells0 b a c h p k = true := by
  unfold barTells0
  rw [barClass_eq hb ha hc hx hy h2, rBar_eq hb ha hc h2, barHas_eq hp ha hc h2, rBarHas_eq hp ha hc h2, barClass_void (barVoid_same a h)]
  by_cases hk : k ≥ 1
  · simp [hk, andB, orB]
  · rw [barClass_void (barVoid_lt (show k < 1 by omega)), barHas_void (barVoid_lt (show k < 1 by omega))]
    simp [andB, orB]
theorem barTells_true (b : B4) (a c : P2) (h : Int) (p : P2) (small : Bool) : barTells b a c h p small = true := by
  have r := lR_bd h
  unfold barTells
  cases small
  · have h := lBox_r b
    exact barTells0_true _ (lBox_R b) (lPt_R a) (lPt_R c) (lPt_R p) h.2.1 h.2.2.2.2.1 (by omega)
  · have hs := lSmall_r (lBox b)
    have e := lSmR_bd (r := lR h) (m := 12) (by omega) (by decide) (by decide)
    exact barTells0_true _ (lSmall_R _) (close_R _ (by decide) (by decide)) (close_R _ (by decide) (by decide)) (close_R _ (by decide) (by decide)) hs.2.2.1 hs.2.2.2.2.2.2.1 (by omega)
theorem n10 : W (9 + 1) ≠ 0 := by decide
theorem n41 : W (40 + 1) ≠ 0 := by decide

/-! ### BarParts -/
def addP (a d : P2) : P2 := ⟨W (a.x + d.x), W (a.y + d.y)⟩
def addP2 (a d : P2) : P2 := ⟨W (a.x + W (2 * d.x)), W (a.y + W (2 * d.y))⟩
def lMore (more : Int) : Int := (lR more).tmod 9
def barParts (b0 : B4) (a0 d0 : P2) (h0 : Int) (p0 : P2) (more : Int) : Bool :=
  let b := lSmall b0
  let a := lClose a0 20
  let d := lClose d0 9
  let p := lClose p0 40
  let h := lSmR (lR h0) 12
  let c := addP a d
  let e := addP2 a d
  let w := W (h + lMore more)
  andB (andB (andB (barHas p a e h == orB (barHas p a c h) (barHas p c e h)) (orB (!(barHas p a c h)) (barHas p a c w))) (orB (barClass b a c h != 2) (barClass b a e w == 2))) true
theorem lMore_bd (more : Int) : 0 ≤ lMore more ∧ lMore more ≤ 8 := by
  have a := lR_bd more
  have m0 := Int.tmod_nonneg (a := lR more) 9 (by omega)
  have m1 := (tmod_bd (lR more) (n := 9) (by decide)).2
  unfold lMore; omega
theorem addP_eq {a d : P2} {n m : Int} (ha : (-n ≤ a.x ∧ a.x ≤ n) ∧ (-n ≤ a.y ∧ a.y ≤ n)) (hd : (-m ≤ d.x ∧ d.x ≤ m) ∧ (-m ≤ d.y ∧ d.y ≤ m)) (hn : n ≤ 100) (hm : m ≤ 100) :
    addP a d = ⟨a.x + d.x, a.y + d.y⟩ ∧ addP2 a d = ⟨a.x + 2 * d.x, a.y + 2 * d.y⟩ := by
  unfold addP addP2
  rw [W_id (x := a.x + d.x) (by omega) (by omega), W_id (x := a.y + d.y) (by omega) (by omega), W_id (x := 2 * d.x) (by omega) (by omega), W_id (x := 2 * d.y) (by omega) (by omega),
    W_id (x := a.x + 2 * d.x) (by omega) (by omega), W_id (x := a.y + 2 * d.y) (by omega) (by omega)]
  exact ⟨rfl, rfl⟩
theorem PR_of {p : P2} {n : Int} (h : (-n ≤ p.x ∧ p.x ≤ n) ∧ (-n ≤ p.y ∧ p.y ≤ n)) (hn : n ≤ 1073741823) : PR p := ⟨⟨by omega, by omega⟩, ⟨by omega, by omega⟩⟩
theorem same_add (a d : P2) : same a ⟨a.x + d.x, a.y + d.y⟩ ↔ same ⟨0, 0⟩ d := by unfold same; dsimp only; omega
theorem same_add2 (a d : P2) : same a ⟨a.x + 2 * d.x, a.y + 2 * d.y⟩ ↔ same ⟨0, 0⟩ d := by unfold same; dsimp only; omega
theorem same_add12 (a d : P2) : same ⟨a.x + d.x, a.y + d.y⟩ ⟨a.x + 2 * d.x, a.y + 2 * d.y⟩ ↔ same ⟨0, 0⟩ d := by unfold same; dsimp only; omega
/-- with the length doubled -/
theorem clear_add2 (p a d : P2) (h : Int) : clear p a ⟨a.x + 2 * d.x, a.y + 2 * d.y⟩ h = clear p a ⟨a.x + d.x, a.y + d.y⟩ h := by
  unfold clear crossI distI; dsimp only
  refine decide_eq_decide.2 ?_
  have e1 : ((a.x + 2 * d.x - a.x) * (p.y - a.y) - (a.y + 2 * d.y - a.y) * (p.x - a.x)) = 2 * (d.x * (p.y - a.y) - d.y * (p.x - a.x)) := by grind
  have e2 : ((a.x + d.x - a.x) * (p.y - a.y) - (a.y + d.y - a.y) * (p.x - a.x)) = d.x * (p.y - a.y) - d.y * (p.x - a.x) := by grind
  have e3 : (a.x - (a.x + 2 * d.x)) * (a.x - (a.x + 2 * d.x)) + (a.y - (a.y + 2 * d.y)) * (a.y - (a.y + 2 * d.y)) = 4 * (d.x * d.x + d.y * d.y) := by grind
  have e4 : (a.x - (a.x + d.x)) * (a.x - (a.x + d.x)) + (a.y - (a.y + d.y)) * (a.y - (a.y + d.y)) = d.x * d.x + d.y * d.y := by grind
  rw [e1, e2, e3, e4]
  generalize d.x * (p.y - a.y) - d.y * (p.x - a.x) = K
  generalize d.x * d.x + d.y * d.y = L
  have f1 : 2 * K * (2 * K) = 4 * (K * K) := by grind
  have f2 : h * h * (4 * L) = 4 * (h * h * L) := by grind
  rw [f1, f2]; omega
theorem clear_add12 (p a d : P2) (h : Int) : clear p ⟨a.x + d.x, a.y + d.y⟩ ⟨a.x + 2 * d.x, a.y + 2 * d.y⟩ h = clear p a ⟨a.x + d.x, a.y + d.y⟩ h := by
  unfold clear crossI distI; dsimp only
  refine decide_eq_decide.2 ?_
  have e1 : ((a.x + 2 * d.x - (a.x + d.x)) * (p.y - (a.y + d.y)) - (a.y + 2 * d.y - (a.y + d.y)) * (p.x - (a.x + d.x))) = d.x * (p.y - a.y) - d.y * (p.x - a.x) := by grind
  have e2 : ((a.x + d.x - a.x) * (p.y - a.y) - (a.y + d.y - a.y) * (p.x - a.x)) = d.x * (p.y - a.y) - d.y * (p.x - a.x) := by grind
  have e3 : (a.x + d.x - (a.x + 2 * d.x)) * (a.x + d.x - (a.x + 2 * d.x)) + (a.y + d.y - (a.y + 2 * d.y)) * (a.y + d.y - (a.y + 2 * d.y)) = d.x * d.x + d.y * d.y := by grind
  have e4 : (a.x - (a.x + d.x)) * (a.x - (a.x + d.x)) + (a.y - (a.y + d.y)) * (a.y - (a.y + d.y)) = d.x * d.x + d.y * d.y := by grind
  rw [e1, e2, e3, e4]
theorem dots (p a d : P2) : dotI a ⟨a.x + 2 * d.x, a.y + 2 * d.y⟩ p = 2 * dotI a ⟨a.x + d.x, a.y + d.y⟩ p
    ∧ distI a ⟨a.x + 2 * d.x, a.y + 2 * d.y⟩ = 4 * distI a ⟨a.x + d.x, a.y + d.y⟩
    ∧ dotI ⟨a.x + d.x, a.y + d.y⟩ ⟨a.x + 2 * d.x, a.y + 2 * d.y⟩ p = dotI a ⟨a.x + d.x, a.y + d.y⟩ p - distI a ⟨a.x + d.x, a.y + d.y⟩
    ∧ distI ⟨a.x + d.x, a.y + d.y⟩ ⟨a.x + 2 * d.x, a.y + 2 * d.y⟩ = distI a ⟨a.x + d.x, a.y + d.y⟩ := by
  unfold dotI distI; dsimp only
  refine ⟨?_, ?_, ?_, ?_⟩ <;> grind
/-- more width is no less -/
theorem clear_mono {p a c : P2} {h w : Int} (h0 : 0 ≤ h) (hw : h ≤ w) (k : clear p a c h = true) : clear p a c w = true := by
  unfold clear at *
  simp only [decide_eq_true_eq] at *
  have := sq_le (x := h) (y := w) (by omega) hw
  have := Int.mul_nonneg (show 0 ≤ w * w - h * h by omega) (dist_nn a c)
  have e : (w * w - h * h) * distI a c = w * w * distI a c - h * h * distI a c := by grind
  omega
theorem barI_mono {p a c : P2} {h w : Int} (h0 : 0 ≤ h) (hw : h ≤ w) (k : barI p a c h = true) : barI p a c w = true := by
  unfold barI at *
  simp only [Bool.and_eq_true, decide_eq_true_eq] at *
  exact ⟨⟨⟨⟨k.1.1.1.1, by omega⟩, clear_mono h0 hw k.1.1.2⟩, k.1.2⟩, k.2⟩
theorem bar_two (p a d : P2) (h : Int) : barI p a ⟨a.x + 2 * d.x, a.y + 2 * d.y⟩ h = (barI p a ⟨a.x + d.x, a.y + d.y⟩ h || barI p ⟨a.x + d.x, a.y + d.y⟩ ⟨a.x + 2 * d.x, a.y + 2 * d.y⟩ h) := by
  unfold barI
  rw [clear_add2, clear_add12, decide_eq_decide.2 (same_add2 a d), decide_eq_decide.2 (same_add a d), decide_eq_decide.2 (same_add12 a d)]
  obtain ⟨e1, e2, e3, e4⟩ := dots p a d
  rw [e1, e2, e3, e4]
  have n := dist_nn a ⟨a.x + d.x, a.y + d.y⟩
  generalize dotI a ⟨a.x + d.x, a.y + d.y⟩ p = t at *
  generalize distI a ⟨a.x + d.x, a.y + d.y⟩ = L at *
  generalize clear p a ⟨a.x + d.x, a.y + d.y⟩ h = k
  generalize decide (same ⟨0, 0⟩ d) = s
  generalize decide (1 ≤ h) = o
  have x : (decide (0 ≤ 2 * t) && decide (2 * t ≤ 4 * L)) = ((decide (0 ≤ t) && decide (t ≤ L)) || (decide (0 ≤ t - L) && decide (t - L ≤ L))) := by
    rw [← Bool.decide_and, ← Bool.decide_and, ← Bool.decide_and, ← Bool.decide_or]
    refine decide_eq_decide.2 ?_; omega
  cases s <;> cases o <;> cases k <;> simp_all
theorem barCl_two {b : B4} {a c : P2} {h : Int} : barCl b a c h = 2 ↔ (¬ (h < 1 ∨ same a c) ∧ all4 (fun q => barI q a c h) b = true) := by
  unfold barCl
  by_cases k : h < 1 ∨ same a c
  · rw [if_pos k]; simp [k]
  · rw [if_neg k]
    cases all4 (fun q => barI q a c h) b
    · simp [k]; split <;> decide
    · simp [k]
theorem barParts_true (b : B4) (a d : P2) (h : Int) (p : P2) (more : Int) : barParts b a d h p more = true := by
  have ha := lClose_r a (n := 20) (by decide) (by decide)
  have hd := lClose_r d (n := 9) (by decide) (by decide)
  have hp := PR_of (lClose_r p (n := 40) (by decide) (by decide)) (by decide)
  have hr := lR_bd h
  have hh := lSmR_bd (r := lR h) (m := 12) (by omega) (by decide) (by decide)
  have hm := lMore_bd more
  have hs := lSmall_r b
  have hB := lSmall_R b
  unfold barParts
  dsimp only
  rw [(addP_eq ha hd (by decide) (by decide)).1, (addP_eq ha hd (by decide) (by decide)).2]
  generalize lClose a 20 = A at *
  generalize lClose d 9 = D at *
  generalize lClose p 40 = Q at *
  generalize lSmR (lR h) 12 = H at *
  generalize lMore more = M at *
  generalize lSmall b = B at *
  have hA : PR A := PR_of ha (by decide)
  have hC : PR ⟨A.x + D.x, A.y + D.y⟩ := ⟨⟨by dsimp only; omega, by dsimp only; omega⟩, ⟨by dsimp only; omega, by dsimp only; omega⟩⟩
  have hE : PR ⟨A.x + 2 * D.x, A.y + 2 * D.y⟩ := ⟨⟨by dsimp only; omega, by dsimp only; omega⟩, ⟨by dsimp only; omega, by dsimp only; omega⟩⟩
  rw [W_id (x := H + M) (by omega) (by omega)]
  rw [barHas_eq hp hA hE (by omega), barHas_eq hp hA hC (by omega), barHas_eq hp hC hE (by omega), barHas_eq hp hA hC (h := H + M) (by omega),
    barClass_eq hB hA hC hs.2.2.1 hs.2.2.2.2.2.2.1 (by omega), barClass_eq hB hA hE hs.2.2.1 hs.2.2.2.2.2.2.1 (by omega), bar_two]
  have m1 : barI Q A ⟨A.x + D.x, A.y + D.y⟩ H = true → barI Q A ⟨A.x + D.x, A.y + D.y⟩ (H + M) = true := barI_mono (by omega) (by omega)
  have m2 : barCl B A ⟨A.x + D.x, A.y + D.y⟩ H = 2 → barCl B A ⟨A.x + 2 * D.x, A.y + 2 * D.y⟩ (H + M) = 2 := by
    rw [barCl_two, barCl_two]
    rintro ⟨k1, k2⟩
    refine ⟨?_, all4_mono hB (fun q hq k => ?_) k2⟩
    · rw [same_add2]; rw [same_add] at k1
      rintro (x | x)
      · exact k1 (Or.inl (by omega))
      · exact k1 (Or.inr x)
    · have := barI_mono (w := H + M) (by omega) (by omega) k
      rw [bar_two, this, Bool.true_or]
  simp only [andB_eq, orB_eq, Bool.and_true, beq_self_eq_true, Bool.true_and]
  have f1 : (!barI Q A ⟨A.x + D.x, A.y + D.y⟩ H || barI Q A ⟨A.x + D.x, A.y + D.y⟩ (H + M)) = true := by
    cases k : barI Q A ⟨A.x + D.x, A.y + D.y⟩ H
    · rfl
    · rw [m1 k]; rfl
  have f2 : (barCl B A ⟨A.x + D.x, A.y + D.y⟩ H != 2 || barCl B A ⟨A.x + 2 * D.x, A.y + 2 * D.y⟩ (H + M) == 2) = true := by
    by_cases k : barCl B A ⟨A.x + D.x, A.y + D.y⟩ H = 2
    · rw [m2 k]; simp
    · simp [k]
  rw [f1, f2]; rfl
end Go.Proofs.Ytfooaikpcbnchaa

/-! ## Disd -/
namespace Go.Proofs.Ytfooaikpcbnchaa
open Go Go.RowKit Sym
set_option maxRecDepth 100000

theorem up_eq (c : Bool) {n : Int} (h0 : 0 ≤ n) (h1 : n ≤ 1000) : up c n = n + (if c then 1 else 0) := by
  unfold up
  cases c
  · simp
  · rw [bif_t, W_id (by omega) (by omega)]; simp
/-- four answers, counted -/
theorem cnt4_eq (f : P2 → Bool) (b : B4) : cnt4 f b = (if f ⟨b.x0, b.y0⟩ then 1 else 0) + (if f ⟨b.x1, b.y0⟩ then 1 else 0) + (if f ⟨b.x0, b.y1⟩ then 1 else 0) + (if f ⟨b.x1, b.y1⟩ then 1 else 0) := by
  unfold cnt4
  generalize f ⟨b.x0, b.y0⟩ = p; generalize f ⟨b.x1, b.y0⟩ = q; generalize f ⟨b.x0, b.y1⟩ = r; generalize f ⟨b.x1, b.y1⟩ = s
  cases p <;> cases q <;> cases r <;> cases s <;> decide
theorem cnt4_four (f : P2 → Bool) (b : B4) : cnt4 f b = 4 ↔ (f ⟨b.x0, b.y0⟩ = true ∧ f ⟨b.x1, b.y0⟩ = true ∧ f ⟨b.x0, b.y1⟩ = true ∧ f ⟨b.x1, b.y1⟩ = true) := by
  rw [cnt4_eq]
  generalize f ⟨b.x0, b.y0⟩ = p; generalize f ⟨b.x1, b.y0⟩ = q; generalize f ⟨b.x0, b.y1⟩ = r; generalize f ⟨b.x1, b.y1⟩ = s
  cases p <;> cases q <;> cases r <;> cases s <;> decide
theorem cnt4_zero (f : P2 → Bool) (b : B4) : cnt4 f b = 0 ↔ (f ⟨b.x0, b.y0⟩ = false ∧ f ⟨b.x1, b.y0⟩ = false ∧ f ⟨b.x0, b.y1⟩ = false ∧ f ⟨b.x1, b.y1⟩ = false) := by
  rw [cnt4_eq]
  generalize f ⟨b.x0, b.y0⟩ = p; generalize f ⟨b.x1, b.y0⟩ = q; generalize f ⟨b.x0, b.y1⟩ = r; generalize f ⟨b.x1, b.y1⟩ = s
  cases p <;> cases q <;> cases r <;> cases s <;> decide
theorem cnt4_bd (f : P2 → Bool) (b : B4) : 0 ≤ cnt4 f b ∧ cnt4 f b ≤ 4 := by
  rw [cnt4_eq]
  generalize f ⟨b.x0, b.y0⟩ = p; generalize f ⟨b.x1, b.y0⟩ = q; generalize f ⟨b.x0, b.y1⟩ = r; generalize f ⟨b.x1, b.y1⟩ = s
  cases p <;> cases q <;> cases r <;> cases s <;> decide

/-- the farthest point of a box is a corner -/
theorem most_corner {b : B4} {p : P2} (hx : b.x0 ≤ b.x1) (hy : b.y0 ≤ b.y1) : mostI b p = max (max (distI ⟨b.x0, b.y0⟩ p) (distI ⟨b.x1, b.y0⟩ p)) (max (distI ⟨b.x0, b.y1⟩ p) (distI ⟨b.x1, b.y1⟩ p)) := by
  have e : ∀ u lo hi : Int, lo ≤ hi → reachI u lo hi * reachI u lo hi = max ((lo - u) * (lo - u)) ((hi - u) * (hi - u)) := fun u lo hi h => by
    have h5 : (reachI u lo hi = -(lo - u) ∧ hi - u ≤ -(lo - u) ∧ lo - u ≤ hi - u) ∨ (reachI u lo hi = hi - u ∧ -(hi - u) ≤ lo - u ∧ lo - u ≤ hi - u) := by unfold reachI; omega
    rcases h5 with ⟨h6, h7, h8⟩ | ⟨h6, h7, h8⟩
    · have := sq_le (x := hi - u) (y := -(lo - u)) (by omega) h7
      have e : -(lo - u) * -(lo - u) = (lo - u) * (lo - u) := by grind
      rw [h6, e]; rw [e] at this; omega
    · have := sq_le h7 h8
      rw [h6]; omega
  unfold distI mostI
  dsimp only
  rw [e _ _ _ hx, e _ _ _ hy]
  omega
/-- the nearest point of a box -/
def nearest (b : B4) (p : P2) : P2 := ⟨min (max p.x b.x0) b.x1, min (max p.y b.y0) b.y1⟩
theorem near_nearest {b : B4} {p : P2} (hx : b.x0 ≤ b.x1) (hy : b.y0 ≤ b.y1) : nearI b p = distI (nearest b p) p := by
  have e : ∀ u lo hi : Int, lo ≤ hi → gapI u lo hi * gapI u lo hi = (min (max u lo) hi - u) * (min (max u lo) hi - u) := fun u lo hi h => by
    have : gapI u lo hi = min (max u lo) hi - u ∨ gapI u lo hi = -(min (max u lo) hi - u) := by unfold gapI; split <;> omega
    rcases this with h | h <;> rw [h]
    grind
  unfold distI nearI nearest
  dsimp only
  rw [e _ _ _ hx, e _ _ _ hy]
theorem distI_comm (p q : P2) : distI p q = distI q p := by unfold distI; grind

/-! ### DiscSure -/
def discSure0 (b : B4) (c : P2) (r x y : Int) : Bool :=
  let p := lIn b x y
  let k := discClass b c r
  let n := cnt4 (fun q => discHas q c r) b
  let z : P2 := ⟨imin (imax c.x b.x0) b.x1, imin (imax c.y b.y0) b.y1⟩
  bif orB (!((k == 2) == (n == 4))) ((k == 0) == discHas z c r) then false else
  andB (andB (andB (andB (orB (k != 2) (discHas p c r)) (orB (k != 0) (!(discHas p c r)))) (decide (k ≥ 0))) (decide (k ≤ 2))) true
def discSure (b : B4) (c : P2) (r x y : Int) (small : Bool) : Bool :=
  bif small then discSure0 (lSmall (lBox b)) (lClose (lPt c) 20) (lSmR (lR r) 25) x y else discSure0 (lBox b) (lPt c) (lR r) x y
theorem PR_of_has {b : B4} {p : P2} (hb : BR b) (h : hasI b p) : PR p := by
  obtain ⟨⟨a1, a2⟩, ⟨a3, a4⟩, ⟨a5, a6⟩, a7, a8⟩ := hb
  obtain ⟨h1, h2, h3, h4⟩ := h
  exact ⟨⟨by omega, by omega⟩, ⟨by omega, by omega⟩⟩
theorem discSure0_true {b : B4} {c : P2} {r : Int} (x y : Int) (hb : BR b) (hc : PR c) (hx : b.x0 ≤ b.x1) (hy : b.y0 ≤ b.y1) (h1 : 1 ≤ r) (h2 : r ≤ 2147483648) : discSure0 b c r x y = true := by
  have hp := (lIn_has x y hb hx hy).1
  have hz : hasI b (nearest b c) := by unfold nearest hasI; dsimp only; omega
  have ez : (⟨imin (imax c.x b.x0) b.x1, imin (imax c.y b.y0) b.y1⟩ : P2) = nearest b c := by simp only [imin_eq, imax_eq]; rfl
  have q1 : hasI b ⟨b.x0, b.y0⟩ := ⟨by simp, hx, by simp, hy⟩
  have q2 : hasI b ⟨b.x1, b.y0⟩ := ⟨hx, by simp, by simp, hy⟩
  have q3 : hasI b ⟨b.x0, b.y1⟩ := ⟨by simp, hx, hy, by simp⟩
  have q4 : hasI b ⟨b.x1, b.y1⟩ := ⟨hx, by simp, hy, by simp⟩
  have hn := cnt4_four (fun q => discHas q c r) b
  try dsimp only at hn
  rw [discHas_eq (PR_of_has hb q1) hc h1 h2, discHas_eq (PR_of_has hb q2) hc h1 h2, discHas_eq (PR_of_has hb q3) hc h1 h2, discHas_eq (PR_of_has hb q4) hc h1 h2] at hn
  simp only [decide_eq_true_eq] at hn
  have hm := most_corner (b := b) (p := c) hx hy
  have hnr := near_nearest (b := b) (p := c) hx hy
  have hpn := near_le (p := c) hp
  have hpm := most_ge (p := c) hp
  rw [distI_comm] at hpn hpm
  have nm := near_le (p := c) q1
  have nm2 := most_ge (p := c) q1
  unfold discSure0
  try dsimp only
  rw [ez, discHas_eq (PR_of_has hb hz) hc h1 h2, discHas_eq (PR_of_has hb hp) hc h1 h2, discClass_eq hb hc hx hy h1 h2]
  generalize cnt4 (fun q => discHas q c r) b = n at hn
  generalize r * r = R at *
  rw [← hnr]
  generalize nearI b c = N at *
  generalize mostI b c = MM at *
  generalize distI (lIn b x y) c = D at *
  by_cases k : N > R
  · have e4 : ¬ n = 4 := fun h => by have := hn.1 h; omega
    have k1 : ¬ N ≤ R := by omega
    have k2 : ¬ D ≤ R := by omega
    simp [k, k1, k2, e4, orB, andB]
  · by_cases k' : MM ≤ R
    · have e4 : n = 4 := hn.2 (by omega)
      have k1 : N ≤ R := by omega
      have k2 : D ≤ R := by omega
      simp [k, k', k1, k2, e4, orB, andB]
    · have e4 : ¬ n = 4 := fun h => by have := hn.1 h; omega
      have k1 : N ≤ R := by omega
      simp [k, k', k1, e4, orB, andB]
theorem discSure_true (b : B4) (c : P2) (r x y : Int) (small : Bool) : discSure b c r x y small = true := by
  have a := lR_bd r
  unfold discSure
  cases small
  · have h := lBox_r b
    exact discSure0_true x y (lBox_R b) (lPt_R c) h.2.1 h.2.2.2.2.1 a.1 (by omega)
  · have h := lSmall_r (lBox b)
    have e := lSmR_bd (r := lR r) (m := 25) (by omega) (by decide) (by decide)
    exact discSure0_true x y (lSmall_R _) (close_R _ (by decide) (by decide)) h.2.2.1 h.2.2.2.2.2.2.1 e.1 (by omega)
theorem lBox_In (b : B4) : lInOk (lBox b) := (lIn_has 0 0 (lBox_R b) (lBox_r b).2.1 (lBox_r b).2.2.2.2.1).2
theorem lSmall_In (b : B4) : lInOk (lSmall b) := (lIn_has 0 0 (lSmall_R b) (lSmall_r b).2.2.1 (lSmall_r b).2.2.2.2.2.2.1).2

/-! ### DiscMoves -/
def mvB (b : B4) (by_ : P2) : B4 := ⟨W (b.x0 + by_.x), W (b.y0 + by_.y), W (b.x1 + by_.x), W (b.y1 + by_.y)⟩
def mvP (p by_ : P2) : P2 := ⟨W (p.x + by_.x), W (p.y + by_.y)⟩
def tuB (b : B4) : B4 := ⟨W (0 - b.y1), b.x0, W (0 - b.y0), b.x1⟩
def tuP (p : P2) : P2 := ⟨W (0 - p.y), p.x⟩
def miB (b : B4) : B4 := ⟨W (0 - b.x1), b.y0, W (0 - b.x0), b.y1⟩
def miP (p : P2) : P2 := ⟨W (0 - p.x), p.y⟩
def discMoves (b0 : B4) (c0 : P2) (r0 : Int) (by0 : P2) (more : Int) : Bool :=
  let b := lSmall b0
  let c := lClose c0 20
  let by_ := lClose by0 100000000
  let r := lSmR (lR r0) 25
  let k := discClass b c r
  bif orB (orB (discClass (mvB b by_) (mvP c by_) r != k) (discClass (tuB b) (tuP c) r != k)) (discClass (miB b) (miP c) r != k) then false else
  let j := discClass ⟨b.x0, b.y0, b.x0, b.y1⟩ c r
  andB (andB (orB (k == 1) (j == k)) (decide (discClass b c (W (r + (lR more).tmod 9)) ≥ k))) true
theorem gapI_shift (v lo hi d : Int) : gapI (v + d) (lo + d) (hi + d) = gapI v lo hi := by unfold gapI; split <;> split <;> omega
theorem reachI_shift (v lo hi d : Int) : reachI (v + d) (lo + d) (hi + d) = reachI v lo hi := by unfold reachI; omega
theorem gapI_neg (v lo hi : Int) (h : lo ≤ hi) : gapI (-v) (-hi) (-lo) = gapI v lo hi := by
  unfold gapI; split
  · split
    · omega
    · split <;> omega
  · split
    · split <;> omega
    · split <;> (try split) <;> omega
theorem reachI_neg (v lo hi : Int) : reachI (-v) (-hi) (-lo) = reachI v lo hi := by unfold reachI; omega

theorem lSmall_R' {b : B4} (h : -19 ≤ b.x0 ∧ b.x0 ≤ b.x1 ∧ b.x1 ≤ 26 ∧ -19 ≤ b.y0 ∧ b.y0 ≤ b.y1 ∧ b.y1 ≤ 26) : BR b := ⟨⟨by omega, by omega⟩, ⟨by omega, by omega⟩, ⟨by omega, by omega⟩, ⟨by omega, by omega⟩⟩
theorem lSmall_s (b : B4) : -19 ≤ (lSmall b).x0 ∧ (lSmall b).x0 ≤ (lSmall b).x1 ∧ (lSmall b).x1 ≤ 26 ∧ -19 ≤ (lSmall b).y0 ∧ (lSmall b).y0 ≤ (lSmall b).y1 ∧ (lSmall b).y1 ≤ 26 := by
  have := lSmall_r b; omega
theorem mv_class {b : B4} {c d : P2} {r : Int} (hb : -19 ≤ b.x0 ∧ b.x0 ≤ b.x1 ∧ b.x1 ≤ 26 ∧ -19 ≤ b.y0 ∧ b.y0 ≤ b.y1 ∧ b.y1 ≤ 26) (hc : (-20 ≤ c.x ∧ c.x ≤ 20) ∧ (-20 ≤ c.y ∧ c.y ≤ 20)) (hd : (-100000000 ≤ d.x ∧ d.x ≤ 100000000) ∧ (-100000000 ≤ d.y ∧ d.y ≤ 100000000))
    (h1 : 1 ≤ r) (h2 : r ≤ 2147483648) : discClass (mvB b d) (mvP c d) r = discClass b c r := by
  have e1 : mvB b d = ⟨b.x0 + d.x, b.y0 + d.y, b.x1 + d.x, b.y1 + d.y⟩ := by
    unfold mvB; rw [W_id (by omega) (by omega), W_id (by omega) (by omega), W_id (by omega) (by omega), W_id (by omega) (by omega)]
  have e2 : mvP c d = ⟨c.x + d.x, c.y + d.y⟩ := by unfold mvP; rw [W_id (by omega) (by omega), W_id (by omega) (by omega)]
  rw [e1, e2]
  rw [discClass_eq (b := ⟨b.x0 + d.x, b.y0 + d.y, b.x1 + d.x, b.y1 + d.y⟩) (c := ⟨c.x + d.x, c.y + d.y⟩) ⟨⟨by dsimp only; omega, by dsimp only; omega⟩, ⟨by dsimp only; omega, by dsimp only; omega⟩, ⟨by dsimp only; omega, by dsimp only; omega⟩, ⟨by dsimp only; omega, by dsimp only; omega⟩⟩ ⟨⟨by dsimp only; omega, by dsimp only; omega⟩, ⟨by dsimp only; omega, by dsimp only; omega⟩⟩ (by dsimp only; omega) (by dsimp only; omega) h1 h2,
    discClass_eq (lSmall_R' hb) ⟨⟨by omega, by omega⟩, ⟨by omega, by omega⟩⟩ hb.2.1 hb.2.2.2.2.1 h1 h2]
  have n : nearI ⟨b.x0 + d.x, b.y0 + d.y, b.x1 + d.x, b.y1 + d.y⟩ ⟨c.x + d.x, c.y + d.y⟩ = nearI b c := by unfold nearI; dsimp only; rw [gapI_shift, gapI_shift]
  have m : mostI ⟨b.x0 + d.x, b.y0 + d.y, b.x1 + d.x, b.y1 + d.y⟩ ⟨c.x + d.x, c.y + d.y⟩ = mostI b c := by unfold mostI; dsimp only; rw [reachI_shift, reachI_shift]
  rw [n, m]
theorem tu_class {b : B4} {c : P2} {r : Int} (hb : -19 ≤ b.x0 ∧ b.x0 ≤ b.x1 ∧ b.x1 ≤ 26 ∧ -19 ≤ b.y0 ∧ b.y0 ≤ b.y1 ∧ b.y1 ≤ 26) (hc : (-20 ≤ c.x ∧ c.x ≤ 20) ∧ (-20 ≤ c.y ∧ c.y ≤ 20))
    (h1 : 1 ≤ r) (h2 : r ≤ 2147483648) : discClass (tuB b) (tuP c) r = discClass b c r := by
  have e1 : tuB b = ⟨-b.y1, b.x0, -b.y0, b.x1⟩ := by
    unfold tuB; rw [W_id (by omega) (by omega), W_id (by omega) (by omega)]; simp
  have e2 : tuP c = ⟨-c.y, c.x⟩ := by unfold tuP; rw [W_id (by omega) (by omega)]; simp
  rw [e1, e2]
  rw [discClass_eq (b := ⟨-b.y1, b.x0, -b.y0, b.x1⟩) (c := ⟨-c.y, c.x⟩) ⟨⟨by dsimp only; omega, by dsimp only; omega⟩, ⟨by dsimp only; omega, by dsimp only; omega⟩, ⟨by dsimp only; omega, by dsimp only; omega⟩, ⟨by dsimp only; omega, by dsimp only; omega⟩⟩ ⟨⟨by dsimp only; omega, by dsimp only; omega⟩, ⟨by dsimp only; omega, by dsimp only; omega⟩⟩ (by dsimp only; omega) (by dsimp only; omega) h1 h2,
    discClass_eq (lSmall_R' hb) ⟨⟨by omega, by omega⟩, ⟨by omega, by omega⟩⟩ hb.2.1 hb.2.2.2.2.1 h1 h2]
  have n : nearI ⟨-b.y1, b.x0, -b.y0, b.x1⟩ ⟨-c.y, c.x⟩ = nearI b c := by unfold nearI; dsimp only; rw [gapI_neg _ _ _ (by omega)]; omega
  have m : mostI ⟨-b.y1, b.x0, -b.y0, b.x1⟩ ⟨-c.y, c.x⟩ = mostI b c := by unfold mostI; dsimp only; rw [reachI_neg]; omega
  rw [n, m]
theorem mi_class {b : B4} {c : P2} {r : Int} (hb : -19 ≤ b.x0 ∧ b.x0 ≤ b.x1 ∧ b.x1 ≤ 26 ∧ -19 ≤ b.y0 ∧ b.y0 ≤ b.y1 ∧ b.y1 ≤ 26) (hc : (-20 ≤ c.x ∧ c.x ≤ 20) ∧ (-20 ≤ c.y ∧ c.y ≤ 20))
    (h1 : 1 ≤ r) (h2 : r ≤ 2147483648) : discClass (miB b) (miP c) r = discClass b c r := by
  have e1 : miB b = ⟨-b.x1, b.y0, -b.x0, b.y1⟩ := by
    unfold miB; rw [W_id (by omega) (by omega), W_id (by omega) (by omega)]; simp
  have e2 : miP c = ⟨-c.x, c.y⟩ := by unfold miP; rw [W_id (by omega) (by omega)]; simp
  rw [e1, e2]
  rw [discClass_eq (b := ⟨-b.x1, b.y0, -b.x0, b.y1⟩) (c := ⟨-c.x, c.y⟩) ⟨⟨by dsimp only; omega, by dsimp only; omega⟩, ⟨by dsimp only; omega, by dsimp only; omega⟩, ⟨by dsimp only; omega, by dsimp only; omega⟩, ⟨by dsimp only; omega, by dsimp only; omega⟩⟩ ⟨⟨by dsimp only; omega, by dsimp only; omega⟩, ⟨by dsimp only; omega, by dsimp only; omega⟩⟩ (by dsimp only; omega) (by dsimp only; omega) h1 h2,
    discClass_eq (lSmall_R' hb) ⟨⟨by omega, by omega⟩, ⟨by omega, by omega⟩⟩ hb.2.1 hb.2.2.2.2.1 h1 h2]
  have n : nearI ⟨-b.x1, b.y0, -b.x0, b.y1⟩ ⟨-c.x, c.y⟩ = nearI b c := by unfold nearI; dsimp only; rw [gapI_neg _ _ _ (by omega)]
  have m : mostI ⟨-b.x1, b.y0, -b.x0, b.y1⟩ ⟨-c.x, c.y⟩ = mostI b c := by unfold mostI; dsimp only; rw [reachI_neg]
  rw [n, m]
/-- a part of a box is no nearer and no farther -/
theorem part_le {b s : B4} {c : P2} (h0 : b.x0 ≤ s.x0) (h1 : s.x0 ≤ s.x1) (h2 : s.x1 ≤ b.x1) (h3 : b.y0 ≤ s.y0) (h4 : s.y0 ≤ s.y1) (h5 : s.y1 ≤ b.y1) : nearI b c ≤ nearI s c ∧ mostI s c ≤ mostI b c := by
  have hz : hasI s (nearest s c) := by unfold nearest hasI; dsimp only; omega
  have hzb : hasI b (nearest s c) := by obtain ⟨a1, a2, a3, a4⟩ := hz; exact ⟨by omega, by omega, by omega, by omega⟩
  refine ⟨?_, ?_⟩
  · rw [near_nearest (b := s) h1 h4, distI_comm]; exact near_le hzb
  · rw [most_corner (b := s) h1 h4]
    have a := most_ge (b := b) (p := c) (q := ⟨s.x0, s.y0⟩) ⟨by dsimp only; omega, by dsimp only; omega, by dsimp only; omega, by dsimp only; omega⟩
    have d := most_ge (b := b) (p := c) (q := ⟨s.x1, s.y0⟩) ⟨by dsimp only; omega, by dsimp only; omega, by dsimp only; omega, by dsimp only; omega⟩
    have e := most_ge (b := b) (p := c) (q := ⟨s.x0, s.y1⟩) ⟨by dsimp only; omega, by dsimp only; omega, by dsimp only; omega, by dsimp only; omega⟩
    have f := most_ge (b := b) (p := c) (q := ⟨s.x1, s.y1⟩) ⟨by dsimp only; omega, by dsimp only; omega, by dsimp only; omega, by dsimp only; omega⟩
    rw [distI_comm] at a d e f
    omega
theorem discMoves_true (b : B4) (c : P2) (r : Int) (by_ : P2) (more : Int) : discMoves b c r by_ more = true := by
  have hb := lSmall_s b
  have hc := lClose_r c (n := 20) (by decide) (by decide)
  have hd := lClose_r by_ (n := 100000000) (by decide) (by decide)
  have a := lR_bd r
  have hr := lSmR_bd (r := lR r) (m := 25) (by omega) (by decide) (by decide)
  have a2 := lR_bd more
  have m0 := Int.tmod_nonneg (a := lR more) 9 (by omega)
  have m1 := (tmod_bd (lR more) (n := 9) (by decide)).2
  unfold discMoves
  try dsimp only
  rw [mv_class hb hc hd hr.1 (by omega), tu_class hb hc hr.1 (by omega), mi_class hb hc hr.1 (by omega), W_id (by omega) (by omega)]
  have hB := lSmall_R' hb
  have hC : PR (lClose c 20) := close_R _ (by decide) (by decide)
  rw [discClass_eq hB hC hb.2.1 hb.2.2.2.2.1 hr.1 (by omega), discClass_eq hB hC hb.2.1 hb.2.2.2.2.1 (r := lSmR (lR r) 25 + (lR more).tmod 9) (by omega) (by omega),
    discClass_eq (b := ⟨(lSmall b).x0, (lSmall b).y0, (lSmall b).x0, (lSmall b).y1⟩) ⟨hB.x0, hB.y0, hB.x0, hB.y1⟩ hC (by simp) hb.2.2.2.2.1 hr.1 (by omega)]
  have hp := part_le (b := lSmall b) (s := ⟨(lSmall b).x0, (lSmall b).y0, (lSmall b).x0, (lSmall b).y1⟩) (c := lClose c 20) (by simp) (by simp) hb.2.1 (by simp) hb.2.2.2.2.1 (by simp)
  have hpp := part_le (b := ⟨(lSmall b).x0, (lSmall b).y0, (lSmall b).x0, (lSmall b).y1⟩) (s := ⟨(lSmall b).x0, (lSmall b).y0, (lSmall b).x0, (lSmall b).y0⟩) (c := lClose c 20) (by simp) (by simp) (by simp) (by simp) (by simp) hb.2.2.2.2.1
  have hs1 := near_le (p := lClose c 20) (show hasI ⟨(lSmall b).x0, (lSmall b).y0, (lSmall b).x0, (lSmall b).y1⟩ ⟨(lSmall b).x0, (lSmall b).y0⟩ from ⟨by simp, by simp, by simp, hb.2.2.2.2.1⟩)
  have hs2 := most_ge (p := lClose c 20) (show hasI ⟨(lSmall b).x0, (lSmall b).y0, (lSmall b).x0, (lSmall b).y1⟩ ⟨(lSmall b).x0, (lSmall b).y0⟩ from ⟨by simp, by simp, by simp, hb.2.2.2.2.1⟩)
  have hrr := sq_le (x := lSmR (lR r) 25) (y := lSmR (lR r) 25 + (lR more).tmod 9) (by omega) (by omega)
  generalize (lSmR (lR r) 25 + (lR more).tmod 9) * (lSmR (lR r) 25 + (lR more).tmod 9) = R2 at *
  generalize lSmR (lR r) 25 * lSmR (lR r) 25 = R1 at *
  generalize nearI (lSmall b) (lClose c 20) = N1 at *
  generalize mostI (lSmall b) (lClose c 20) = M1 at *
  generalize nearI ⟨(lSmall b).x0, (lSmall b).y0, (lSmall b).x0, (lSmall b).y1⟩ (lClose c 20) = N2 at *
  generalize mostI ⟨(lSmall b).x0, (lSmall b).y0, (lSmall b).x0, (lSmall b).y1⟩ (lClose c 20) = M2 at *
  generalize distI (lClose c 20) ⟨(lSmall b).x0, (lSmall b).y0⟩ = D at *
  by_cases k : N1 > R1
  · have k1 : N2 > R1 := by omega
    simp [k, k1, orB, andB]
    split <;> (try split) <;> decide
  · by_cases k' : M1 ≤ R1
    · have k1 : ¬ N2 > R1 := by omega
      have k2 : M2 ≤ R1 := by omega
      have k3 : ¬ N1 > R2 := by omega
      have k4 : M1 ≤ R2 := by omega
      simp [k, k', k1, k2, k3, k4, orB, andB]
    · have k3 : ¬ N1 > R2 := by omega
      simp [k, k', k3, orB, andB]
      split <;> decide
theorem nBig : W (100000000 + 1) ≠ 0 := by decide
end Go.Proofs.Ytfooaikpcbnchaa

/-! ## Bat -/
namespace Go.Proofs.Ytfooaikpcbnchaa
open Go Go.RowKit Sym
set_option maxRecDepth 100000

def barSure0 (b : B4) (a c : P2) (h x y : Int) : Bool :=
  let k := barClass b a c h
  let i := barHas (lIn b x y) a c h
  let n := cnt4 (fun q => barHas q a c h) b
  andB (andB (andB (andB (andB ((k == 2) == (n == 4)) (orB (k != 2) i)) (orB (k != 0) (andB (!i) (n == 0)))) (decide (k ≥ 0))) (decide (k ≤ 2))) true
def barSure (b : B4) (a c : P2) (h x y : Int) (small : Bool) : Bool :=
  bif small then barSure0 (lSmall (lBox b)) (lClose (lPt a) 20) (lClose (lPt c) 20) (lSmR (lR h) 12) x y else barSure0 (lBox b) (lPt a) (lPt c) (lR h) x y
theorem PR_has {b : B4} {p : P2} (hb : BR b) (h : hasI b p) : PR p := by
  obtain ⟨⟨a1, a2⟩, ⟨a3, a4⟩, ⟨a5, a6⟩, a7, a8⟩ := hb
  obtain ⟨h1, h2, h3, h4⟩ := h
  exact ⟨⟨by omega, by omega⟩, ⟨by omega, by omega⟩⟩
theorem barI_iff {p a c : P2} {h : Int} : barI p a c h = true ↔ ¬ same a c ∧ 1 ≤ h ∧ clear p a c h = true ∧ 0 ≤ dotI a c p ∧ dotI a c p ≤ distI a c := by
  unfold barI
  simp only [Bool.and_eq_true, decide_eq_true_eq, Bool.not_eq_true', decide_eq_false_iff_not, and_assoc]
theorem bar_in {b : B4} {q a c : P2} {h : Int} (hq : hasI b q) (hk : all4 (fun q => barI q a c h) b = true) : barI q a c h = true := by
  rw [all4_iff] at hk
  simp only [barI_iff] at hk ⊢
  obtain ⟨k0, hc0, -⟩ := dot_le a c hq
  have h0 := hk k0 hc0
  refine ⟨h0.1, h0.2.1, clear_in hq fun k hc => (hk k hc).2.2.1, ?_, ?_⟩
  · obtain ⟨k, hc, hl⟩ := dot_le a c hq
    have := (hk k hc).2.2.2.1; omega
  · obtain ⟨k, hc, hl⟩ := dot_ge a c hq
    have := (hk k hc).2.2.2.2; omega
theorem bar_out {b : B4} {q a c : P2} {h : Int} (hq : hasI b q) (hk : barCl b a c h = 0) : barI q a c h = false := by
  cases hi : barI q a c h
  · rfl
  · exfalso
    rw [barI_iff] at hi
    obtain ⟨s, h1, cl, d0, d1⟩ := hi
    unfold barCl at hk
    rw [if_neg (by rintro (x | x); omega; exact s x)] at hk
    cases k2 : all4 (fun q => barI q a c h) b
    · rw [k2] at hk
      simp only [Bool.false_eq_true, if_false] at hk
      have k3 : (all4 (rightI a c h) b || all4 (leftI a c h) b || all4 (fun q => decide (dotI a c q < 0)) b || all4 (fun q => decide (dotI a c q > distI a c)) b) = true := by
        cases e : (all4 (rightI a c h) b || all4 (leftI a c h) b || all4 (fun q => decide (dotI a c q < 0)) b || all4 (fun q => decide (dotI a c q > distI a c)) b)
        · rw [e] at hk; cases hk
        · rfl
      simp only [Bool.or_eq_true, all4_iff] at k3
      unfold clear at cl
      rw [decide_eq_true_eq] at cl
      rcases k3 with ((k3 | k3) | k3) | k3
      · obtain ⟨k, hc, hl⟩ := cross_ge a c hq
        have e := k3 k hc
        unfold rightI clear at e
        simp only [Bool.and_eq_true, Bool.not_eq_true', decide_eq_false_iff_not] at e
        have t := sq_le (x := -crossI a c k) (y := -crossI a c q) (by omega) (by omega)
        have e1 : -crossI a c k * -crossI a c k = crossI a c k * crossI a c k := by grind
        have e2 : -crossI a c q * -crossI a c q = crossI a c q * crossI a c q := by grind
        omega
      · obtain ⟨k, hc, hl⟩ := cross_le a c hq
        have e := k3 k hc
        unfold leftI clear at e
        simp only [Bool.and_eq_true, Bool.not_eq_true', decide_eq_false_iff_not, decide_eq_true_eq] at e
        have t := sq_le (x := crossI a c k) (y := crossI a c q) (by omega) (by omega)
        omega
      · obtain ⟨k, hc, hl⟩ := dot_ge a c hq
        have e := k3 k hc
        simp only [decide_eq_true_eq] at e; omega
      · obtain ⟨k, hc, hl⟩ := dot_le a c hq
        have e := k3 k hc
        simp only [decide_eq_true_eq] at e; omega
    · rw [k2] at hk; simp at hk
theorem barCl_012 (b : B4) (a c : P2) (h : Int) : barCl b a c h = 0 ∨ barCl b a c h = 1 ∨ barCl b a c h = 2 := by
  unfold barCl
  by_cases k : h < 1 ∨ same a c
  · rw [if_pos k]; simp
  · rw [if_neg k]; split
    · simp
    · split <;> simp
theorem barSure0_true {b : B4} {a c : P2} {h : Int} (x y : Int) (hb : BR b) (ha : PR a) (hc : PR c) (hx : b.x0 ≤ b.x1) (hy : b.y0 ≤ b.y1) (h1 : 1 ≤ h) (h2 : h ≤ 2147483648) : barSure0 b a c h x y = true := by
  have hq := (lIn_has x y hb hx hy).1
  have hQ := PR_has hb hq
  unfold barSure0
  dsimp only
  have e1 : all4 (fun q => barHas q a c h) b = all4 (fun q => barI q a c h) b := all4_congr hb fun q hq => barHas_eq hq ha hc h2
  have e2 : any4 (fun q => barHas q a c h) b = any4 (fun q => barI q a c h) b := any4_congr hb fun q hq => barHas_eq hq ha hc h2
  rw [barClass_eq hb ha hc hx hy h2, barHas_eq hQ ha hc h2, cnt4_all, cnt4_none, e1, e2]
  have f1 : (barCl b a c h == 2) = all4 (fun q => barI q a c h) b := by
    rw [Bool.eq_iff_iff, beq_iff_eq, barCl_two]
    constructor
    · exact fun k => k.2
    · intro k
      refine ⟨?_, k⟩
      have := bar_in hq k
      rw [barI_iff] at this
      rintro (z | z)
      · omega
      · exact this.1 z
  have f2 : barCl b a c h = 2 → barI (lIn b x y) a c h = true := fun k => bar_in hq (barCl_two.1 k).2
  have f3 : barCl b a c h = 0 → barI (lIn b x y) a c h = false ∧ any4 (fun q => barI q a c h) b = false := fun k => by
    refine ⟨bar_out hq k, ?_⟩
    cases e : any4 (fun q => barI q a c h) b
    · rfl
    · obtain ⟨q, hqc, hqi⟩ := any4_iff.1 e
      rw [bar_out (isC_has hx hy hqc) k] at hqi; cases hqi
  rw [f1]
  simp only [beq_self_eq_true, andB_eq, orB_eq, Bool.true_and, Bool.and_true]
  rcases barCl_012 b a c h with k | k | k
  · rw [k, (f3 k).1, (f3 k).2]; rfl
  · rw [k]; rfl
  · rw [k, f2 k]; rfl
theorem barSure_true (b : B4) (a c : P2) (h x y : Int) (small : Bool) : barSure b a c h x y small = true := by
  have r := lR_bd h
  unfold barSure
  cases small
  · have hs := lBox_r b
    exact barSure0_true _ _ (lBox_R b) (lPt_R a) (lPt_R c) hs.2.1 hs.2.2.2.2.1 (by omega) (by omega)
  · have hs := lSmall_r (lBox b)
    have e := lSmR_bd (r := lR h) (m := 12) (by omega) (by decide) (by decide)
    exact barSure0_true _ _ (lSmall_R _) (close_R _ (by decide) (by decide)) (close_R _ (by decide) (by decide)) hs.2.2.1 hs.2.2.2.2.2.2.1 (by omega) (by omega)

/-! ### BarLine -/
def barLine (a0 c0 : P2) (h0 : Int) (p0 : P2) : Bool :=
  let a := lClose a0 20
  let c := lClose c0 20
  let p := lClose p0 40
  let h := lSmR (lR h0) 12
  let d := rDot a c p
  let long := rDist c a
  let i := barHas p a c h
  andB (andB (i == andB (andB (andB (!(ptEq a c)) (decide (d ≥ 0))) (decide (d ≤ long))) (lineHas p a c h)) (barHas p c a h == i)) true
theorem lineI_bar {p a c : P2} {h : Int} (hs : ¬ same a c) (d0 : 0 ≤ dotI a c p) (d1 : dotI a c p ≤ distI a c) : lineI p a c h = clear p a c h := by
  have n := dist_nn a c
  have nz : distI a c ≠ 0 := fun x => hs ((dist_pos a c).1 x)
  have l1 := lagrange a c p; have l2 := lagrange2 a c p
  unfold lineI clear
  have mono : ∀ u v : Int, (distI a c * u ≤ v * distI a c) ↔ u ≤ v := fun u v => by
    rw [Int.mul_comm v]
    exact Int.mul_le_mul_left (by omega)
  by_cases k : dotI a c p ≤ 0
  · rw [if_pos k]
    have : dotI a c p = 0 := by omega
    rw [this] at l1
    refine decide_eq_decide.2 ?_
    rw [← mono, l1]; simp
  · rw [if_neg k]
    by_cases k' : dotI a c p ≥ distI a c
    · rw [if_pos k']
      have : dotI a c p - distI a c = 0 := by omega
      rw [this] at l2
      refine decide_eq_decide.2 ?_
      rw [← mono, l2]; simp
    · rw [if_neg k']
theorem flips (a c p : P2) : crossI c a p = -crossI a c p ∧ dotI c a p = distI a c - dotI a c p ∧ distI c a = distI a c := by
  unfold crossI dotI distI; refine ⟨?_, ?_, ?_⟩ <;> grind
theorem clear_flip (p a c : P2) (h : Int) : clear p c a h = clear p a c h := by
  obtain ⟨e1, e2, e3⟩ := flips a c p
  unfold clear
  rw [e1, e3]
  have : -crossI a c p * -crossI a c p = crossI a c p * crossI a c p := by grind
  rw [this]
theorem barI_flip (p a c : P2) (h : Int) : barI p c a h = barI p a c h := by
  obtain ⟨e1, e2, e3⟩ := flips a c p
  have e : decide (same c a) = decide (same a c) := decide_eq_decide.2 (by unfold same; omega)
  unfold barI
  rw [clear_flip, e2, e3, e]
  have f1 : decide (0 ≤ distI a c - dotI a c p) = decide (dotI a c p ≤ distI a c) := decide_eq_decide.2 (by omega)
  have f2 : decide (distI a c - dotI a c p ≤ distI a c) = decide (0 ≤ dotI a c p) := decide_eq_decide.2 (by omega)
  rw [f1, f2]
  cases decide (0 ≤ dotI a c p) <;> cases decide (dotI a c p ≤ distI a c) <;> simp
theorem barLine_true (a c : P2) (h : Int) (p : P2) : barLine a c h p = true := by
  have hr := lR_bd h
  have hh := lSmR_bd (r := lR h) (m := 12) (by omega) (by decide) (by decide)
  have hA : PR (lClose a 20) := close_R _ (by decide) (by decide)
  have hC : PR (lClose c 20) := close_R _ (by decide) (by decide)
  have hP : PR (lClose p 40) := close_R _ (by decide) (by decide)
  unfold barLine
  dsimp only
  generalize lClose a 20 = A at *
  generalize lClose c 20 = C at *
  generalize lClose p 40 = Q at *
  generalize lSmR (lR h) 12 = H at *
  rw [barHas_eq hP hA hC (by omega), barHas_eq hP hC hA (by omega), barI_flip Q A C, lineHas_eq hP hA hC (by omega) (by omega), (rDot_eq hA hC hP).1, (rDist_eq2 hC hA).1, (flips A C Q).2.2, ptEq_eq]
  simp only [andB_eq, beq_self_eq_true, Bool.and_true]
  rw [beq_iff_eq, Bool.eq_iff_iff, barI_iff]
  simp only [Bool.and_eq_true, decide_eq_true_eq, Bool.not_eq_true', decide_eq_false_iff_not]
  constructor
  · rintro ⟨s, _, k, d0, d1⟩
    exact ⟨⟨⟨s, d0⟩, d1⟩, by rw [lineI_bar s d0 d1]; exact k⟩
  · rintro ⟨⟨⟨s, d0⟩, d1⟩, k⟩
    rw [lineI_bar s d0 d1] at k
    exact ⟨s, by omega, k, d0, d1⟩
end Go.Proofs.Ytfooaikpcbnchaa

/-! ## Lio -/
namespace Go.Proofs.Ytfooaikpcbnchaa
open Go Go.RowKit Sym
set_option maxRecDepth 100000

/-- the point at m / n of the segment is near p: the square of the distance is at most R -/
structure Seg (p a c : P2) (R m n : Int) : Prop where
  n0 : 0 < n
  m0 : 0 ≤ m
  mn : m ≤ n
  d : (n * (p.x - a.x) - m * (c.x - a.x)) * (n * (p.x - a.x) - m * (c.x - a.x)) + (n * (p.y - a.y) - m * (c.y - a.y)) * (n * (p.y - a.y) - m * (c.y - a.y)) ≤ n * n * R
def OnS (p a c : P2) (R : Int) : Prop := ∃ m n, Seg p a c R m n
theorem sq_pos {n : Int} (h : 0 < n) : 0 < n * n := Int.mul_pos h h
theorem seg_norm (p a c : P2) (m n : Int) : (n * (p.x - a.x) - m * (c.x - a.x)) * (n * (p.x - a.x) - m * (c.x - a.x)) + (n * (p.y - a.y) - m * (c.y - a.y)) * (n * (p.y - a.y) - m * (c.y - a.y))
    = n * n * distI p a - 2 * (n * m * dotI a c p) + m * m * distI a c := by unfold distI dotI; grind
theorem lineI_iff {p a c : P2} {r : Int} : lineI p a c r = true ↔ OnS p a c (r * r) := by
  have hL := dist_nn a c
  have l1 := lagrange a c p
  have l2 := lagrange2 a c p
  generalize hR : r * r = R
  have hRn : 0 ≤ R := hR ▸ sq_nn r
  unfold lineI clear
  rw [hR]
  constructor
  · intro h
    by_cases k : dotI a c p ≤ 0
    · rw [if_pos k, decide_eq_true_eq] at h
      exact ⟨0, 1, by decide, by decide, by decide, by rw [seg_norm]; omega⟩
    · rw [if_neg k] at h
      by_cases k' : dotI a c p ≥ distI a c
      · rw [if_pos k', decide_eq_true_eq] at h
        refine ⟨1, 1, by decide, by decide, by decide, ?_⟩
        have : (1 * (p.x - a.x) - 1 * (c.x - a.x)) * (1 * (p.x - a.x) - 1 * (c.x - a.x)) + (1 * (p.y - a.y) - 1 * (c.y - a.y)) * (1 * (p.y - a.y) - 1 * (c.y - a.y)) = distI p c := by unfold distI; grind
        omega
      · rw [if_neg k', decide_eq_true_eq] at h
        refine ⟨dotI a c p, distI a c, by omega, by omega, by omega, ?_⟩
        rw [seg_norm]
        have g := Int.mul_le_mul_of_nonneg_left h hL
        clear l2 k k' h
        generalize dotI a c p = T at *
        generalize distI a c = L at *
        generalize crossI a c p = K at *
        generalize distI p a = A at *
        have e1 : L * L * A = L * (T * T + K * K) := by rw [← l1]; grind
        have e2 : L * (T * T + K * K) - 2 * (L * T * T) + T * T * L = L * (K * K) := by grind
        have e3 : L * L * R = L * (R * L) := by grind
        rw [e1, e2, e3]; exact g
  · rintro ⟨m, n, n0, m0, mn, h⟩
    rw [seg_norm] at h
    have hn := sq_pos n0
    by_cases k : dotI a c p ≤ 0
    · rw [if_pos k, decide_eq_true_eq]
      have e1 := Int.mul_nonneg (Int.mul_nonneg (show 0 ≤ n by omega) m0) (show 0 ≤ -dotI a c p by omega)
      have e2 := Int.mul_nonneg (Int.mul_nonneg m0 m0) hL
      have e3 : n * m * -dotI a c p = -(n * m * dotI a c p) := by grind
      exact Int.le_of_mul_le_mul_left (a := n * n) (by omega) hn
    · rw [if_neg k]
      by_cases k' : dotI a c p ≥ distI a c
      · rw [if_pos k', decide_eq_true_eq]
        have e0 : distI p c = distI p a - 2 * dotI a c p + distI a c := by unfold distI dotI; grind
        have e1 := Int.mul_nonneg (Int.mul_nonneg (show 0 ≤ n by omega) (show 0 ≤ n - m by omega)) (show 0 ≤ dotI a c p - distI a c by omega)
        have e2 := Int.mul_nonneg (Int.mul_nonneg (show 0 ≤ n - m by omega) (show 0 ≤ n - m by omega)) hL
        refine Int.le_of_mul_le_mul_left (a := n * n) ?_ hn
        rw [e0]
        generalize distI p a = A at *
        generalize dotI a c p = T at *
        generalize distI a c = L at *
        grind
      · rw [if_neg k', decide_eq_true_eq]
        have e1 := Int.mul_le_mul_of_nonneg_left h hL
        have e2 := sq_nn (n * dotI a c p - m * distI a c)
        refine Int.le_of_mul_le_mul_left (a := n * n) ?_ hn
        generalize dotI a c p = T at *
        generalize distI a c = L at *
        generalize crossI a c p = K at *
        generalize distI p a = A at *
        have e3 : L * (n * n * A - 2 * (n * m * T) + m * m * L) = n * n * (L * A) - 2 * (n * m * (T * L)) + m * m * (L * L) := by grind
        rw [e3, l1] at e1
        have e4 : n * n * (T * T + K * K) - 2 * (n * m * (T * L)) + m * m * (L * L) = (n * T - m * L) * (n * T - m * L) + n * n * (K * K) := by grind
        have e5 : L * (n * n * R) = n * n * (R * L) := by grind
        rw [e4, e5] at e1
        omega

/-! ### strokes are convex -/
theorem conv2 {x1 y1 x2 y2 u v S : Int} (h1 : x1 * x1 + y1 * y1 ≤ S) (h2 : x2 * x2 + y2 * y2 ≤ S) (hu : 0 ≤ u) (hv : 0 ≤ v) :
    (u * x1 + v * x2) * (u * x1 + v * x2) + (u * y1 + v * y2) * (u * y1 + v * y2) ≤ (u + v) * (u + v) * S := by
  have a := Int.mul_le_mul_of_nonneg_left h1 (Int.mul_nonneg hu hu)
  have b := Int.mul_le_mul_of_nonneg_left h2 (Int.mul_nonneg hv hv)
  have c1 := sq_nn (x1 - x2); have c2 := sq_nn (y1 - y2)
  have c : 2 * (x1 * x2 + y1 * y2) ≤ 2 * S := by grind
  have d := Int.mul_le_mul_of_nonneg_left c (Int.mul_nonneg hu hv)
  grind
theorem onS_mix {p q s a c : P2} {R u v : Int} (hp : OnS p a c R) (hq : OnS q a c R) (hu : 0 ≤ u) (hv : 0 ≤ v) (huv : 0 < u + v) (hx : (u + v) * s.x = u * p.x + v * q.x) (hy : (u + v) * s.y = u * p.y + v * q.y) : OnS s a c R := by
  obtain ⟨m1, n1, n10, m10, mn1, d1⟩ := hp
  obtain ⟨m2, n2, n20, m20, mn2, d2⟩ := hq
  refine ⟨u * (n2 * m1) + v * (n1 * m2), n1 * n2 * (u + v), Int.mul_pos (Int.mul_pos n10 n20) huv, ?_, ?_, ?_⟩
  · have := Int.mul_nonneg hu (Int.mul_nonneg (Int.le_of_lt n20) m10)
    have := Int.mul_nonneg hv (Int.mul_nonneg (Int.le_of_lt n10) m20)
    omega
  · have a1 := Int.mul_le_mul_of_nonneg_left (Int.mul_le_mul_of_nonneg_left mn1 (Int.le_of_lt n20)) hu
    have a2 := Int.mul_le_mul_of_nonneg_left (Int.mul_le_mul_of_nonneg_left mn2 (Int.le_of_lt n10)) hv
    have e : n1 * n2 * (u + v) = u * (n2 * n1) + v * (n1 * n2) := by grind
    omega
  · have k1 := Int.mul_le_mul_of_nonneg_left d1 (Int.le_of_lt (sq_pos n20))
    have k2 := Int.mul_le_mul_of_nonneg_left d2 (Int.le_of_lt (sq_pos n10))
    have cv := conv2 (x1 := n2 * (n1 * (p.x - a.x) - m1 * (c.x - a.x))) (y1 := n2 * (n1 * (p.y - a.y) - m1 * (c.y - a.y))) (x2 := n1 * (n2 * (q.x - a.x) - m2 * (c.x - a.x))) (y2 := n1 * (n2 * (q.y - a.y) - m2 * (c.y - a.y))) (S := n1 * n1 * (n2 * n2) * R) (u := u) (v := v) (by grind) (by grind) hu hv
    have ex : n1 * n2 * (u + v) * (s.x - a.x) - (u * (n2 * m1) + v * (n1 * m2)) * (c.x - a.x) = u * (n2 * (n1 * (p.x - a.x) - m1 * (c.x - a.x))) + v * (n1 * (n2 * (q.x - a.x) - m2 * (c.x - a.x))) := by
      have : n1 * n2 * (u + v) * (s.x - a.x) = n1 * n2 * ((u + v) * s.x) - n1 * n2 * (u + v) * a.x := by grind
      rw [this, hx]; grind
    have ey : n1 * n2 * (u + v) * (s.y - a.y) - (u * (n2 * m1) + v * (n1 * m2)) * (c.y - a.y) = u * (n2 * (n1 * (p.y - a.y) - m1 * (c.y - a.y))) + v * (n1 * (n2 * (q.y - a.y) - m2 * (c.y - a.y))) := by
      have : n1 * n2 * (u + v) * (s.y - a.y) = n1 * n2 * ((u + v) * s.y) - n1 * n2 * (u + v) * a.y := by grind
      rw [this, hy]; grind
    rw [ex, ey]
    have er : n1 * n2 * (u + v) * (n1 * n2 * (u + v)) * R = (u + v) * (u + v) * (n1 * n1 * (n2 * n2) * R) := by grind
    rw [er]; exact cv
theorem onS_row {x0 x1 x y : Int} {a c : P2} {R : Int} (h0 : OnS ⟨x0, y⟩ a c R) (h1 : OnS ⟨x1, y⟩ a c R) (hl : x0 ≤ x) (hr : x ≤ x1) : OnS ⟨x, y⟩ a c R := by
  by_cases k : x0 = x1
  · have : x = x0 := by omega
    rw [this]; exact h0
  · exact onS_mix (u := x1 - x) (v := x - x0) h0 h1 (by omega) (by omega) (by omega) (by dsimp only; grind) (by dsimp only; grind)
theorem onS_col {y0 y1 x y : Int} {a c : P2} {R : Int} (h0 : OnS ⟨x, y0⟩ a c R) (h1 : OnS ⟨x, y1⟩ a c R) (hl : y0 ≤ y) (hr : y ≤ y1) : OnS ⟨x, y⟩ a c R := by
  by_cases k : y0 = y1
  · have : y = y0 := by omega
    rw [this]; exact h0
  · exact onS_mix (u := y1 - y) (v := y - y0) h0 h1 (by omega) (by omega) (by omega) (by dsimp only; grind) (by dsimp only; grind)
theorem onS_in {b : B4} {q a c : P2} {R : Int} (hq : hasI b q) (h : ∀ k, isC b k → OnS k a c R) : OnS q a c R := by
  obtain ⟨h1, h2, h3, h4⟩ := hq
  exact onS_col (onS_row (h ⟨b.x0, b.y0⟩ ⟨.inl rfl, .inl rfl⟩) (h ⟨b.x1, b.y0⟩ ⟨.inr rfl, .inl rfl⟩) h1 h2) (onS_row (h ⟨b.x0, b.y1⟩ ⟨.inl rfl, .inr rfl⟩) (h ⟨b.x1, b.y1⟩ ⟨.inr rfl, .inr rfl⟩) h1 h2) h3 h4
theorem line_in {b : B4} {q a c : P2} {r : Int} (hq : hasI b q) (h : all4 (fun q => lineI q a c r) b = true) : lineI q a c r = true := by
  rw [lineI_iff]
  exact onS_in hq fun k hk => lineI_iff.1 (all4_iff.1 h k hk)
theorem onS_flip {p a c : P2} {R : Int} (h : OnS p a c R) : OnS p c a R := by
  obtain ⟨m, n, n0, m0, mn, d⟩ := h
  refine ⟨n - m, n, n0, by omega, by omega, ?_⟩
  have e1 : n * (p.x - c.x) - (n - m) * (a.x - c.x) = n * (p.x - a.x) - m * (c.x - a.x) := by grind
  have e2 : n * (p.y - c.y) - (n - m) * (a.y - c.y) = n * (p.y - a.y) - m * (c.y - a.y) := by grind
  rw [e1, e2]; exact d
theorem lineI_flip (p a c : P2) (r : Int) : lineI p c a r = lineI p a c r := by
  rw [Bool.eq_iff_iff, lineI_iff, lineI_iff]
  exact ⟨onS_flip, onS_flip⟩
theorem onS_mono {p a c : P2} {R S : Int} (h : R ≤ S) (k : OnS p a c R) : OnS p a c S := by
  obtain ⟨m, n, n0, m0, mn, d⟩ := k
  exact ⟨m, n, n0, m0, mn, Int.le_trans d (Int.mul_le_mul_of_nonneg_left h (Int.le_of_lt (sq_pos n0)))⟩

/-! ### outside -/
/-- two points of a box, weighed, are no nearer than the box -/
theorem near_mix {b : B4} {p q k : P2} {u v : Int} (hq : hasI b q) (hk : hasI b k) (hu : 0 ≤ u) (hv : 0 ≤ v) :
    (u + v) * (u + v) * nearI b p ≤ (u * (q.x - p.x) + v * (k.x - p.x)) * (u * (q.x - p.x) + v * (k.x - p.x)) + (u * (q.y - p.y) + v * (k.y - p.y)) * (u * (q.y - p.y) + v * (k.y - p.y)) := by
  have one : ∀ w lo hi x y : Int, lo ≤ x → x ≤ hi → lo ≤ y → y ≤ hi → (u + v) * gapI w lo hi * ((u + v) * gapI w lo hi) ≤ (u * (x - w) + v * (y - w)) * (u * (x - w) + v * (y - w)) := fun w lo hi x y a1 a2 a3 a4 => by
    unfold gapI; split
    · rename_i g
      have e1 := Int.mul_le_mul_of_nonneg_left (show lo - w ≤ x - w by omega) hu
      have e2 := Int.mul_le_mul_of_nonneg_left (show lo - w ≤ y - w by omega) hv
      have e3 : (u + v) * (lo - w) = u * (lo - w) + v * (lo - w) := by grind
      have e4 := Int.mul_nonneg (show 0 ≤ u + v by omega) (show 0 ≤ lo - w by omega)
      exact sq_le (by omega) (by omega)
    · split
      · rename_i g
        have e1 := Int.mul_le_mul_of_nonneg_left (show w - hi ≤ w - x by omega) hu
        have e2 := Int.mul_le_mul_of_nonneg_left (show w - hi ≤ w - y by omega) hv
        have e3 : (u + v) * (w - hi) = u * (w - hi) + v * (w - hi) := by grind
        have e4 := Int.mul_nonneg (show 0 ≤ u + v by omega) (show 0 ≤ w - hi by omega)
        have e5 : (u * (x - w) + v * (y - w)) * (u * (x - w) + v * (y - w)) = (u * (w - x) + v * (w - y)) * (u * (w - x) + v * (w - y)) := by grind
        rw [e5]
        exact sq_le (by omega) (by omega)
      · have := sq_nn (u * (x - w) + v * (y - w))
        simpa using this
  obtain ⟨q1, q2, q3, q4⟩ := hq
  obtain ⟨k1, k2, k3, k4⟩ := hk
  have a := one p.x b.x0 b.x1 q.x k.x q1 q2 k1 k2
  have c := one p.y b.y0 b.y1 q.y k.y q3 q4 k3 k4
  unfold nearI
  generalize gapI p.x b.x0 b.x1 = G at *
  generalize gapI p.y b.y0 b.y1 = H at *
  have e : (u + v) * (u + v) * (G * G + H * H) = (u + v) * G * ((u + v) * G) + (u + v) * H * ((u + v) * H) := by grind
  omega
/-- what a box says when a point of it is in the stroke -/
def Told (b : B4) (a c : P2) (R : Int) : Prop := (∃ k, isC b k ∧ OnS k a c R) ∨ nearI b a ≤ R ∨ nearI b c ≤ R
/-- on the one side of the line -/
theorem told_side {b : B4} {q a c : P2} {r : Int} (hx : b.x0 ≤ b.x1) (hy : b.y0 ≤ b.y1) (hq : hasI b q) (hi : lineI q a c r = true) (hs : ∀ k, isC b k → crossI a c k > 0) : Told b a c (r * r) := by
  obtain ⟨k, hk, hl⟩ := cross_le a c hq
  have hk0 := hs k hk
  have hkb := isC_has hx hy hk
  have hL := dist_nn a c
  unfold lineI at hi
  by_cases k1 : dotI a c q ≤ 0
  · rw [if_pos k1, decide_eq_true_eq, distI_comm] at hi
    exact .inr (.inl (Int.le_trans (near_le hq) hi))
  · rw [if_neg k1] at hi
    by_cases k2 : dotI a c q ≥ distI a c
    · rw [if_pos k2, decide_eq_true_eq, distI_comm] at hi
      exact .inr (.inr (Int.le_trans (near_le hq) hi))
    · rw [if_neg k2] at hi
      unfold clear at hi
      rw [decide_eq_true_eq] at hi
      have s : ¬ same a c := fun x => by have := (dist_pos a c).2 x; omega
      have hLp : 0 < distI a c := by omega
      have mix : ∀ (o : P2) (u v : Int), 0 ≤ u → 0 ≤ v → 0 < u + v → (u * (q.x - o.x) + v * (k.x - o.x)) * (c.x - a.x) + (u * (q.y - o.y) + v * (k.y - o.y)) * (c.y - a.y) = 0 →
          (c.x - a.x) * (u * (q.y - o.y) + v * (k.y - o.y)) - (c.y - a.y) * (u * (q.x - o.x) + v * (k.x - o.x)) = u * crossI a c q + v * crossI a c k → nearI b o ≤ r * r := fun o u v hu hv huv hz hc => by
        have n := near_mix (p := o) hq hkb hu hv
        generalize u * (q.x - o.x) + v * (k.x - o.x) = X at *
        generalize u * (q.y - o.y) + v * (k.y - o.y) = Y at *
        have g1 : distI a c * (X * X + Y * Y) = (X * (c.x - a.x) + Y * (c.y - a.y)) * (X * (c.x - a.x) + Y * (c.y - a.y)) + ((c.x - a.x) * Y - (c.y - a.y) * X) * ((c.x - a.x) * Y - (c.y - a.y) * X) := by unfold distI; grind
        rw [hz, hc] at g1
        have g2 : u * crossI a c q + v * crossI a c k ≤ (u + v) * crossI a c q := by
          have := Int.mul_le_mul_of_nonneg_left hl hv
          have e : (u + v) * crossI a c q = u * crossI a c q + v * crossI a c q := by grind
          omega
        have g3 : 0 ≤ u * crossI a c q + v * crossI a c k := by
          have := Int.mul_nonneg hu (show 0 ≤ crossI a c q by omega)
          have := Int.mul_nonneg hv (show 0 ≤ crossI a c k by omega)
          omega
        have g4 := sq_le (x := u * crossI a c q + v * crossI a c k) (y := (u + v) * crossI a c q) (by omega) g2
        have g5 := Int.mul_le_mul_of_nonneg_left hi (Int.le_of_lt (sq_pos huv))
        have g6 : distI a c * (X * X + Y * Y) ≤ distI a c * ((u + v) * (u + v) * (r * r)) := by
          have e1 : (u + v) * crossI a c q * ((u + v) * crossI a c q) = (u + v) * (u + v) * (crossI a c q * crossI a c q) := by grind
          have e2 : (u + v) * (u + v) * (r * r * distI a c) = distI a c * ((u + v) * (u + v) * (r * r)) := by grind
          omega
        have g7 := Int.le_of_mul_le_mul_left g6 hLp
        exact Int.le_of_mul_le_mul_left (a := (u + v) * (u + v)) (by omega) (sq_pos huv)
      by_cases k3 : dotI a c k < 0
      · refine .inr (.inl (mix a (-dotI a c k) (dotI a c q) (by omega) (by omega) (by omega) ?_ ?_))
        · unfold dotI; grind
        · unfold crossI; grind
      · by_cases k4 : dotI a c k > distI a c
        · refine .inr (.inr (mix c (dotI a c k - distI a c) (distI a c - dotI a c q) (by omega) (by omega) (by omega) ?_ ?_))
          · unfold dotI distI; grind
          · unfold crossI; grind
        · refine .inl ⟨k, hk, lineI_iff.1 ?_⟩
          rw [lineI_bar s (by omega) (by omega)]
          unfold clear
          rw [decide_eq_true_eq]
          have := sq_le (x := crossI a c k) (y := crossI a c q) (by omega) hl
          omega
/-- the segment is left of the box, its right end is above it -/
theorem sep_core {ax ay vx vy qx qy X0 Y1 m n R : Int} (hv : 0 ≤ vx) (h1 : ax + vx < X0) (h2 : X0 ≤ qx) (h3 : qy ≤ Y1) (h4 : Y1 < ay + vy) (n0 : 0 < n) (m0 : 0 ≤ m) (mn : m ≤ n)
    (d : (n * (qx - ax) - m * vx) * (n * (qx - ax) - m * vx) + (n * (qy - ay) - m * vy) * (n * (qy - ay) - m * vy) ≤ n * n * R) :
    ∃ m' n', 0 < n' ∧ 0 ≤ m' ∧ m' ≤ n' ∧ (n' * (X0 - ax) - m' * vx) * (n' * (X0 - ax) - m' * vx) + (n' * (Y1 - ay) - m' * vy) * (n' * (Y1 - ay) - m' * vy) ≤ n' * n' * R := by
  have mv : m * vx ≤ n * vx := Int.mul_le_mul_of_nonneg_right mn hv
  have x1 : n * (ax + vx) < n * X0 := Int.mul_lt_mul_of_pos_left h1 n0
  have x2 : n * X0 ≤ n * qx := Int.mul_le_mul_of_nonneg_left h2 (by omega)
  have y2 : n * qy ≤ n * Y1 := Int.mul_le_mul_of_nonneg_left h3 (by omega)
  have ea : n * (ax + vx) = n * ax + n * vx := by grind
  have eb : n * (X0 - ax) = n * X0 - n * ax := by grind
  have ec : n * (qx - ax) = n * qx - n * ax := by grind
  have ed : n * (Y1 - ay) = n * Y1 - n * ay := by grind
  have ee : n * (qy - ay) = n * qy - n * ay := by grind
  have hX0 : 0 ≤ n * (X0 - ax) - m * vx := by omega
  have hX : n * (X0 - ax) - m * vx ≤ n * (qx - ax) - m * vx := by omega
  by_cases k : n * Y1 ≤ n * ay + m * vy
  · refine ⟨m, n, n0, m0, mn, ?_⟩
    have s1 := sq_le (x := n * (X0 - ax) - m * vx) (y := n * (qx - ax) - m * vx) (by omega) hX
    have s2 := sq_le (x := -(n * (Y1 - ay) - m * vy)) (y := -(n * (qy - ay) - m * vy)) (by omega) (by omega)
    have e1 : -(n * (Y1 - ay) - m * vy) * -(n * (Y1 - ay) - m * vy) = (n * (Y1 - ay) - m * vy) * (n * (Y1 - ay) - m * vy) := by grind
    have e2 : -(n * (qy - ay) - m * vy) * -(n * (qy - ay) - m * vy) = (n * (qy - ay) - m * vy) * (n * (qy - ay) - m * vy) := by grind
    omega
  · have y1 : n * Y1 < n * (ay + vy) := Int.mul_lt_mul_of_pos_left h4 n0
    have ef : n * (ay + vy) = n * ay + n * vy := by grind
    have hnm : 0 < (n - m) * vy := by
      have : (n - m) * vy = n * vy - m * vy := by grind
      omega
    have hvy : 0 < vy := by
      rcases Int.lt_or_le 0 vy with g | g
      · exact g
      · have := Int.mul_nonneg (show 0 ≤ n - m by omega) (show 0 ≤ -vy by omega)
        have e : (n - m) * -vy = -((n - m) * vy) := by grind
        omega
    have hmy : 0 ≤ m * vy := Int.mul_nonneg m0 (by omega)
    have hay : ay ≤ Y1 := by
      have : n * ay ≤ n * Y1 := by omega
      exact Int.le_of_mul_le_mul_left this n0
    refine ⟨Y1 - ay, vy, hvy, by omega, by omega, ?_⟩
    have z : vy * (Y1 - ay) - (Y1 - ay) * vy = 0 := by grind
    rw [z]
    have w0 : 0 ≤ vy * (X0 - ax) - (Y1 - ay) * vx := by
      have t1 := Int.mul_le_mul_of_nonneg_right (show Y1 - ay ≤ vy by omega) hv
      have t2 := Int.mul_nonneg (show 0 ≤ vy by omega) (show 0 ≤ X0 - ax - vx by omega)
      have e : vy * (X0 - ax - vx) = vy * (X0 - ax) - vy * vx := by grind
      omega
    have w1 : n * (vy * (X0 - ax) - (Y1 - ay) * vx) ≤ vy * (n * (qx - ax) - m * vx) := by
      have t1 := Int.mul_le_mul_of_nonneg_right (show m * vy ≤ n * (Y1 - ay) by omega) hv
      have t2 := Int.mul_le_mul_of_nonneg_left hX (show 0 ≤ vy by omega)
      have e1 : n * (vy * (X0 - ax) - (Y1 - ay) * vx) = vy * (n * (X0 - ax)) - n * (Y1 - ay) * vx := by grind
      have e2 : vy * (n * (X0 - ax) - m * vx) = vy * (n * (X0 - ax)) - m * vy * vx := by grind
      omega
    have w2 := sq_le (x := n * (vy * (X0 - ax) - (Y1 - ay) * vx)) (y := vy * (n * (qx - ax) - m * vx)) (by have := Int.mul_nonneg (show 0 ≤ n by omega) w0; omega) w1
    have w3 := sq_nn (n * (qy - ay) - m * vy)
    have w4 := Int.mul_le_mul_of_nonneg_left (show (n * (qx - ax) - m * vx) * (n * (qx - ax) - m * vx) ≤ n * n * R by omega) (Int.le_of_lt (sq_pos hvy))
    refine Int.le_of_mul_le_mul_left (a := n * n) ?_ (sq_pos n0)
    generalize vy * (X0 - ax) - (Y1 - ay) * vx = F at *
    generalize n * (qx - ax) - m * vx = G at *
    have e1 : n * F * (n * F) = n * n * (F * F) := by grind
    have e2 : vy * G * (vy * G) = vy * vy * (G * G) := by grind
    have e3 : n * n * (vy * vy * R) = vy * vy * (n * n * R) := by grind
    simp only [Int.mul_zero, Int.add_zero]
    omega
theorem told_left0 {b : B4} {q a c : P2} {R : Int} (hx : b.x0 ≤ b.x1) (hq : hasI b q) (hi : OnS q a c R) (hac : a.x ≤ c.x) (h : c.x < b.x0) : Told b a c R := by
  obtain ⟨m, n, n0, m0, mn, d⟩ := hi
  obtain ⟨q1, q2, q3, q4⟩ := hq
  by_cases k1 : b.y1 < c.y
  · obtain ⟨m', n', a1, a2, a3, a4⟩ := sep_core (vx := c.x - a.x) (vy := c.y - a.y) (X0 := b.x0) (Y1 := b.y1) (by omega) (by omega) q1 q4 (by omega) n0 m0 mn d
    exact .inl ⟨⟨b.x0, b.y1⟩, ⟨.inl rfl, .inr rfl⟩, m', n', a1, a2, a3, a4⟩
  · by_cases k2 : c.y < b.y0
    · have d' : (n * (q.x - a.x) - m * (c.x - a.x)) * (n * (q.x - a.x) - m * (c.x - a.x)) + (n * (-q.y - -a.y) - m * (-(c.y - a.y))) * (n * (-q.y - -a.y) - m * (-(c.y - a.y))) ≤ n * n * R := by
        have e : n * (-q.y - -a.y) - m * (-(c.y - a.y)) = -(n * (q.y - a.y) - m * (c.y - a.y)) := by grind
        rw [e, Int.neg_mul_neg]; exact d
      obtain ⟨m', n', a1, a2, a3, a4⟩ := sep_core (vx := c.x - a.x) (vy := -(c.y - a.y)) (X0 := b.x0) (Y1 := -b.y0) (by omega) (by omega) q1 (by omega) (by omega) n0 m0 mn d'
      refine .inl ⟨⟨b.x0, b.y0⟩, ⟨.inl rfl, .inl rfl⟩, m', n', a1, a2, a3, ?_⟩
      have e : n' * (-b.y0 - -a.y) - m' * (-(c.y - a.y)) = -(n' * (b.y0 - a.y) - m' * (c.y - a.y)) := by grind
      rw [e, Int.neg_mul_neg] at a4
      exact a4
    · refine .inr (.inr ?_)
      have e1 : gapI c.x b.x0 b.x1 = b.x0 - c.x := by unfold gapI; rw [if_pos h]
      have e2 : gapI c.y b.y0 b.y1 = 0 := by unfold gapI; rw [if_neg (by omega), if_neg (by omega)]
      unfold nearI
      rw [e1, e2]
      have t1 := Int.mul_le_mul_of_nonneg_right mn (show 0 ≤ c.x - a.x by omega)
      have t2 := Int.mul_le_mul_of_nonneg_left q1 (show 0 ≤ n by omega)
      have ea : n * (q.x - a.x) = n * q.x - n * a.x := by grind
      have eb : n * (c.x - a.x) = n * c.x - n * a.x := by grind
      have ec : n * (b.x0 - c.x) = n * b.x0 - n * c.x := by grind
      have s := sq_le (x := n * (b.x0 - c.x)) (y := n * (q.x - a.x) - m * (c.x - a.x)) (by have := Int.mul_nonneg (show 0 ≤ n by omega) (show 0 ≤ b.x0 - c.x by omega); omega) (by omega)
      have w := sq_nn (n * (q.y - a.y) - m * (c.y - a.y))
      refine Int.le_of_mul_le_mul_left (a := n * n) ?_ (sq_pos n0)
      have e3 : n * (b.x0 - c.x) * (n * (b.x0 - c.x)) = n * n * ((b.x0 - c.x) * (b.x0 - c.x) + 0 * 0) := by grind
      omega
theorem told_flip {b : B4} {a c : P2} {R : Int} (h : Told b c a R) : Told b a c R := by
  rcases h with ⟨k, hk, hs⟩ | h | h
  · exact .inl ⟨k, hk, onS_flip hs⟩
  · exact .inr (.inr h)
  · exact .inr (.inl h)
theorem told_left {b : B4} {q a c : P2} {R : Int} (hx : b.x0 ≤ b.x1) (hq : hasI b q) (hi : OnS q a c R) (h1 : a.x < b.x0) (h2 : c.x < b.x0) : Told b a c R := by
  rcases Int.le_total a.x c.x with k | k
  · exact told_left0 hx hq hi k h2
  · exact told_flip (told_left0 hx hq (onS_flip hi) k h1)
def ngX (p : P2) : P2 := ⟨-p.x, p.y⟩
def ngB (b : B4) : B4 := ⟨-b.x1, b.y0, -b.x0, b.y1⟩
def swP (p : P2) : P2 := ⟨p.y, p.x⟩
def swB (b : B4) : B4 := ⟨b.y0, b.x0, b.y1, b.x1⟩
theorem onS_ng {p a c : P2} {R : Int} (h : OnS p a c R) : OnS (ngX p) (ngX a) (ngX c) R := by
  obtain ⟨m, n, n0, m0, mn, d⟩ := h
  refine ⟨m, n, n0, m0, mn, ?_⟩
  unfold ngX; dsimp only
  have e : n * (-p.x - -a.x) - m * (-c.x - -a.x) = -(n * (p.x - a.x) - m * (c.x - a.x)) := by grind
  rw [e, Int.neg_mul_neg]; exact d
theorem onS_sw {p a c : P2} {R : Int} (h : OnS p a c R) : OnS (swP p) (swP a) (swP c) R := by
  obtain ⟨m, n, n0, m0, mn, d⟩ := h
  refine ⟨m, n, n0, m0, mn, ?_⟩
  unfold swP; dsimp only; omega
theorem told_ng {b : B4} {a c : P2} {R : Int} (hx : b.x0 ≤ b.x1) (h : Told (ngB b) (ngX a) (ngX c) R) : Told b a c R := by
  have e : ∀ p, nearI (ngB b) (ngX p) = nearI b p := fun p => by unfold nearI ngB ngX; dsimp only; rw [gapI_neg _ _ _ hx]
  rcases h with ⟨k, ⟨h1, h2⟩, hs⟩ | h | h
  · refine .inl ⟨ngX k, ⟨?_, h2⟩, ?_⟩
    · unfold ngX; unfold ngB at h1; dsimp only at *; omega
    · have := onS_ng hs
      unfold ngX at this ⊢; simpa using this
  · rw [e] at h; exact .inr (.inl h)
  · rw [e] at h; exact .inr (.inr h)
theorem told_sw {b : B4} {a c : P2} {R : Int} (h : Told (swB b) (swP a) (swP c) R) : Told b a c R := by
  have e : ∀ p, nearI (swB b) (swP p) = nearI b p := fun p => by unfold nearI swB swP; dsimp only; omega
  rcases h with ⟨k, ⟨h1, h2⟩, hs⟩ | h | h
  · exact .inl ⟨swP k, ⟨h2, h1⟩, onS_sw hs⟩
  · rw [e] at h; exact .inr (.inl h)
  · rw [e] at h; exact .inr (.inr h)
theorem has_ng {b : B4} {q : P2} (h : hasI b q) : hasI (ngB b) (ngX q) := by
  obtain ⟨h1, h2, h3, h4⟩ := h
  exact ⟨by unfold ngB ngX; dsimp only; omega, by unfold ngB ngX; dsimp only; omega, h3, h4⟩
theorem has_sw {b : B4} {q : P2} (h : hasI b q) : hasI (swB b) (swP q) := by
  obtain ⟨h1, h2, h3, h4⟩ := h
  exact ⟨h3, h4, h1, h2⟩
theorem told_right {b : B4} {q a c : P2} {R : Int} (hx : b.x0 ≤ b.x1) (hq : hasI b q) (hi : OnS q a c R) (h1 : b.x1 < a.x) (h2 : b.x1 < c.x) : Told b a c R :=
  told_ng hx (told_left (b := ngB b) (a := ngX a) (c := ngX c) (by unfold ngB; dsimp only; omega) (has_ng hq) (onS_ng hi) (by unfold ngB ngX; dsimp only; omega) (by unfold ngB ngX; dsimp only; omega))
/-- a box of which a point is in the stroke says so -/
theorem told_of {b : B4} {q a c : P2} {r : Int} (hx : b.x0 ≤ b.x1) (hy : b.y0 ≤ b.y1) (hq : hasI b q) (hi : lineI q a c r = true) (hm : meetsI b a c = false) : Told b a c (r * r) := by
  have ho := lineI_iff.1 hi
  unfold meetsI at hm
  cases hs : sepI b a c
  · rw [hs] at hm
    simp only [Bool.not_false, Bool.true_and, Bool.and_eq_false_iff, Bool.not_eq_false'] at hm
    rcases hm with hm | hm
    · exact told_side hx hy hq hi fun k hk => by have := all4_iff.1 hm k hk; simpa using this
    · refine told_flip (told_side hx hy hq (by rw [lineI_flip]; exact hi) fun k hk => ?_)
      have := all4_iff.1 hm k hk
      simp only [decide_eq_true_eq] at this
      rw [(flips a c k).1]; omega
  · unfold sepI at hs
    simp only [Bool.or_eq_true, decide_eq_true_eq] at hs
    rcases hs with ((hs | hs) | hs) | hs
    · exact told_left hx hq ho (by omega) (by omega)
    · exact told_right hx hq ho (by omega) (by omega)
    · exact told_sw (told_left (b := swB b) (a := swP a) (c := swP c) hy (has_sw hq) (onS_sw ho) (by unfold swB swP; dsimp only; omega) (by unfold swB swP; dsimp only; omega))
    · exact told_sw (told_right (b := swB b) (a := swP a) (c := swP c) hy (has_sw hq) (onS_sw ho) (by unfold swB swP; dsimp only; omega) (by unfold swB swP; dsimp only; omega))
theorem line_out {b : B4} {q a c : P2} {r : Int} (hx : b.x0 ≤ b.x1) (hy : b.y0 ≤ b.y1) (hq : hasI b q) (hk : lineCl b a c r = 0) : lineI q a c r = false := by
  cases hi : lineI q a c r
  · rfl
  · exfalso
    unfold lineCl at hk
    cases h4 : all4 (fun q => lineI q a c r) b
    · rw [h4] at hk
      simp only [Bool.false_eq_true, if_false] at hk
      cases hc : (any4 (fun q => lineI q a c r) b || decide (nearI b a ≤ r * r) || decide (nearI b c ≤ r * r) || meetsI b a c)
      · simp only [Bool.or_eq_false_iff, decide_eq_false_iff_not] at hc
        obtain ⟨⟨⟨c1, c2⟩, c3⟩, c4⟩ := hc
        rcases told_of hx hy hq hi c4 with ⟨k, hk, hs⟩ | h | h
        · have : any4 (fun q => lineI q a c r) b = true := any4_iff.2 ⟨k, hk, lineI_iff.2 hs⟩
          rw [this] at c1; cases c1
        · exact c2 h
        · exact c3 h
      · rw [hc] at hk; simp at hk
    · rw [h4] at hk; simp at hk
end Go.Proofs.Ytfooaikpcbnchaa

/-! ## Bau -/
namespace Go.Proofs.Ytfooaikpcbnchaa
open Go Go.RowKit Sym
set_option maxRecDepth 100000

/-- a map of the plane that keeps the products, and takes corners to corners, keeps a bar's class -/
theorem barCl_map {b b' : B4} {a c a' c' : P2} {h : Int} (φ : P2 → P2) (h1 : ∀ q, crossI a' c' (φ q) = crossI a c q) (h2 : ∀ q, dotI a' c' (φ q) = dotI a c q) (h3 : distI a' c' = distI a c) (h4 : ∀ f : P2 → Bool, all4 f b' = all4 (fun q => f (φ q)) b) : barCl b' a' c' h = barCl b a c h := by
  have e : same a' c' ↔ same a c := by rw [← dist_pos, ← dist_pos, h3]
  have hcl : ∀ q, clear (φ q) a' c' h = clear q a c h := fun q => by unfold clear; rw [h1, h3]
  have hb : ∀ q, barI (φ q) a' c' h = barI q a c h := fun q => by
    unfold barI; rw [hcl, h2, h3, decide_eq_decide.2 e]
  unfold barCl
  rw [h4, h4, h4, h4, h4]
  simp only [hb, h2, h3, e]
  have e1 : (fun q => rightI a' c' h (φ q)) = rightI a c h := by funext q; unfold rightI; rw [hcl, h1]
  have e2 : (fun q => leftI a' c' h (φ q)) = leftI a c h := by funext q; unfold leftI; rw [hcl, h1]
  rw [e1, e2]
theorem barCl_mv (b : B4) (a c d : P2) (h : Int) : barCl ⟨b.x0 + d.x, b.y0 + d.y, b.x1 + d.x, b.y1 + d.y⟩ ⟨a.x + d.x, a.y + d.y⟩ ⟨c.x + d.x, c.y + d.y⟩ h = barCl b a c h := by
  refine barCl_map (fun q => ⟨q.x + d.x, q.y + d.y⟩) ?_ ?_ ?_ ?_
  · intro q; unfold crossI; dsimp only; grind
  · intro q; unfold dotI; dsimp only; grind
  · unfold distI; dsimp only; grind
  · intro f; rfl
theorem barCl_tu (b : B4) (a c : P2) (h : Int) : barCl ⟨-b.y1, b.x0, -b.y0, b.x1⟩ ⟨-a.y, a.x⟩ ⟨-c.y, c.x⟩ h = barCl b a c h := by
  refine barCl_map (fun q => ⟨-q.y, q.x⟩) ?_ ?_ ?_ ?_
  · intro q; unfold crossI; dsimp only; grind
  · intro q; unfold dotI; dsimp only; grind
  · unfold distI; dsimp only; grind
  · intro f; unfold all4; dsimp only
    generalize f ⟨-b.y1, b.x0⟩ = p; generalize f ⟨-b.y0, b.x0⟩ = q; generalize f ⟨-b.y1, b.x1⟩ = r; generalize f ⟨-b.y0, b.x1⟩ = s
    cases p <;> cases q <;> cases r <;> cases s <;> rfl
/-- a bar along the axis -/
def axis (b : B4) (l h : Int) : Int := if 0 ≤ b.x0 ∧ b.x1 ≤ l ∧ -h ≤ b.y0 ∧ b.y1 ≤ h then 2 else if b.y1 < -h ∨ b.y0 > h ∨ b.x1 < 0 ∨ b.x0 > l then 0 else 1
theorem barCl_axis {b : B4} {l h : Int} (hx : b.x0 ≤ b.x1) (hy : b.y0 ≤ b.y1) (hl : 1 ≤ l) (hh : 1 ≤ h) : barCl b ⟨0, 0⟩ ⟨l, 0⟩ h = axis b l h := by
  have hll : 0 < l * l := Int.mul_pos (by omega) (by omega)
  have hc : ∀ q, clear q ⟨0, 0⟩ ⟨l, 0⟩ h = decide (-h ≤ q.y ∧ q.y ≤ h) := fun q => by
    unfold clear crossI distI; dsimp only
    refine decide_eq_decide.2 ?_
    have e1 : ((l - 0) * (q.y - 0) - (0 - 0) * (q.x - 0)) * ((l - 0) * (q.y - 0) - (0 - 0) * (q.x - 0)) = (l * l) * (q.y * q.y) := by grind
    have e2 : h * h * ((0 - l) * (0 - l) + (0 - 0) * (0 - 0)) = (l * l) * (h * h) := by grind
    rw [e1, e2, Int.mul_le_mul_left hll]
    constructor
    · intro k
      rcases Int.lt_or_le h q.y with g | g
      · have := sq_lt (x := h) (y := q.y) (by omega) g; omega
      · refine ⟨?_, g⟩
        rcases Int.lt_or_le q.y (-h) with g' | g'
        · have := sq_lt (x := h) (y := -q.y) (by omega) (by omega)
          have e : -q.y * -q.y = q.y * q.y := by grind
          omega
        · exact g'
    · exact fun k => sq_le k.1 k.2
  have hd : ∀ q, dotI ⟨0, 0⟩ ⟨l, 0⟩ q = l * q.x := fun q => by unfold dotI; dsimp only; grind
  have hk : ∀ q, crossI ⟨0, 0⟩ ⟨l, 0⟩ q = l * q.y := fun q => by unfold crossI; dsimp only; grind
  have hL : distI ⟨0, 0⟩ ⟨l, 0⟩ = l * l := by unfold distI; dsimp only; grind
  have n0 : ∀ x : Int, (0 ≤ l * x ↔ 0 ≤ x) := fun x => by
    have := Int.mul_le_mul_left (a := l) (b := 0) (c := x) (by omega)
    rwa [Int.mul_zero] at this
  have n1 : ∀ x : Int, (l * x ≤ l * l ↔ x ≤ l) := fun x => Int.mul_le_mul_left (by omega)
  have s : ¬ same ⟨0, 0⟩ ⟨l, 0⟩ := by unfold same; dsimp only; omega
  have b1 : all4 (fun q => barI q ⟨0, 0⟩ ⟨l, 0⟩ h) b = decide (0 ≤ b.x0 ∧ b.x1 ≤ l ∧ -h ≤ b.y0 ∧ b.y1 ≤ h) := by
    unfold all4 barI
    simp only [hc, hd, hL]
    rw [Bool.eq_iff_iff]
    simp only [Bool.and_eq_true, decide_eq_true_eq, Bool.not_eq_true', decide_eq_false_iff_not, n0, n1, s, hh, not_false_eq_true, true_and]
    omega
  have b2 : all4 (rightI ⟨0, 0⟩ ⟨l, 0⟩ h) b = decide (b.y1 < -h) := by
    unfold all4 rightI
    simp only [hc, hk]
    rw [Bool.eq_iff_iff]
    have := fun x => n0 (-x)
    have e : ∀ x, (¬ l * x > 0 ↔ x ≤ 0) := fun x => by
      have := n0 (-x); rw [Int.mul_neg] at this; omega
    simp only [Bool.and_eq_true, decide_eq_true_eq, Bool.not_eq_true', decide_eq_false_iff_not, e]
    omega
  have b3 : all4 (leftI ⟨0, 0⟩ ⟨l, 0⟩ h) b = decide (b.y0 > h) := by
    unfold all4 leftI
    simp only [hc, hk]
    rw [Bool.eq_iff_iff]
    have e : ∀ x, (l * x > 0 ↔ x > 0) := fun x => by
      have := n0 (-x); rw [Int.mul_neg] at this; omega
    simp only [Bool.and_eq_true, decide_eq_true_eq, Bool.not_eq_true', decide_eq_false_iff_not, e]
    omega
  have b4 : all4 (fun q => decide (dotI ⟨0, 0⟩ ⟨l, 0⟩ q < 0)) b = decide (b.x1 < 0) := by
    unfold all4
    simp only [hd]
    rw [Bool.eq_iff_iff]
    have e : ∀ x, (l * x < 0 ↔ x < 0) := fun x => by have := n0 x; omega
    simp only [Bool.and_eq_true, decide_eq_true_eq, e]
    omega
  have b5 : all4 (fun q => decide (dotI ⟨0, 0⟩ ⟨l, 0⟩ q > distI ⟨0, 0⟩ ⟨l, 0⟩)) b = decide (b.x0 > l) := by
    unfold all4
    simp only [hd, hL]
    rw [Bool.eq_iff_iff]
    have e : ∀ x, (l * x > l * l ↔ x > l) := fun x => by have := n1 x; omega
    simp only [Bool.and_eq_true, decide_eq_true_eq, e]
    omega
  unfold barCl axis
  rw [if_neg (by rintro (x | x); omega; exact s x), b1, b2, b3, b4, b5]
  simp only [decide_eq_true_eq, Bool.or_eq_true, or_assoc]
def lMod (x n : Int) : Int := W ((U x).tmod n)
theorem lMod_bd (x : Int) {n : Int} (h : 0 < n) (h2 : n ≤ 1000000000) : 0 ≤ lMod x n ∧ lMod x n < n := by
  have h0 : 0 ≤ U x := by rw [U_eq]; omega
  have a := Int.tmod_nonneg (a := U x) n h0
  have b := (tmod_bd (U x) h).2
  unfold lMod; rw [W_id (by omega) (by omega)]; omega
def barStraight (long0 h0 : Int) (b0 : B4) (by0 : P2) : Bool :=
  let long := W (lMod long0 40 + 1)
  let h := lSmR (lR h0) 12
  let b := lSmall b0
  let by_ := lClose by0 100000000
  let is : B4 := ⟨0, W (0 - h), long, h⟩
  let k := barClass b ⟨0, 0⟩ ⟨long, 0⟩ h
  let want : Int := bif andB (andB (andB (decide (b.x0 ≥ is.x0)) (decide (b.x1 ≤ is.x1))) (decide (b.y0 ≥ is.y0))) (decide (b.y1 ≤ is.y1)) then 2 else bif rApart b is then 0 else 1
  andB (andB (andB (k == want) (barClass (tuB b) ⟨0, 0⟩ ⟨0, long⟩ h == k)) (barClass (mvB b by_) by_ ⟨W (by_.x + long), by_.y⟩ h == k)) true
theorem barStraight_true (long h : Int) (b : B4) (by_ : P2) : barStraight long h b by_ = true := by
  have hb := lSmall_s b
  have hd := lClose_r by_ (n := 100000000) (by decide) (by decide)
  have hr := lR_bd h
  have hh := lSmR_bd (r := lR h) (m := 12) (by omega) (by decide) (by decide)
  have hl := lMod_bd long (n := 40) (by decide) (by decide)
  unfold barStraight
  dsimp only
  rw [W_id (x := lMod long 40 + 1) (by omega) (by omega), W_id (x := 0 - lSmR (lR h) 12) (by omega) (by omega)]
  have hL : 1 ≤ lMod long 40 + 1 ∧ lMod long 40 + 1 ≤ 40 := by omega
  generalize lMod long 40 + 1 = L at *
  clear hl
  generalize lSmR (lR h) 12 = H at *
  generalize lClose by_ 100000000 = D at *
  generalize lSmall b = B at *
  have e1 : mvB B D = ⟨B.x0 + D.x, B.y0 + D.y, B.x1 + D.x, B.y1 + D.y⟩ := by
    unfold mvB; rw [W_id (by omega) (by omega), W_id (by omega) (by omega), W_id (by omega) (by omega), W_id (by omega) (by omega)]
  have e2 : tuB B = ⟨-B.y1, B.x0, -B.y0, B.x1⟩ := by
    unfold tuB; rw [W_id (by omega) (by omega), W_id (by omega) (by omega)]; simp
  rw [e1, e2, W_id (x := D.x + L) (by omega) (by omega)]
  have hB := lSmall_R' hb
  have z : PR ⟨0, 0⟩ := ⟨⟨by decide, by decide⟩, ⟨by decide, by decide⟩⟩
  have zl : PR ⟨L, 0⟩ := ⟨⟨by dsimp only; omega, by dsimp only; omega⟩, ⟨by dsimp only; omega, by dsimp only; omega⟩⟩
  have lz : PR ⟨0, L⟩ := ⟨⟨by dsimp only; omega, by dsimp only; omega⟩, ⟨by dsimp only; omega, by dsimp only; omega⟩⟩
  rw [barClass_eq hB z zl hb.2.1 hb.2.2.2.2.1 (by omega),
    barClass_eq (b := ⟨-B.y1, B.x0, -B.y0, B.x1⟩) ⟨⟨by dsimp only; omega, by dsimp only; omega⟩, ⟨by dsimp only; omega, by dsimp only; omega⟩, ⟨by dsimp only; omega, by dsimp only; omega⟩, ⟨by dsimp only; omega, by dsimp only; omega⟩⟩ z lz (by dsimp only; omega) (by dsimp only; omega) (by omega),
    barClass_eq (b := ⟨B.x0 + D.x, B.y0 + D.y, B.x1 + D.x, B.y1 + D.y⟩) (a := D) (c := ⟨D.x + L, D.y⟩) ⟨⟨by dsimp only; omega, by dsimp only; omega⟩, ⟨by dsimp only; omega, by dsimp only; omega⟩, ⟨by dsimp only; omega, by dsimp only; omega⟩, ⟨by dsimp only; omega, by dsimp only; omega⟩⟩ ⟨⟨by omega, by omega⟩, ⟨by omega, by omega⟩⟩ ⟨⟨by dsimp only; omega, by dsimp only; omega⟩, ⟨by dsimp only; omega, by dsimp only; omega⟩⟩ (by dsimp only; omega) (by dsimp only; omega) (by omega)]
  have t := barCl_tu B ⟨0, 0⟩ ⟨L, 0⟩ H
  have m := barCl_mv B ⟨0, 0⟩ ⟨L, 0⟩ D H
  have x1 : (⟨0 + D.x, 0 + D.y⟩ : P2) = D := by simp
  have x2 : (⟨L + D.x, 0 + D.y⟩ : P2) = ⟨D.x + L, D.y⟩ := by simp [Int.add_comm]
  have x3 : (⟨-0, 0⟩ : P2) = ⟨0, 0⟩ := by simp
  have x4 : (⟨-0, L⟩ : P2) = ⟨0, L⟩ := by simp
  dsimp only at t m
  rw [x1, x2] at m
  rw [x3, x4] at t
  rw [t, m, barCl_axis hb.2.1 hb.2.2.2.2.1 hL.1 hh.1]
  unfold axis rApart
  simp only [andB_eq, orB_eq, beq_self_eq_true, Bool.and_true, beq_iff_eq]
  by_cases k1 : 0 ≤ B.x0 ∧ B.x1 ≤ L ∧ -H ≤ B.y0 ∧ B.y1 ≤ H
  · have : (decide (B.x0 ≥ 0) && decide (B.x1 ≤ L) && decide (B.y0 ≥ 0 - H) && decide (B.y1 ≤ H)) = true := by
      simp only [Bool.and_eq_true, decide_eq_true_eq]; omega
    rw [if_pos k1, this]; rfl
  · have : (decide (B.x0 ≥ 0) && decide (B.x1 ≤ L) && decide (B.y0 ≥ 0 - H) && decide (B.y1 ≤ H)) = false := by
      rw [Bool.eq_false_iff]; intro k; apply k1
      simp only [Bool.and_eq_true, decide_eq_true_eq] at k; omega
    rw [if_neg k1, this, bif_f]
    by_cases k2 : B.y1 < -H ∨ B.y0 > H ∨ B.x1 < 0 ∨ B.x0 > L
    · have : (decide (B.x1 < 0) || decide (L < B.x0) || decide (B.y1 < 0 - H) || decide (H < B.y0)) = true := by
        simp only [Bool.or_eq_true, decide_eq_true_eq]; omega
      rw [if_pos k2, this]; rfl
    · have : (decide (B.x1 < 0) || decide (L < B.x0) || decide (B.y1 < 0 - H) || decide (H < B.y0)) = false := by
        rw [Bool.eq_false_iff]; intro k; apply k2
        simp only [Bool.or_eq_true, decide_eq_true_eq] at k; omega
      rw [if_neg k2, this]; rfl
end Go.Proofs.Ytfooaikpcbnchaa
