/-
  OWN WORK. Joined by merge.py: Plc Cnt Bne.
-/
import Derived.Test.YtfooaikpcbnchaaQE
import Derived.WalkKit
import Derived.ProofKit
import Derived.Test.YtfooaikpcbnchaaQI
/-! ## Plc -/
namespace Go.Proofs.Ytfooaikpcbnchaa
open Go Go.RowKit Sym
set_option maxRecDepth 100000

theorem place_walk (b off n cap : Nat) (hn : 0 < n) (w : World) : Calls Try.prog 74 #[.slice (some ⟨b, off, none⟩) n cap] w fun e w' => e = .returned (.agg #[.pointer (some ⟨b, off, none⟩), .int .i64 (n : Int)]) ∧ Below w.heap.size w w' := by
  go_enter Try.func74, Try.ntmps74
  go_wp2
  simp [bodyPost, results, Try.results74, go_sem]
  exact Dyn.push_below _ _
theorem place_ok : Dyn.PlaceP Try.prog 74 := fun b off n cap hn => call_ok Try.func74 (by kernel_rfl) (by kernel_rfl) fun w => place_walk b off n cap hn w
end Go.Proofs.Ytfooaikpcbnchaa

/-! ## Cnt -/
namespace Go.Proofs.Ytfooaikpcbnchaa
open Go Go.RowKit Sym
set_option maxRecDepth 100000

def rowD : Nat → List Dyn.DC := Dyn.pickL 0 [rawP true 5, rawP false 2]
def isPl (K : Nat) : Bool := Nat.beq K 74
theorem isPl_ok : ∀ K, isPl K = true → Dyn.PlaceP Try.prog K := fun K h => by
  have := Nat.eq_of_beq_eq_true h
  subst this
  exact place_ok
noncomputable def tabCp : Dyn.Tabs := Dyn.extT (Dyn.tabs tbF [] noD dtyS) isPl
theorem tabCp_ok : Dyn.TabsOk Try.prog tabCp := Dyn.extT_ok (Dyn.tabs_ok tbF_ok (fun _ h => by cases h)) isPl_ok
theorem countD : Dyn.CallD Try.prog 56 [.one (.row 2 rowD)] (rI 2) :=
  Dyn.dcontract (lp := Dyn.noLp) (fuel := 4) tabCp_ok mo Try.func56 (by kernel_rfl) (c := bodyD Try.f56.body) (by kernel_rfl) (fun w0 => Dyn.noLp_ok _ w0) (by kernel_rfl)
    (O := .side [0 < 2] (.side [(0 : Int) ≤ 0 ∧ (0 : Int) < ((2 : Nat) : Int)] (.side [0 ≤ IntKind.i64.wrap (0 + 1) ∧ IntKind.i64.wrap (0 + 1) < ((2 : Nat) : Int)] (.side [0 < 2] (.leaf (rI (plusF (plusF 0 (plusF 1 0)) (plusF 1 0)))))))) (by kernel_rfl)
    ⟨⟨by decide, trivial⟩, ⟨by decide, trivial⟩, ⟨by decide, trivial⟩, ⟨by decide, trivial⟩, ro_leaf (congrArg rI (by decide +kernel))⟩
def enCp : Dyn.EntryD := (56, fun args => match args with
  | [.one (.row n f)] => some (rI 2, [n = 2 ∧ f = rowD])
  | _ => none)
theorem enCp_ok : Dyn.EntryDOk Try.prog enCp := fun args r ps h hp => by
  unfold enCp at h
  dsimp only at h
  split at h
  · simp only [Option.some.injEq, Prod.mk.injEq] at h
    obtain ⟨rfl, rfl⟩ := h
    obtain ⟨⟨rfl, rfl⟩, -⟩ := hp
    exact countD
  · cases h
noncomputable def tabCo : Dyn.Tabs := Dyn.tabs tbF [enCp] noD dtyS
theorem tabCo_ok : Dyn.TabsOk Try.prog tabCo := Dyn.tabs_ok tbF_ok (List.forall_mem_cons.2 ⟨enCp_ok, fun _ h => by cases h⟩)
theorem count10 : Count10 :=
  Dyn.dcontract (lp := Dyn.noLp) (fuel := 4) tabCo_ok mo Try.func35 (by kernel_rfl) (c := bodyD Try.f35.body) (by kernel_rfl) (fun w0 => Dyn.noLp_ok _ w0) (by kernel_rfl)
    (O := .side [2 = 2 ∧ rowD = rowD] (.leaf (rI (plusF 1 2)))) (by kernel_rfl) ⟨⟨⟨rfl, rfl⟩, trivial⟩, ro_leaf (congrArg rI (by decide +kernel))⟩
theorem awake10 : Dyn.CallD Try.prog 26 [] (rB true) := awake10_ok count10
end Go.Proofs.Ytfooaikpcbnchaa

/-! ## Bne -/
namespace Go.Proofs.Ytfooaikpcbnchaa
open Go Go.RowKit Sym
set_option maxRecDepth 100000

noncomputable def tdFb : List Dyn.EntryD := [(26, en0R (rB true)), (14, en2D (qAnd qS PdW) qI fun x d => rB (smallE x d)), (18, en3D (qAnd qS PdS) qB qI fun x q d => .val (dvS (tameE x q d))), (30, en2D (qAnd qS PdS) qP fun x p => rB (figHasE x p)), (29, en2D (qAnd qS PdS) qX fun x b => rI (figClassE x b)), (25, en1D (qAnd qS PdS) fun x => .tup [dvX (figBnd x).1, dvB (figBnd x).2])]
def drFb (K : Nat) : Bool := Nat.beq K 18
noncomputable def tabFb : Dyn.Tabs := Dyn.tabs tbF tdFb drFb dtyS
theorem tabFb_ok : Dyn.TabsOk Try.prog tabFb := Dyn.tabs_ok tbF_ok (List.forall_mem_cons.2 ⟨en0R_ok awake10, List.forall_mem_cons.2 ⟨en2D_ok (qAnd_ok qS_ok) qI_ok fun x d h _ => small_all x h.1 d, List.forall_mem_cons.2 ⟨en3D_ok (qAnd_ok qS_ok) qB_ok qI_ok fun x q d h _ _ => tame_all x h.1 q d, List.forall_mem_cons.2 ⟨en2D_ok (qAnd_ok qS_ok) qP_ok fun x p h _ => figHas_ok x h.1 p, List.forall_mem_cons.2 ⟨en2D_ok (qAnd_ok qS_ok) qX_ok fun x b h _ => figClass_ok x h.1 b, List.forall_mem_cons.2 ⟨en1D_ok (qAnd_ok qS_ok) fun x h => figBnd_ok x h.1, fun _ h => by cases h⟩⟩⟩⟩⟩⟩)
noncomputable def fbC (T : Sh) (p : P2) : Bool := bif figHasE T p then bif !(figBnd T).2 then true else !(rBoxHas (figBnd T).1 p) else false
noncomputable def fbA (T : Sh) (b : B4) : Bool := bif (figBnd T).2 then !(rApart (figBnd T).1 b) else false
noncomputable def fbV (T : Sh) (b : B4) : Bool :=
  bif bif bif bif bif fbA T b then true else figClassE T b == 0 then true else T.k == 4 then true else T.k == 6 then bif !(figBnd T).2 then true else rBoxOk (figBnd T).1 else false then true else false
noncomputable def fb0 (T : Sh) (b : B4) (p : P2) : Dyn.RO := .side [PdS T, ctrSelf T.l] (.side [PdS T, ctrSelf T.l] (.ite (fbC T p) (.leaf (rB false)) (.side [some (fbA T b) = some false ∧ True → allP [PdS T, ctrSelf T.l]] (.leaf (rB (fbV T b))))))
noncomputable def fbO (s : Sh) (b : B4) (p : P2) (sm : Bool) : Dyn.RO :=
  .side [PdW s, ctrSelf s.l] (.ite (!(smallE s 0)) (.leaf (rB true)) (.side [PdS s, ctrSelf s.l] (.ite sm (.side [W (40 + 1) ≠ 0] (fb0 (tameE s sm 0) (lSmall (lBox b)) (lClose (lPt p) 40))) (fb0 (tameE s sm 0) (lBox b) (lPt p)))))
theorem fb_O (s : Sh) (b : B4) (p : P2) (sm : Bool) : (Dyn.dfun Try.prog tabFb Dyn.noLp 3 Try.f7 [dvS s, dvX b, dvP p, dvB sm]).ro Try.prog Try.f7.results = fbO s b p sm := by kernel_rfl
theorem toSh_k (s : Shp) : s = .nil ∨ (toSh s).k = kindS s := by cases s <;> first | exact .inl rfl | exact .inr rfl
theorem rApart_off {U b : B4} (h : rApart U b = true) : Off U b := by
  unfold rApart at h
  simp only [orB_eq, Bool.or_eq_true, decide_eq_true_eq] at h
  unfold Off
  omega
theorem rBoxOk_fits {U : B4} (h : Fits U) : rBoxOk U = true := by
  obtain ⟨b1, b2, b3, b4, b5, b6⟩ := h
  unfold rBoxOk
  simp only [andB_eq, Bool.and_eq_true, decide_eq_true_eq]
  omega
theorem rBoxHas_has {U : B4} {p : P2} (h : hasI U p) : rBoxHas U p = true := by
  unfold hasI at h
  unfold rBoxHas
  simp only [andB_eq, Bool.and_eq_true, decide_eq_true_eq]
  omega
theorem figBounds_ok (s : Shp) (hs : ShW s) (b : B4) (p : P2) (sm : Bool) : Dyn.CallD Try.prog 7 [dvS (toSh s), dvX b, dvP p, dvB sm] (rB true) := by
  refine Dyn.dcontract (lp := Dyn.noLp) (fuel := 3) tabFb_ok mo Try.func7 (by kernel_rfl) (c := bodyD Try.f7.body) (by kernel_rfl) (fun w0 => Dyn.noLp_ok _ w0) (by kernel_rfl) (fb_O (toSh s) b p sm) ?_
  refine ⟨⟨PdW_mk hs, ctrSelf_ok _, trivial⟩, fun h => ro_leaf rfl, fun h => ?_⟩
  have hB : ShB (ofSh (toSh s)) := small_B _ 0 (by simpa [smallE] using h)
  have f := tame_fine sm (ofSh (toSh s)) 0 hB (by decide) (by decide)
  have pT : PdS (tameE (toSh s) sm 0) := PdS_mk (fine_B _ 0 f (by decide))
  have ok : okE (tameE (toSh s) sm 0) = true := fine_ok (fun p hp => PB_near (tmX_le sm) hp) f
  have key : ∀ b' p', Fits b' → PB FF p' → (fb0 (tameE (toSh s) sm 0) b' p').sat fun r => Dyn.RVLe r (rB true) := fun b' p' hb hp => by
    have e1 : figHasE (tameE (toSh s) sm 0) p' = hasF (tameS (ofSh (toSh s)) sm 0) p' := by
      unfold figHasE; rw [ok]
      show hasE (toSh (tameS (ofSh (toSh s)) sm 0)) _ = _
      rw [hasE_eq]
    have e2 : figClassE (tameE (toSh s) sm 0) b' = classF (tameS (ofSh (toSh s)) sm 0) b' := by
      unfold figClassE; rw [ok]
      show classE (toSh (tameS (ofSh (toSh s)) sm 0)) _ = _
      rw [classE_eq]
    have e3 : figBnd (tameE (toSh s) sm 0) = bndF (tameS (ofSh (toSh s)) sm 0) := by
      unfold figBnd; rw [ok]
      show bndE (toSh (tameS (ofSh (toSh s)) sm 0)) = _
      rw [bndE_eq]
    have e4 : (tameE (toSh s) sm 0).k = kindS (tameS (ofSh (toSh s)) sm 0) := by
      show (toSh (tameS (ofSh (toSh s)) sm 0)).k = _
      rcases toSh_k (tameS (ofSh (toSh s)) sm 0) with h | h
      · rw [h] at f; exact f.elim
      · exact h
    have g := fine_bnd (tmX_le sm) (tameS (ofSh (toSh s)) sm 0) 0 f
    have o := fine_off (tmX_le sm) hb (tameS (ofSh (toSh s)) sm 0) 0 f
    have c1 : fbC (tameE (toSh s) sm 0) p' = false := by
      unfold fbC
      rw [e1, e3]
      cases hh : hasF (tameS (ofSh (toSh s)) sm 0) p' with
      | false => rfl
      | true =>
        have q := g.1 p' hp hh
        rw [q.1, rBoxHas_has q.2]; rfl
    have c2 : fbV (tameE (toSh s) sm 0) b' = true := by
      have z : (bif bif bif fbA (tameE (toSh s) sm 0) b' then true else figClassE (tameE (toSh s) sm 0) b' == 0 then true else (tameE (toSh s) sm 0).k == 4 then true else (tameE (toSh s) sm 0).k == 6) = true := by
        unfold fbA
        rw [e2, e3, e4]
        by_cases h4 : kindS (tameS (ofSh (toSh s)) sm 0) = 4
        · rw [h4]; simp
        · by_cases h6 : kindS (tameS (ofSh (toSh s)) sm 0) = 6
          · rw [h6]; simp
          · have o' := o h4 h6
            cases hk : (bndF (tameS (ofSh (toSh s)) sm 0)).2 with
            | false =>
              rw [o' (fun h => by rw [hk] at h; cases h)]; rfl
            | true =>
              cases ha : rApart (bndF (tameS (ofSh (toSh s)) sm 0)).1 b' with
              | false => rfl
              | true => rw [o' (fun _ => rApart_off ha)]; rfl
      unfold fbV
      rw [z, e3]
      cases hk : (bndF (tameS (ofSh (toSh s)) sm 0)).2 with
      | false => rfl
      | true => rw [rBoxOk_fits (g.2 hk)]; rfl
    refine ⟨⟨pT, ctrSelf_ok _, trivial⟩, ⟨pT, ctrSelf_ok _, trivial⟩, ⟨fun h => by (rw [c1] at h; cases h), fun _ => ⟨⟨fun _ => ⟨pT, ctrSelf_ok _, trivial⟩, trivial⟩, ?_⟩⟩⟩
    rw [c2]
    exact ro_leaf rfl
  have near : ∀ q : P2, PB FF (lPt q) := fun q => by
    have h := lPt_r q
    exact h
  refine ⟨⟨⟨hB, (PdW_mk hs).2⟩, ctrSelf_ok _, trivial⟩, fun _ => ⟨⟨by decide, trivial⟩, ?_⟩, fun _ => ?_⟩
  · have h := lSmall_r (lBox b)
    refine key _ _ ⟨by omega, by omega, by omega, by omega, by omega, by omega⟩ ?_
    have hc := lClose_r (lPt p) (n := 40) (by decide) (by decide)
    unfold FF
    exact ⟨⟨by omega, by omega⟩, by omega, by omega⟩
  · exact key _ _ (lBox_fits b) (near p)
end Go.Proofs.Ytfooaikpcbnchaa
