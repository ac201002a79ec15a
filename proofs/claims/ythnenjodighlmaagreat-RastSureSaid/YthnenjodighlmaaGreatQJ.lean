/-
  OWN WORK. Joined by merge.py: Rge Pin Rgf Rgh Rgk Rgj Rgl Rsk Rsl.
-/
import Derived.Test.YthnenjodighlmaaGreatQI
import Derived.Test.YthnenjodighlmaaGreatQH
/-! ## Rge -/
namespace Go.Proofs.YthnenjodighlmaaGreat
open Go Go.RowKit Sym
set_option maxRecDepth 100000

noncomputable def tdCv : List Dyn.EntryD := [(17, en1D (qAnd qL PdS) fun x => .val (dvG (reachE x))), (18, en2D (qAnd qG PdG) qX fun x b => .val (dvG (nearE x b)))]
def drCv (K : Nat) : Bool := Nat.beq K 18 || Nat.beq K 17 || Nat.beq K 19
noncomputable def tabCv (k : Int) (F : ExF) : Dyn.Tabs := Dyn.tabsX tbF tdCv [(19, enExam k F)] drCv dtyG false
theorem tabCv_ok {k : Int} {F : ExF} (ih : ExamOk k F) : Dyn.TabsOk Tryz.prog (tabCv k F) :=
  Dyn.tabsX_ok tbF_ok (List.forall_mem_cons.2 ⟨en1D_ok (qAnd_ok qL_ok) fun x h => greach_all x h.1, List.forall_mem_cons.2 ⟨en2D_ok (qAnd_ok qG_ok) qX_ok fun x b h _ => gnear_all x h.1 b, fun _ h => by cases h⟩⟩) (List.forall_mem_cons.2 ⟨enExam_ok ih, fun _ h => by cases h⟩)
def gdF (g : Bool) (ps : List Prop) : Prop := some g = some false ∧ True → Sym.allP ps
theorem gdF_ok {g : Bool} {ps : List Prop} (h : Sym.allP ps) : gdF g ps := fun _ => h
def cvM (d : Int) : Int := W (1 * 2 ^ min d.toNat IntKind.i64.bits)
def cvBad (d u : Int) : Bool := bif W u == 0 then true else (W u).tmod (cvM d) != 0
def cvErr (most a : Int) : Dyn.RX := .leaf (exV 0 0 1) (mtO most a)
def cvG (d u : Int) : List Prop := [gdF (W u == 0) [0 ≤ d], gdF (W u == 0) [cvM d ≠ 0]]
def cvArg (d : Int) (b : B4) : Bool := bif bif decide (d < 0) then true else decide (d > 6) then true else !(boxOk b)
noncomputable def cvO (d : Int) (F : ExF) (x : Sh) (b : B4) (most a : Int) : Dyn.RX :=
  .ite (cvArg d b) (cvErr most a)
  (.side (cvG d (b.x1 - b.x0)) (.ite (cvBad d (b.x1 - b.x0)) (cvErr most a)
  (.side (cvG d (b.y1 - b.y0)) (.ite (cvBad d (b.y1 - b.y0)) (cvErr most a)
  (.side [PdS x, PdG (reachE x), PdG (nearE (reachE x) b)] (.leaf (exV (F (nearE (reachE x) b) b most a).lo (F (nearE (reachE x) b) b most a).hi (F (nearE (reachE x) b) b most a).e) (mtO most (F (nearE (reachE x) b) b most a).a)))))))
/-- what Cover gives -/
def coverF (most d : Int) (s : Shp) (b : B4) (a : Int) : ExR :=
  bif cvArg d b then exNo 1 a else bif cvBad d (b.x1 - b.x0) then exNo 1 a else bif cvBad d (b.y1 - b.y0) then exNo 1 a else exF most d.toNat (nearG (reachF s) b) b a
noncomputable def coverE (d : Int) (x : Sh) (b : B4) (most a : Int) : ExR := coverF most d (ofSh x) b a
theorem cv_sat {d : Nat} {x : Sh} (hx : PdS x) (hd : d ≤ 6) (b : B4) (most a : Int) : (cvO d (exE d) x b most a).sat fun u os => u = exV (coverE d x b most a).lo (coverE d x b most a).hi (coverE d x b most a).e ∧ os = mtO most (coverE d x b most a).a := by
  have hG : ∀ u, Sym.allP (cvG d u) := fun u => by
    have e : d = 0 ∨ d = 1 ∨ d = 2 ∨ d = 3 ∨ d = 4 ∨ d = 5 ∨ d = 6 := by omega
    exact ⟨gdF_ok ⟨by omega, trivial⟩, gdF_ok ⟨by rcases e with rfl | rfl | rfl | rfl | rfl | rfl | rfl <;> decide, trivial⟩, trivial⟩
  have er : exE d (nearE (reachE x) b) b most a = exF most d (nearG (reachF (ofSh x)) b) b a := by
    unfold exE nearE reachE
    rw [ofG_toG, ofG_toG, exF_lst]; rfl
  unfold coverE coverF
  refine ⟨fun h1 => ?_, fun h1 => ⟨hG _, fun h2 => ?_, fun h2 => ⟨hG _, fun h3 => ?_, fun h3 => ⟨⟨hx, reachE_Pd hx, nearE_Pd (reachE_Pd hx) b, trivial⟩, ?_⟩⟩⟩⟩
  · rw [h1]; exact ⟨rfl, rfl⟩
  · rw [h1, h2]; exact ⟨rfl, rfl⟩
  · rw [h1, h2, h3]; exact ⟨rfl, rfl⟩
  · rw [h1, h2, h3, er]; exact ⟨rfl, rfl⟩
theorem cv_O0 (F : ExF) (n : Nat) (f : Nat → List Dyn.DC) (b : B4) (most a : Int) : (Dyn.dfunX Tryz.prog (tabCv 0 F) Dyn.noLp 8 Tryz.f9 (mtL most a) [.d (dvL (obX n f)), .d (dvX b), .d (dvI 0), .lp 0 0]).rx Tryz.prog (mtL most a) Tryz.f9.results = cvO 0 F (obX n f) b most a := by kernel_rfl
theorem cover0 (n : Nat) (f : Nat → List Dyn.DC) (hx : PdS (obX n f)) (b : B4) (most a : Int) : Dyn.CallX Tryz.prog 9 [.d (dvL (obX n f)), .d (dvX b), .d (dvI 0), .lp 0 0] (mtL most a) (exV (coverE 0 (obX n f) b most a).lo (coverE 0 (obX n f) b most a).hi (coverE 0 (obX n f) b most a).e) (mtO most (coverE 0 (obX n f) b most a).a) :=
  Dyn.xcontract (lp := Dyn.noLp) (fuel := 8) (tabCv_ok exam0) mo Tryz.func9 (by kernel_rfl) (c := bodyD Tryz.f9.body) (by kernel_rfl) (fun w0 => Dyn.noLp_ok _ w0) (by kernel_rfl) (by kernel_rfl) (by kernel_rfl) (cv_O0 (exE 0) n f b most a) (cv_sat (d := 0) hx (by decide) b most a)
theorem cv_O1 (F : ExF) (n : Nat) (f : Nat → List Dyn.DC) (b : B4) (most a : Int) : (Dyn.dfunX Tryz.prog (tabCv 1 F) Dyn.noLp 8 Tryz.f9 (mtL most a) [.d (dvL (obX n f)), .d (dvX b), .d (dvI 1), .lp 0 0]).rx Tryz.prog (mtL most a) Tryz.f9.results = cvO 1 F (obX n f) b most a := by kernel_rfl
theorem cover1 (n : Nat) (f : Nat → List Dyn.DC) (hx : PdS (obX n f)) (b : B4) (most a : Int) : Dyn.CallX Tryz.prog 9 [.d (dvL (obX n f)), .d (dvX b), .d (dvI 1), .lp 0 0] (mtL most a) (exV (coverE 1 (obX n f) b most a).lo (coverE 1 (obX n f) b most a).hi (coverE 1 (obX n f) b most a).e) (mtO most (coverE 1 (obX n f) b most a).a) :=
  Dyn.xcontract (lp := Dyn.noLp) (fuel := 8) (tabCv_ok exam1) mo Tryz.func9 (by kernel_rfl) (c := bodyD Tryz.f9.body) (by kernel_rfl) (fun w0 => Dyn.noLp_ok _ w0) (by kernel_rfl) (by kernel_rfl) (by kernel_rfl) (cv_O1 (exE 1) n f b most a) (cv_sat (d := 1) hx (by decide) b most a)
theorem cv_O2 (F : ExF) (n : Nat) (f : Nat → List Dyn.DC) (b : B4) (most a : Int) : (Dyn.dfunX Tryz.prog (tabCv 2 F) Dyn.noLp 8 Tryz.f9 (mtL most a) [.d (dvL (obX n f)), .d (dvX b), .d (dvI 2), .lp 0 0]).rx Tryz.prog (mtL most a) Tryz.f9.results = cvO 2 F (obX n f) b most a := by kernel_rfl
theorem cover2 (n : Nat) (f : Nat → List Dyn.DC) (hx : PdS (obX n f)) (b : B4) (most a : Int) : Dyn.CallX Tryz.prog 9 [.d (dvL (obX n f)), .d (dvX b), .d (dvI 2), .lp 0 0] (mtL most a) (exV (coverE 2 (obX n f) b most a).lo (coverE 2 (obX n f) b most a).hi (coverE 2 (obX n f) b most a).e) (mtO most (coverE 2 (obX n f) b most a).a) :=
  Dyn.xcontract (lp := Dyn.noLp) (fuel := 8) (tabCv_ok exam2) mo Tryz.func9 (by kernel_rfl) (c := bodyD Tryz.f9.body) (by kernel_rfl) (fun w0 => Dyn.noLp_ok _ w0) (by kernel_rfl) (by kernel_rfl) (by kernel_rfl) (cv_O2 (exE 2) n f b most a) (cv_sat (d := 2) hx (by decide) b most a)
theorem cv_O3 (F : ExF) (n : Nat) (f : Nat → List Dyn.DC) (b : B4) (most a : Int) : (Dyn.dfunX Tryz.prog (tabCv 3 F) Dyn.noLp 8 Tryz.f9 (mtL most a) [.d (dvL (obX n f)), .d (dvX b), .d (dvI 3), .lp 0 0]).rx Tryz.prog (mtL most a) Tryz.f9.results = cvO 3 F (obX n f) b most a := by kernel_rfl
theorem cover3 (n : Nat) (f : Nat → List Dyn.DC) (hx : PdS (obX n f)) (b : B4) (most a : Int) : Dyn.CallX Tryz.prog 9 [.d (dvL (obX n f)), .d (dvX b), .d (dvI 3), .lp 0 0] (mtL most a) (exV (coverE 3 (obX n f) b most a).lo (coverE 3 (obX n f) b most a).hi (coverE 3 (obX n f) b most a).e) (mtO most (coverE 3 (obX n f) b most a).a) :=
  Dyn.xcontract (lp := Dyn.noLp) (fuel := 8) (tabCv_ok exam3) mo Tryz.func9 (by kernel_rfl) (c := bodyD Tryz.f9.body) (by kernel_rfl) (fun w0 => Dyn.noLp_ok _ w0) (by kernel_rfl) (by kernel_rfl) (by kernel_rfl) (cv_O3 (exE 3) n f b most a) (cv_sat (d := 3) hx (by decide) b most a)
theorem cv_O4 (F : ExF) (n : Nat) (f : Nat → List Dyn.DC) (b : B4) (most a : Int) : (Dyn.dfunX Tryz.prog (tabCv 4 F) Dyn.noLp 8 Tryz.f9 (mtL most a) [.d (dvL (obX n f)), .d (dvX b), .d (dvI 4), .lp 0 0]).rx Tryz.prog (mtL most a) Tryz.f9.results = cvO 4 F (obX n f) b most a := by kernel_rfl
theorem cover4 (n : Nat) (f : Nat → List Dyn.DC) (hx : PdS (obX n f)) (b : B4) (most a : Int) : Dyn.CallX Tryz.prog 9 [.d (dvL (obX n f)), .d (dvX b), .d (dvI 4), .lp 0 0] (mtL most a) (exV (coverE 4 (obX n f) b most a).lo (coverE 4 (obX n f) b most a).hi (coverE 4 (obX n f) b most a).e) (mtO most (coverE 4 (obX n f) b most a).a) :=
  Dyn.xcontract (lp := Dyn.noLp) (fuel := 8) (tabCv_ok exam4) mo Tryz.func9 (by kernel_rfl) (c := bodyD Tryz.f9.body) (by kernel_rfl) (fun w0 => Dyn.noLp_ok _ w0) (by kernel_rfl) (by kernel_rfl) (by kernel_rfl) (cv_O4 (exE 4) n f b most a) (cv_sat (d := 4) hx (by decide) b most a)
theorem cv_O5 (F : ExF) (n : Nat) (f : Nat → List Dyn.DC) (b : B4) (most a : Int) : (Dyn.dfunX Tryz.prog (tabCv 5 F) Dyn.noLp 8 Tryz.f9 (mtL most a) [.d (dvL (obX n f)), .d (dvX b), .d (dvI 5), .lp 0 0]).rx Tryz.prog (mtL most a) Tryz.f9.results = cvO 5 F (obX n f) b most a := by kernel_rfl
theorem cover5 (n : Nat) (f : Nat → List Dyn.DC) (hx : PdS (obX n f)) (b : B4) (most a : Int) : Dyn.CallX Tryz.prog 9 [.d (dvL (obX n f)), .d (dvX b), .d (dvI 5), .lp 0 0] (mtL most a) (exV (coverE 5 (obX n f) b most a).lo (coverE 5 (obX n f) b most a).hi (coverE 5 (obX n f) b most a).e) (mtO most (coverE 5 (obX n f) b most a).a) :=
  Dyn.xcontract (lp := Dyn.noLp) (fuel := 8) (tabCv_ok exam5) mo Tryz.func9 (by kernel_rfl) (c := bodyD Tryz.f9.body) (by kernel_rfl) (fun w0 => Dyn.noLp_ok _ w0) (by kernel_rfl) (by kernel_rfl) (by kernel_rfl) (cv_O5 (exE 5) n f b most a) (cv_sat (d := 5) hx (by decide) b most a)
theorem cv_O6 (F : ExF) (n : Nat) (f : Nat → List Dyn.DC) (b : B4) (most a : Int) : (Dyn.dfunX Tryz.prog (tabCv 6 F) Dyn.noLp 8 Tryz.f9 (mtL most a) [.d (dvL (obX n f)), .d (dvX b), .d (dvI 6), .lp 0 0]).rx Tryz.prog (mtL most a) Tryz.f9.results = cvO 6 F (obX n f) b most a := by kernel_rfl
theorem cover6 (n : Nat) (f : Nat → List Dyn.DC) (hx : PdS (obX n f)) (b : B4) (most a : Int) : Dyn.CallX Tryz.prog 9 [.d (dvL (obX n f)), .d (dvX b), .d (dvI 6), .lp 0 0] (mtL most a) (exV (coverE 6 (obX n f) b most a).lo (coverE 6 (obX n f) b most a).hi (coverE 6 (obX n f) b most a).e) (mtO most (coverE 6 (obX n f) b most a).a) :=
  Dyn.xcontract (lp := Dyn.noLp) (fuel := 8) (tabCv_ok exam6) mo Tryz.func9 (by kernel_rfl) (c := bodyD Tryz.f9.body) (by kernel_rfl) (fun w0 => Dyn.noLp_ok _ w0) (by kernel_rfl) (by kernel_rfl) (by kernel_rfl) (cv_O6 (exE 6) n f b most a) (cv_sat (d := 6) hx (by decide) b most a)
theorem cover_ok {d : Int} (h0 : 0 ≤ d) (h6 : d ≤ 6) (n : Nat) (f : Nat → List Dyn.DC) (hx : PdS (obX n f)) (b : B4) (most a : Int) : Dyn.CallX Tryz.prog 9 [.d (dvL (obX n f)), .d (dvX b), .d (dvI d), .lp 0 0] (mtL most a) (exV (coverE d (obX n f) b most a).lo (coverE d (obX n f) b most a).hi (coverE d (obX n f) b most a).e) (mtO most (coverE d (obX n f) b most a).a) := by
  have e : d = 0 ∨ d = 1 ∨ d = 2 ∨ d = 3 ∨ d = 4 ∨ d = 5 ∨ d = 6 := by omega
  rcases e with rfl | rfl | rfl | rfl | rfl | rfl | rfl
  · exact cover0 n f hx b most a
  · exact cover1 n f hx b most a
  · exact cover2 n f hx b most a
  · exact cover3 n f hx b most a
  · exact cover4 n f hx b most a
  · exact cover5 n f hx b most a
  · exact cover6 n f hx b most a
/-- an entry for Cover -/
noncomputable def enCov : List Dyn.LA → Dyn.Lent → Option (Value × List (List Value) × List Prop)
  | [.d (.one (.row n f)), .d u, .d (.one (.p (.int .i64 d))), .lp 0 0], [(t, [.int .i64 most, .int .i64 a])] => match aX u, Nat.beq t 59 with
    | some b, true => some (exV (coverE d (obX n f) b most a).lo (coverE d (obX n f) b most a).hi (coverE d (obX n f) b most a).e, mtO most (coverE d (obX n f) b most a).a, [0 ≤ d ∧ d ≤ 6, PdS (obX n f)])
    | _, _ => none
  | _, _ => none
theorem enCov_ok : Dyn.EntryXOk Tryz.prog (9, enCov) := fun az lent u out ps h hp => by
  dsimp only at h
  unfold enCov at h
  split at h
  · rename_i n f u' d t most a
    split at h
    · rename_i b hb ht
      have e1 := Nat.eq_of_beq_eq_true ht
      subst e1
      simp only [Option.some.injEq, Prod.mk.injEq] at h
      obtain ⟨rfl, rfl, rfl⟩ := h
      exact CallX_le2 (Dyn.DVLe.refl _) (aX_eq hb) (cover_ok hp.1.1 hp.1.2 n f hp.2.1 b most a)
    · cases h
  · cases h
end Go.Proofs.YthnenjodighlmaaGreat

/-! ## Pin -/
namespace Go.Proofs.YthnenjodighlmaaGreat
open Go Go.RowKit Sym
set_option maxRecDepth 100000

theorem bandLe (x : Int) (m : Nat) (hm : m < 2 ^ 62) : 0 ≤ band x (m : Int) ∧ band x (m : Int) ≤ m := by
  have h : (BitVec.ofInt 64 x &&& BitVec.ofInt 64 (m : Int)).toNat ≤ m := by
    rw [BitVec.toNat_and]
    refine Nat.le_trans Nat.and_le_right ?_
    simp only [BitVec.toNat_ofInt]
    omega
  unfold band
  rw [W_id (by omega) (by omega)]
  omega
end Go.Proofs.YthnenjodighlmaaGreat

/-! ## Rgf -/
namespace Go.Proofs.YthnenjodighlmaaGreat
open Go Go.RowKit Sym
set_option maxRecDepth 100000

/-- a shift to the left -/
def shlI (v d : Int) : Int := W (v * 2 ^ min (IntKind.u64.wrap d).toNat 64)
def sdK (w d : Int) (s : Bool) : Int := bif s then shlI (W (band w 3 + 1)) d else shlI (W (W ((IntKind.u64.wrap w).tmod 1000000) + 1)) d
def sdP (x y : Int) (s : Bool) : P2 := bif s then lClose (lClose ⟨x, y⟩ 400000000) 25 else lClose ⟨x, y⟩ 400000000
def sideF (x y w d : Int) (s : Bool) : B4 := ⟨(sdP x y s).x, (sdP x y s).y, W ((sdP x y s).x + sdK w d s), W ((sdP x y s).y + sdK w d s)⟩
def tabSd : Dyn.Tabs := Dyn.tabs tbF [] noD noD
theorem tabSd_ok : Dyn.TabsOk Tryz.prog tabSd := Dyn.tabs_ok tbF_ok (fun _ h => by cases h)
def sdO (x y w d : Int) (s : Bool) : Dyn.RO :=
  .side [0 ≤ IntKind.u64.wrap d] (.side [W (400000000 + 1) ≠ 0] (.ite s (.side [0 ≤ IntKind.u64.wrap d, W (25 + 1) ≠ 0] (.leaf (.val (dvX (sideF x y w d true))))) (.leaf (.val (dvX (sideF x y w d false))))))
theorem sd_O (x y w d : Int) (s : Bool) : (Dyn.dfun Tryz.prog tabSd Dyn.noLp 3 Tryz.f7 [dvI x, dvI y, dvI w, dvI d, dvB s]).ro Tryz.prog Tryz.f7.results = sdO x y w d s := by kernel_rfl
theorem u64_pos (d : Int) : 0 ≤ IntKind.u64.wrap d := by
  show 0 ≤ d % 18446744073709551616
  omega
theorem side_ok (x y w d : Int) (s : Bool) : Dyn.CallD Tryz.prog 7 [dvI x, dvI y, dvI w, dvI d, dvB s] (.val (dvX (sideF x y w d s))) :=
  Dyn.dcontract (lp := Dyn.noLp) (fuel := 3) tabSd_ok mo Tryz.func7 (by kernel_rfl) (c := bodyD Tryz.f7.body) (by kernel_rfl) (fun w0 => Dyn.noLp_ok _ w0) (by kernel_rfl) (sd_O x y w d s) (by
    refine ⟨⟨u64_pos d, trivial⟩, ⟨by decide, trivial⟩, fun h => ⟨⟨u64_pos d, by decide, trivial⟩, ?_⟩, fun h => ?_⟩
    · subst h; exact ro_leaf rfl
    · subst h; exact ro_leaf rfl)
end Go.Proofs.YthnenjodighlmaaGreat

/-! ## Rgh -/
namespace Go.Proofs.YthnenjodighlmaaGreat
open Go Go.RowKit Sym
set_option maxRecDepth 100000

theorem CallX_d1 {P : Program} {K : Nat} {u u' v v' : Dyn.DV} {l : List Dyn.LA} {lent : Dyn.Lent} {r : Value} {o : List (List Value)} (h1 : DVd u u') (h2 : Dyn.DVLe v v') (k : Dyn.CallX P K (.d u' :: .d v' :: l) lent r o) : Dyn.CallX P K (.d u :: .d v :: l) lent r o := fun w F bs us hF hn hd hl hden => k w F bs us hF hn hd hl (by
  cases us with
  | nil => exact hden
  | cons x us =>
    cases us with
    | nil => exact ⟨DVd.den h1 hden.1, hden.2⟩
    | cons y us => exact ⟨DVd.den h1 hden.1, Dyn.DenV_le h2 hden.2.1, hden.2.2⟩)
/-! ### a polygon of four points, as a program writes it -/
def p4X (a b c d : P2) : Nat → List Dyn.DC := Dyn.pickL 0 [[cI a.x, cI a.y], [cI b.x, cI b.y], [cI c.x, cI c.y], [cI d.x, cI d.y]]
def p4C (a b c d : P2) : Ctr := ⟨1, fun _ => 4, fun _ k => match k with
  | 0 => a
  | 1 => b
  | 2 => c
  | _ => d⟩
def p4S (a b c d : P2) : Shp := leafS 2 ze ze ze 0 (p4C a b c d)
def p4L (a b c d : P2) : Shp := lForm 1 (fun _ => true) (fun _ => p4S a b c d)
def p4R (a b c d : P2) : Nat → List Dyn.DC := fun _ => [.p (vb true), cI 2, cI 0, cI 0, cI 0, cI 0, cI 0, cI 0, cI 0, .row 1 fun _ => [.row 4 (p4X a b c d)], .row 0 noF]
theorem p4_le (a b c d : P2) : DLe (.row 1 (p4R a b c d)) (.row 1 fun _ => partC true (toSh (p4S a b c d))) :=
  DLe.rowL fun i _ => ⟨.refl _, .refl _, .refl _, .refl _, .refl _, .refl _, .refl _, .refl _, .refl _, DLe.rowL fun i _ => ⟨DLe.rowL fun i hi => by
    rcases (show i = 0 ∨ i = 1 ∨ i = 2 ∨ i = 3 by omega) with rfl | rfl | rfl | rfl <;> exact ⟨.refl _, .refl _, trivial⟩, trivial⟩, DLe.rowL fun i hi => absurd hi (Nat.not_lt_zero i), trivial⟩
theorem p4_B (a b c d : P2) : ShB (p4L a b c d) := ⟨CtrB_ze, by decide, fun i _ => ⟨⟨show 1 ≤ 1000000000 by decide, fun i _ => show 4 ≤ 1000000000 by decide⟩, by decide, fun i hi => absurd hi (Nat.not_lt_zero i)⟩⟩
/-- an entry for Cover of such a list -/
def p4Of (f : Nat → List Dyn.DC) : P2 × P2 × P2 × P2 :=
  match f 0 with
  | [_, _, _, _, _, _, _, _, _, .row _ g, _] => match g 0 with
    | [.row _ p] => match p 0, p 1, p 2, p 3 with
      | [.p (.int _ a), .p (.int _ b)], [.p (.int _ c), .p (.int _ d)], [.p (.int _ e), .p (.int _ f)], [.p (.int _ g), .p (.int _ h)] => (⟨a, b⟩, ⟨c, d⟩, ⟨e, f⟩, ⟨g, h⟩)
      | _, _, _, _ => (ze, ze, ze, ze)
    | _ => (ze, ze, ze, ze)
  | _ => (ze, ze, ze, ze)
def enCovP : List Dyn.LA → Dyn.Lent → Option (Value × List (List Value) × List Prop)
  | [.d (.one (.row n f)), .d u, .d (.one (.p (.int .i64 d))), .lp 0 0], [(t, [.int .i64 most, .int .i64 a])] => match aX u, Nat.beq t 59 with
    | some b, true =>
      let q := p4Of f
      let L := p4L q.1 q.2.1 q.2.2.1 q.2.2.2
      some (exV (coverF most d L b a).lo (coverF most d L b a).hi (coverF most d L b a).e, mtO most (coverF most d L b a).a, [0 ≤ d ∧ d ≤ 6, DLe (.row n f) (.row 1 (p4R q.1 q.2.1 q.2.2.1 q.2.2.2))])
    | _, _ => none
  | _, _ => none
theorem DLe.tr {c d : Dyn.DC} {P : Program} {K : Nat} {v' : Dyn.DV} {l : List Dyn.LA} {lent : Dyn.Lent} {r : Value} {o : List (List Value)} (h : DLe c d) (k : Dyn.CallX P K (.d (.one d) :: .d v' :: l) lent r o) : Dyn.CallX P K (.d (.one c) :: .d v' :: l) lent r o := CallX_d1 (show DVd (.one c) (.one d) from h) (Dyn.DVLe.refl _) k
theorem enCovP_ok : Dyn.EntryXOk Tryz.prog (9, enCovP) := fun az lent u out ps h hp => by
  dsimp only at h
  unfold enCovP at h
  split at h
  · rename_i n f u' d t most a
    split at h
    · rename_i b hb ht
      have e1 := Nat.eq_of_beq_eq_true ht
      subst e1
      dsimp only at h
      generalize p4Of f = q at h
      simp only [Option.some.injEq, Prod.mk.injEq] at h
      obtain ⟨rfl, rfl, rfl⟩ := h
      have k := cover_ok hp.1.1 hp.1.2 1 (fun _ => partC true (toSh (p4S q.1 q.2.1 q.2.2.1 q.2.2.2))) (PdS_mk (p4_B q.1 q.2.1 q.2.2.1 q.2.2.2)) b most a
      unfold coverE at k
      rw [show ofSh (obX 1 fun _ => partC true (toSh (p4S q.1 q.2.1 q.2.2.1 q.2.2.2))) = p4L q.1 q.2.1 q.2.2.1 q.2.2.2 from ofSh_toSh (p4L q.1 q.2.1 q.2.2.1 q.2.2.2)] at k
      exact DLe.tr hp.2.1 (DLe.tr (p4_le _ _ _ _) (CallX_le2 (Dyn.DVLe.refl _) (aX_eq hb) k))
    · cases h
  · cases h
def drMt (K : Nat) : Bool := Nat.beq K 12 || Nat.beq K 9 || Nat.beq K 8
def tabA23 : Dyn.Tabs := Dyn.nwT (Dyn.tabsX tbF [(13, enUsed)] [(12, enTake), (9, enCovP)] drMt dtyG false) nwM
theorem tabA23_ok : Dyn.TabsOk Tryz.prog tabA23 := Dyn.nwT_ok (Dyn.tabsX_ok tbF_ok (List.forall_mem_cons.2 ⟨enUsed_ok, fun _ h => by cases h⟩) (List.forall_mem_cons.2 ⟨enTake_ok, List.forall_mem_cons.2 ⟨enCovP_ok, fun _ h => by cases h⟩⟩)) nwM_ok
def gaL : Shp := p4L ⟨-9, -9⟩ ⟨3, -9⟩ ⟨3, 9⟩ ⟨-9, 9⟩
def awR1 : ExR := coverF (capM 100) 1 gaL ⟨0, 0, 4, 4⟩ 0
def awR2 : ExR := coverF (capM 100) 1 gaL ⟨0, 0, 3, 4⟩ awR1.a
theorem awR1_eq : awR1 = ⟨2, 4, 0, 5⟩ := by kernel_rfl
theorem awR2_eq : awR2 = ⟨0, 0, 1, 5⟩ := by unfold awR2; rw [awR1_eq]; kernel_rfl
def gaV (r1 r2 : ExR) : Bool :=
  bif bif bif bif bif bif (bif r1.lo == 2 then bif r1.hi == 4 then true else false else false) then r1.e == 0 else false then r2.e == 1 else false then imin r2.a (capM 100) == 5 else false then decide (W (0 + 1) ≤ capM 1) else false then !(decide (W (W (0 + 1) + 1) ≤ capM 1)) else false then imin (W (W (0 + 1) + 1)) (capM 1) == 1 else false
def gaD : Dyn.DC := .row 1 (p4R ⟨-9, -9⟩ ⟨3, -9⟩ ⟨3, 9⟩ ⟨-9, 9⟩)
def gaO : Dyn.RO := .side [(0 : Int) ≤ 1 ∧ (1 : Int) ≤ 6, DLe gaD gaD] (.side [(0 : Int) ≤ 1 ∧ (1 : Int) ≤ 6, DLe gaD gaD] (.leaf (rB (gaV awR1 awR2))))
theorem ga_O : (Dyn.dfun Tryz.prog tabA23 Dyn.noLp 8 Tryz.f5 []).ro Tryz.prog Tryz.f5.results = gaO := by kernel_rfl
theorem awake23 : Dyn.CallD Tryz.prog 5 [] (rB true) :=
  Dyn.dcontract (lp := Dyn.noLp) (fuel := 8) tabA23_ok mo Tryz.func5 (by kernel_rfl) (c := bodyD Tryz.f5.body) (by kernel_rfl) (fun w0 => Dyn.noLp_ok _ w0) (by kernel_rfl) ga_O (by
    refine ⟨⟨by decide, .refl _, trivial⟩, ⟨by decide, .refl _, trivial⟩, ?_⟩
    rw [awR1_eq, awR2_eq, show gaV ⟨2, 4, 0, 5⟩ ⟨0, 0, 1, 5⟩ = true by kernel_rfl]
    exact ro_leaf rfl)
end Go.Proofs.YthnenjodighlmaaGreat

/-! ## Rgk -/
namespace Go.Proofs.YthnenjodighlmaaGreat
open Go Go.RowKit Sym
set_option maxRecDepth 100000

theorem shl_eq {v : Int} {D : Nat} (hD : D ≤ 6) (h0 : 0 ≤ v) (h1 : v ≤ 1000000) : shlI v (D : Int) = v * ((2 ^ D : Nat) : Int) := by
  unfold shlI
  have e1 : IntKind.u64.wrap (D : Int) = (D : Int) := by
    show (D : Int) % 18446744073709551616 = D
    omega
  rw [e1, show min (D : Int).toNat 64 = D by omega]
  have e : D = 0 ∨ D = 1 ∨ D = 2 ∨ D = 3 ∨ D = 4 ∨ D = 5 ∨ D = 6 := by omega
  rcases e with rfl | rfl | rfl | rfl | rfl | rfl | rfl <;> (simp only [Int.reducePow, Nat.reducePow, Int.cast_ofNat_Int, Int.natCast_one]; rw [W_id (by omega) (by omega)]; try omega)
theorem sdK_eq (w : Int) {D : Nat} (hD : D ≤ 6) (s : Bool) : ∃ k : Int, 1 ≤ k ∧ k ≤ 1000000 ∧ (s = true → k ≤ 4) ∧ sdK w D s = k * ((2 ^ D : Nat) : Int) := by
  unfold sdK
  cases s with
  | true =>
    have hb : 0 ≤ band w 3 ∧ band w 3 ≤ 3 := bandLe w 3 (by decide)
    have e : W (band w 3 + 1) = band w 3 + 1 := W_id (by omega) (by omega)
    refine ⟨band w 3 + 1, by omega, by omega, fun _ => by omega, ?_⟩
    show shlI (W (band w 3 + 1)) D = _
    rw [e]
    exact shl_eq hD (by omega) (by omega)
  | false =>
    have h0 := u64_pos w
    have h1 : 0 ≤ (IntKind.u64.wrap w).tmod 1000000 ∧ (IntKind.u64.wrap w).tmod 1000000 < 1000000 := by
      rw [Int.tmod_eq_emod_of_nonneg h0]; omega
    refine ⟨(IntKind.u64.wrap w).tmod 1000000 + 1, by omega, by omega, fun h => (by cases h), ?_⟩
    show shlI (W (W ((IntKind.u64.wrap w).tmod 1000000) + 1)) D = _
    rw [W_id (x := (IntKind.u64.wrap w).tmod 1000000) (by omega) (by omega), W_id (x := (IntKind.u64.wrap w).tmod 1000000 + 1) (by omega) (by omega)]
    exact shl_eq hD (by omega) (by omega)
theorem pow_bd {D : Nat} (hD : D ≤ 6) : 1 ≤ ((2 ^ D : Nat) : Int) ∧ ((2 ^ D : Nat) : Int) ≤ 64 := by
  have e : D = 0 ∨ D = 1 ∨ D = 2 ∨ D = 3 ∨ D = 4 ∨ D = 5 ∨ D = 6 := by omega
  rcases e with rfl | rfl | rfl | rfl | rfl | rfl | rfl <;> decide
theorem mulB {k q m : Int} (h0 : 1 ≤ k) (h1 : k ≤ m) (hq0 : 1 ≤ q) (hq : q ≤ 64) : 1 ≤ k * q ∧ k * q ≤ m * 64 := by
  constructor
  · have := Int.mul_le_mul h0 hq0 (by omega) (by omega); omega
  · exact Int.mul_le_mul h1 hq (by omega) (by omega)
/-- what side gives -/
theorem side_dv (x y w : Int) {D : Nat} (hD : D ≤ 6) (s : Bool) : Dv D (sideF x y w D s) ∧ (s = true → (-25 ≤ (sideF x y w D s).x0 ∧ (sideF x y w D s).x1 ≤ 281) ∧ (-25 ≤ (sideF x y w D s).y0 ∧ (sideF x y w D s).y1 ≤ 281)) := by
  obtain ⟨k, k1, k2, k3, ek⟩ := sdK_eq w hD s
  have pw := pow_bd hD
  have mb := mulB k1 k2 pw.1 pw.2
  have hp : (-400000000 ≤ (sdP x y s).x ∧ (sdP x y s).x ≤ 400000000) ∧ (-400000000 ≤ (sdP x y s).y ∧ (sdP x y s).y ≤ 400000000) := by
    cases s with
    | true =>
      have h := lClose_r (lClose ⟨x, y⟩ 400000000) (n := 25) (by decide) (by decide)
      have h' : (-25 ≤ (sdP x y true).x ∧ (sdP x y true).x ≤ 25) ∧ (-25 ≤ (sdP x y true).y ∧ (sdP x y true).y ≤ 25) := h
      omega
    | false => exact lClose_r ⟨x, y⟩ (n := 400000000) (by decide) (by decide)
  have e : sideF x y w D s = ⟨(sdP x y s).x, (sdP x y s).y, (sdP x y s).x + k * ((2 ^ D : Nat) : Int), (sdP x y s).y + k * ((2 ^ D : Nat) : Int)⟩ := by
    unfold sideF
    rw [ek, W_id (x := (sdP x y s).x + k * ((2 ^ D : Nat) : Int)) (by omega) (by omega), W_id (x := (sdP x y s).y + k * ((2 ^ D : Nat) : Int)) (by omega) (by omega)]
  rw [e]
  refine ⟨⟨⟨by dsimp only; omega, by dsimp only; omega, by dsimp only; omega, by dsimp only; omega, by dsimp only; omega, by dsimp only; omega⟩, k, k, k1, k1, by dsimp only; omega, by dsimp only; omega⟩, fun hs => ?_⟩
  subst hs
  have mb4 := mulB k1 (k3 rfl) pw.1 pw.2
  have h := lClose_r (lClose ⟨x, y⟩ 400000000) (n := 25) (by decide) (by decide)
  have h' : (-25 ≤ (sdP x y true).x ∧ (sdP x y true).x ≤ 25) ∧ (-25 ≤ (sdP x y true).y ∧ (sdP x y true).y ≤ 25) := h
  dsimp only
  omega
/-- a box that may be split so often is taken by Cover -/
theorem cvM_eq {D : Nat} (hD : D ≤ 6) : cvM D = ((2 ^ D : Nat) : Int) := by
  have e : D = 0 ∨ D = 1 ∨ D = 2 ∨ D = 3 ∨ D = 4 ∨ D = 5 ∨ D = 6 := by omega
  rcases e with rfl | rfl | rfl | rfl | rfl | rfl | rfl <;> decide
theorem cv_no {D : Nat} (hD : D ≤ 6) {u w : Int} (h0 : 1 ≤ w) (hu : u = w * ((2 ^ D : Nat) : Int)) (hb : u ≤ 2000000000) : cvBad D u = false := by
  have pw := pow_bd hD
  have := two_pos D h0
  unfold cvBad
  rw [W_id (by omega) (by omega), cvM_eq hD, hu, Int.mul_tmod_left]
  rw [show (w * ((2 ^ D : Nat) : Int) == 0) = false by rw [beq_eq_false_iff_ne]; omega]
  rfl
theorem coverF_dv {most : Int} {D : Nat} (hD : D ≤ 6) {s : Shp} {b : B4} (h : Dv D b) (a : Int) : coverF most D s b a = exF most D (nearG (reachF s) b) b a := by
  obtain ⟨hf, w, k, hw, hk, e1, e2⟩ := h
  have := hf.x0; have := hf.x1; have := hf.y0; have := hf.y1
  unfold coverF
  rw [cv_no hD hw e1 (by omega), cv_no hD hk e2 (by omega)]
  rw [show cvArg D b = false by
    unfold cvArg
    rw [(boxOk_iff b).2 hf, decide_eq_false (by omega), decide_eq_false (by omega)]; rfl]
  rfl
theorem coverF_ok {most : Int} {D : Nat} (hD : D ≤ 6) (hm : most ≤ 100000000) {s : Shp} (hg : GoodO s) {b : B4} (h : Dv D b) (hst : stN D ≤ most) : ExOk (coverF most D s b 0) (cnN (pClassC s) D b) 0 (stN D) := by
  rw [coverF_dv hD h]
  have k := exF_ok hm D (by omega) (nearG (reachF s) b) b 0 ((hg.fil _).fil _) h (by omega) (by omega)
  rwa [cn_congr D b h (C := pClassC (nearG (reachF s) b)) (C' := pClassC s) fun q hq hf => by
    rw [near_cls (s := reachF s) (hg.fil _) h.1 hf hq, reach_cls hg hf]] at k
end Go.Proofs.YthnenjodighlmaaGreat

/-! ## Rgj -/
namespace Go.Proofs.YthnenjodighlmaaGreat
open Go Go.RowKit Sym
set_option maxRecDepth 100000

/-! ### a disc around (0, 0), as a program writes it -/
def enSide : List Dyn.DV → Option (Dyn.RV × List Prop)
  | [.one (.p (.int .i64 x)), .one (.p (.int .i64 y)), .one (.p (.int .i64 w)), .one (.p (.int .i64 d)), .one (.p (.bool s))] => some (.val (dvX (sideF x y w d s)), [])
  | _ => none
theorem enSide_ok : Dyn.EntryDOk Tryz.prog (7, enSide) := fun args r ps h hp => by
  dsimp only at h
  unfold enSide at h
  split at h
  · simp only [Option.some.injEq, Prod.mk.injEq] at h
    obtain ⟨rfl, rfl⟩ := h
    exact side_ok _ _ _ _ _
  · cases h
/-! ### plain -/
end Go.Proofs.YthnenjodighlmaaGreat

/-! ## Rgl -/
namespace Go.Proofs.YthnenjodighlmaaGreat
open Go Go.RowKit Sym
set_option maxRecDepth 100000

def slT (X : Dyn.Tabs) : Dyn.Tabs := { tb := X.tb, td := X.td, dres := X.dres, dty := X.dty, pin := X.pin, tx := X.tx, dtmp := X.dtmp, ext := X.ext, pl := X.pl, nw := X.nw, sl := true }
theorem slT_ok {P : Program} {X : Dyn.Tabs} (h : Dyn.TabsOk P X) : Dyn.TabsOk P (slT X) := ⟨h.nw, h.pl, h.tb, h.tx, h.td⟩
noncomputable def tdRf : List Dyn.EntryD := [(13, enUsed), (5, en0R (rB true)), (4, en1D (qAnd qL PdW) fun x => rB (small21 (ofSh x))), (6, en2D (qAnd qL PdS) qB fun x q => .val (dvL (toSh (tame21 (ofSh x) q)))), (7, enSide)]
theorem tdRf_ok : ∀ e ∈ tdRf, Dyn.EntryDOk Tryz.prog e := List.forall_mem_cons.2 ⟨enUsed_ok, List.forall_mem_cons.2 ⟨en0R_ok awake23, List.forall_mem_cons.2 ⟨en1D_ok (qAnd_ok qL_ok) fun x h => small21_all x h.1, List.forall_mem_cons.2 ⟨en2D_ok (qAnd_ok qL_ok) qB_ok fun x q h _ => tame21_all x h.1 q, List.forall_mem_cons.2 ⟨enSide_ok, fun _ h => by cases h⟩⟩⟩⟩⟩
def drRf (K : Nat) : Bool := Nat.beq K 6 || Nat.beq K 9 || Nat.beq K 8
noncomputable def rfC (X : Sh) (d : Int) (b : B4) : ExR := coverE d (obX X.n X.f) b (capM 1000000) 0
/-! ### plain -/
theorem Dv.less {d : Nat} {b : B4} (h : Dv (d + 1) b) : Dv d b := by
  obtain ⟨hf, w, k, hw, hk, e1, e2⟩ := h
  rw [two_step] at e1 e2
  exact ⟨hf, 2 * w, 2 * k, by omega, by omega, by rw [Int.mul_assoc]; exact e1, by rw [Int.mul_assoc]; exact e2⟩
theorem side_sq (x y w : Int) {D : Nat} (hD : D ≤ 6) (s : Bool) : (sideF x y w D s).x1 - (sideF x y w D s).x0 = (sideF x y w D s).y1 - (sideF x y w D s).y0 := by
  obtain ⟨k, k1, k2, k3, ek⟩ := sdK_eq w hD s
  have pw := pow_bd hD
  have mb := mulB k1 k2 pw.1 pw.2
  have hp : (-400000000 ≤ (sdP x y s).x ∧ (sdP x y s).x ≤ 400000000) ∧ (-400000000 ≤ (sdP x y s).y ∧ (sdP x y s).y ≤ 400000000) := by
    cases s with
    | true =>
      have h := lClose_r (lClose ⟨x, y⟩ 400000000) (n := 25) (by decide) (by decide)
      have h' : (-25 ≤ (sdP x y true).x ∧ (sdP x y true).x ≤ 25) ∧ (-25 ≤ (sdP x y true).y ∧ (sdP x y true).y ≤ 25) := h
      omega
    | false => exact lClose_r ⟨x, y⟩ (n := 400000000) (by decide) (by decide)
  unfold sideF
  dsimp only
  rw [ek, W_id (x := (sdP x y s).x + k * ((2 ^ D : Nat) : Int)) (by omega) (by omega), W_id (x := (sdP x y s).y + k * ((2 ^ D : Nat) : Int)) (by omega) (by omega)]
  omega
end Go.Proofs.YthnenjodighlmaaGreat

/-! ## Rsk -/
namespace Go.Proofs.YthnenjodighlmaaGreat
open Go Go.RowKit Sym
set_option maxRecDepth 100000

def rsC (j : Int) (q : P2) (k : Int) : P2 := ⟨W (q.x + W (band j 1 * k)), W (q.y + W (j.fdiv (2 ^ min (Int.toNat 1) IntKind.i64.bits) * k))⟩
def rsQ (b : B4) (n k i : Int) : P2 := ⟨W (b.x0 + W (i.tmod n * k)), W (b.y0 + W (W (i.tdiv n) * k))⟩
/-- how many of a cell's corners are covered -/
def rsN (H : P2 → Bool) (q : P2) (k : Int) : Int := up (H (rsC 3 q k)) (up (H (rsC 2 q k)) (up (H (rsC 1 q k)) (up (H (rsC 0 q k)) 0)))
def rsG (H : P2 → Bool) (b : B4) (n k : Int) (i : Nat) (a : Int × Int) : Int × Int := (up (rsN H (rsQ b n k i) k == 4) a.1, up (decide (rsN H (rsQ b n k i) k > 0)) a.2)
def rsM (n : Int) : Nat := (W (n * n)).toNat
def rsF (H : P2 → Bool) (b : B4) (n k : Int) : Int × Int := foldN (rsG H b n k) (0, 0) (rsM n)
noncomputable def tdRs : List Dyn.EntryD := (10, en2D (qAnd qL PdS) qP fun x p => rB (rPile (ofSh x) p)) :: tdRf
theorem tdRs_ok : ∀ e ∈ tdRs, Dyn.EntryDOk Tryz.prog e := List.forall_mem_cons.2 ⟨en2D_ok (qAnd_ok qL_ok) qP_ok fun x p h _ => rPile_all x h.1 p, tdRf_ok⟩
noncomputable def tabRs : Dyn.Tabs := slT (Dyn.nwT (Dyn.tabsX tbF tdRs [(9, enCov)] drRf dtyG false) nwM)
theorem tabRs_ok : Dyn.TabsOk Tryz.prog tabRs := slT_ok (Dyn.nwT_ok (Dyn.tabsX_ok tbF_ok tdRs_ok (List.forall_mem_cons.2 ⟨enCov_ok, fun _ h => by cases h⟩)) nwM_ok)
def rsS (X : Sh) (b : B4) (n k lo hi wh so i : Int) : Dyn.St := mkS 155 [(0, sH 0 0 X.n), (12, .k (vb false)), (13, sL 1), (15, sL 2), (17, sI n), (18, sI k), (19, sI wh), (20, sI so), (21, sI i)] [some (.deep [.row X.n X.f]), some (.cells 27 (bxV b)), some (.cells 32 [vi lo, vi hi])]
def rsK : List Nat := [0, 12, 13, 15, 17, 18, 19, 20, 21]
noncomputable def rsH (X : Sh) : P2 → Bool := rPile (ofSh (obX X.n X.f))
noncomputable def rsLp (X : Sh) (b : B4) (n k lo hi : Int) : Dyn.Lp := fun id st => match id with
  | 0 => some (.side [keepA 155 [7, 18, 30] [] rsK (2 ^ 19 + 2 ^ 20 + 2 ^ 21) st = rsS X b n k lo hi 0 0 0, PdS (obX X.n X.f)] (.leaf .normal (rsS X b n k lo hi (rsF (rsH X) b n k).1 (rsF (rsH X) b n k).2 (rsM n))))
  | _ => none
noncomputable def rsB (X : Sh) (b : B4) (n k lo hi : Int) (i : Nat) (a : Int × Int) : Dyn.Out :=
  .ite (decide ((i : Int) < W (n * n))) (.side [n ≠ 0, n ≠ 0] (.side [PdS (obX X.n X.f)] (.side [PdS (obX X.n X.f)] (.side [PdS (obX X.n X.f)] (.side [PdS (obX X.n X.f)] (.leaf .normal (rsS X b n k lo hi (rsG (rsH X) b n k i a).1 (rsG (rsH X) b n k i a).2 (W (i + 1))))))))) (.leaf (.exit 0) (rsS X b n k lo hi a.1 a.2 i))
theorem rs_B (X : Sh) (b : B4) (n k lo hi : Int) (i : Nat) (wh so : Int) : (Dyn.lexec Tryz.prog tabRs (rsLp X b n k lo hi) 6 (unloopD (blkD Tryz.f3.body 0)) .leaf (rsS X b n k lo hi wh so i)).rl (fun _ s => keepA 155 [0, 1, 2] [] rsK 0 s) = rsB X b n k lo hi i (wh, so) := by kernel_rfl
theorem rs_blocks : blocksL (bodyD Tryz.f3.body) = [(0, .loop (unloopD (blkD Tryz.f3.body 0))), (1, blkD Tryz.f3.body 1), (2, .loop (unloopD (blkD Tryz.f3.body 2))), (3, blkD Tryz.f3.body 3)] := by kernel_rfl
theorem rs_b0 : blocksL (unloopD (blkD Tryz.f3.body 0)) = [(1, blkD Tryz.f3.body 1), (2, .loop (unloopD (blkD Tryz.f3.body 2))), (3, blkD Tryz.f3.body 3)] := by kernel_rfl
theorem rs_loop (X : Sh) (b : B4) (n k lo hi : Int) (hn : 1 ≤ n ∧ n ≤ 8) (w0 : Dyn.Base Tryz.prog) (s : Dyn.St) (o : Dyn.Out) (h : rsLp X b n k lo hi 0 s = some o) : Dyn.BlockSound Tryz.prog w0 0 (.loop (unloopD (blkD Tryz.f3.body 0))) s o := by
  simp only [rsLp, Option.some.injEq] at h
  subst h
  refine side_two fun hS hP => ?_
  have sq : 0 ≤ n * n ∧ n * n ≤ 64 := ⟨Int.mul_nonneg (by omega) (by omega), Int.mul_le_mul hn.2 hn.2 (by omega) (by omega)⟩
  have hM : W (n * n) = (rsM n : Int) := by unfold rsM; rw [W_id (by omega) (by omega)]; omega
  have hM2 : rsM n ≤ 64 := by unfold rsM; rw [W_id (by omega) (by omega)]; omega
  have hB : ∀ (i : Nat) (a : Int × Int), (Dyn.lexec Tryz.prog tabRs (rsLp X b n k lo hi) 6 (unloopD (blkD Tryz.f3.body 0)) .leaf (rsS X b n k lo hi a.1 a.2 i)).rl (fun _ s => keepA 155 [0, 1, 2] [] rsK 0 s) = rsB X b n k lo hi i a := fun i a => rs_B X b n k lo hi i a.1 a.2
  have hE : Dyn.Ent w0 s (rsS X b n k lo hi ((0, 0) : Int × Int).1 ((0, 0) : Int × Int).2 ((0 : Nat) : Int)) := by
    have := keepA_ent (w0 := w0) 155 [7, 18, 30] [] rsK (2 ^ 19 + 2 ^ 20 + 2 ^ 21) s
    rw [hS] at this
    exact this
  have hL : Dyn.LpOk Tryz.prog w0 (rsLp X b n k lo hi) (blocksL (unloopD (blkD Tryz.f3.body 0))) := by
    rw [rs_b0]
    exact lpOk_cons (fun s o h => by cases h) (lpOk_cons (fun s o h => by cases h) (lpOk_cons (fun s o h => by cases h) lpOk_nil))
  clear hS
  have hst : ∀ i, i < rsM n → (rsB X b n k lo hi i (foldN (rsG (rsH X) b n k) (0, 0) i)).sat fun e s => e = .normal ∧ Dyn.Fits s (rsS X b n k lo hi (foldN (rsG (rsH X) b n k) (0, 0) (i + 1)).1 (foldN (rsG (rsH X) b n k) (0, 0) (i + 1)).2 ((i + 1 : Nat) : Int)) := fun i hi' => by
    unfold rsB
    refine ⟨fun _ => ⟨⟨by omega, by omega, trivial⟩, ⟨hP, trivial⟩, ⟨hP, trivial⟩, ⟨hP, trivial⟩, ⟨hP, trivial⟩, rfl, ?_⟩, fun hf => ?_⟩
    · rw [Wn1 hi' (by omega)]; exact Dyn.Fits.refl _
    · rw [decide_eq_false_iff_not, hM] at hf; omega
  have hen : (rsB X b n k lo hi (rsM n) (foldN (rsG (rsH X) b n k) (0, 0) (rsM n))).sat fun e s => e = .exit 0 ∧ Dyn.Fits s (rsS X b n k lo hi (foldN (rsG (rsH X) b n k) (0, 0) (rsM n)).1 (foldN (rsG (rsH X) b n k) (0, 0) (rsM n)).2 ((rsM n : Nat) : Int)) := by
    refine ⟨fun ht => ?_, fun _ => ⟨rfl, Dyn.Fits.refl _⟩⟩
    rw [decide_eq_true_eq, hM] at ht; omega
  have := fold_block (fuel := 6) tabRs_ok mo (lp := rsLp X b n k lo hi) (id := 0) hL (fun i (a : Int × Int) => rsS X b n k lo hi a.1 a.2 i) (rsM n) (rsG (rsH X) b n k) (0, 0) (fun _ s => keepA 155 [0, 1, 2] [] rsK 0 s) (fun _ s => keepA_ent 155 _ _ _ 0 s) (fun i a => rsB X b n k lo hi i a) hB hst hen hE
  exact this
def rsV (lo hi wh so n : Int) : Bool := andB (andB (andB (andB (andB (decide (lo ≤ wh)) (decide (hi ≥ so))) (decide (lo ≤ hi))) (decide (lo ≥ 0))) (decide (hi ≤ W (n * n)))) true
noncomputable def rsO1 (X : Sh) (b : B4) (d n k : Int) : Dyn.RO :=
  .side [0 ≤ d ∧ d ≤ 6, PdS (obX X.n X.f)] (.ite ((rfC X d b).e != 0) (.leaf (rB false)) (.side [0 ≤ U d] (.side [n ≠ 0] (.side [rsS X b n k (rfC X d b).lo (rfC X d b).hi 0 0 0 = rsS X b n k (rfC X d b).lo (rfC X d b).hi 0 0 0, PdS (obX X.n X.f)]
    (.leaf (rB (rsV (rfC X d b).lo (rfC X d b).hi (rsF (rsH X) b n k).1 (rsF (rsH X) b n k).2 n)))))))
noncomputable def rsX (n : Nat) (f : Nat → List Dyn.DC) (s : Bool) : Sh := toSh (tame21 (ofSh (obX (imin n 6).toNat f)) s)
def rsKk (b : B4) (n : Int) : Int := W ((W (b.x1 - b.x0)).tdiv n)
noncomputable def rsO (n : Nat) (f : Nat → List Dyn.DC) (x y w m : Int) (s : Bool) : Dyn.RO :=
  .side [PdW (obX n f)] (.ite (!(small21 (ofSh (obX n f)))) (.leaf (rB true))
  (.side [0 ≤ imin n 6 ∧ imin n 6 ≤ n, PdS (obX (imin n 6).toNat f)] (rsO1 (rsX n f s) (sideF x y w (band m 3) s) (band m 3) (shlI 1 (band m 3)) (rsKk (sideF x y w (band m 3) s) (shlI 1 (band m 3))))))
theorem rs_O (n : Nat) (f : Nat → List Dyn.DC) (x y w m : Int) (s : Bool) :
    (Dyn.dfun Tryz.prog tabRs (rsLp (rsX n f s) (sideF x y w (band m 3) s) (shlI 1 (band m 3)) (rsKk (sideF x y w (band m 3) s) (shlI 1 (band m 3))) (rfC (rsX n f s) (band m 3) (sideF x y w (band m 3) s)).lo (rfC (rsX n f s) (band m 3) (sideF x y w (band m 3) s)).hi) 6 Tryz.f3 [dvL (obX n f), dvI x, dvI y, dvI w, dvI m, dvB s]).ro Tryz.prog Tryz.f3.results = rsO n f x y w m s := by kernel_rfl
end Go.Proofs.YthnenjodighlmaaGreat

/-! ## Rsl -/
namespace Go.Proofs.YthnenjodighlmaaGreat
open Go Go.RowKit Sym
set_option maxRecDepth 100000

theorem lInX_hit {lo hi v : Int} (h1 : In30 lo) (h2 : In30 hi) (a : lo ≤ v) (b : v ≤ hi) : lInX lo hi (v - lo) = v := by
  obtain ⟨p, q⟩ := h1; obtain ⟨r, s⟩ := h2
  unfold lInX
  rw [W_id (x := hi - lo) (by omega) (by omega), W_id (x := hi - lo + 1) (by omega) (by omega), U_id (x := hi - lo + 1) (by omega) (by omega), U_id (x := v - lo) (by omega) (by omega),
    Int.tmod_eq_emod_of_nonneg (by omega), Int.emod_eq_of_lt (by omega) (by omega), W_id (x := v - lo) (by omega) (by omega), W_id (by omega) (by omega)]
  omega
theorem inB_near {b : B4} (hf : Fits b) {p : P2} (h : inB b p) : nearF p = true := by
  obtain ⟨⟨a1, a2⟩, a3, a4⟩ := h
  have := hf.x0; have := hf.x1; have := hf.y0; have := hf.y1
  unfold nearF
  rw [decide_eq_true (show p.x ≥ -536870912 by omega), decide_eq_true (show p.x ≤ 536870912 by omega), decide_eq_true (show p.y ≥ -536870912 by omega), decide_eq_true (show p.y ≤ 536870912 by omega)]; rfl
theorem pile_sure_at (sm : Bool) (s : Shp) (h : ShB s) {b : B4} (hf : Fits b) {p : P2} (hp : inB b p) : Sure (pHas (tame21 s sm) p) (pClassC (tame21 s sm) b) := by
  have hb := fitsBR hf
  obtain ⟨⟨a1, a2⟩, a3, a4⟩ := hp
  have q := pile_sure sm hb hf hf.x hf.y (p.x - b.x0) (p.y - b.y0) s h
  rw [show lIn b (p.x - b.x0) (p.y - b.y0) = p by unfold lIn; rw [lInX_hit hb.x0 hb.x1 a1 a2, lInX_hit hb.y0 hb.y1 a3 a4], pClass_C] at q
  exact q
/-! ### one cell -/
theorem rsN_all (H : P2 → Bool) {q : P2} {k : Int} (hx : -1000000000 ≤ q.x ∧ q.x ≤ 1000000000) (hy : -1000000000 ≤ q.y ∧ q.y ≤ 1000000000) (hk : 0 ≤ k ∧ k ≤ 2000000000) : (rsN H q k == 4) = allF H k q.x q.y ∧ decide (rsN H q k > 0) = anyF H k q.x q.y := by
  have c0 : rsC 0 q k = ⟨q.x, q.y⟩ := by
    unfold rsC
    rw [show band 0 1 = 0 by decide +kernel, show (0 : Int).fdiv (2 ^ min (Int.toNat 1) IntKind.i64.bits) = 0 by decide +kernel, Int.zero_mul, show W 0 = 0 by decide +kernel, Int.add_zero, Int.add_zero, W_id (by omega) (by omega), W_id (by omega) (by omega)]
  have c1 : rsC 1 q k = ⟨q.x + k, q.y⟩ := by
    unfold rsC
    rw [show band 1 1 = 1 by decide +kernel, show (1 : Int).fdiv (2 ^ min (Int.toNat 1) IntKind.i64.bits) = 0 by decide +kernel, Int.zero_mul, show W 0 = 0 by decide +kernel, Int.add_zero, Int.one_mul, W_id (x := k) (by omega) (by omega), W_id (by omega) (by omega), W_id (by omega) (by omega)]
  have c2 : rsC 2 q k = ⟨q.x, q.y + k⟩ := by
    unfold rsC
    rw [show band 2 1 = 0 by decide +kernel, show (2 : Int).fdiv (2 ^ min (Int.toNat 1) IntKind.i64.bits) = 1 by decide +kernel, Int.zero_mul, show W 0 = 0 by decide +kernel, Int.add_zero, Int.one_mul, W_id (x := k) (by omega) (by omega), W_id (by omega) (by omega), W_id (by omega) (by omega)]
  have c3 : rsC 3 q k = ⟨q.x + k, q.y + k⟩ := by
    unfold rsC
    rw [show band 3 1 = 1 by decide +kernel, show (3 : Int).fdiv (2 ^ min (Int.toNat 1) IntKind.i64.bits) = 1 by decide +kernel, Int.one_mul, W_id (x := k) (by omega) (by omega), W_id (by omega) (by omega), W_id (by omega) (by omega)]
  unfold rsN allF anyF
  rw [c0, c1, c2, c3]
  generalize H ⟨q.x, q.y⟩ = h0
  generalize H ⟨q.x + k, q.y⟩ = h1
  generalize H ⟨q.x, q.y + k⟩ = h2
  generalize H ⟨q.x + k, q.y + k⟩ = h3
  cases h0 <;> cases h1 <;> cases h2 <;> cases h3 <;> exact ⟨by decide +kernel, by decide +kernel⟩
/-! ### all of them -/
def celN (f : Int → Int → Nat) (b : B4) (k : Int) (N i : Nat) : Nat := f (b.x0 + ((i % N : Nat) : Int) * k) (b.y0 + ((i / N : Nat) : Int) * k)
theorem cel_rows (f : Int → Int → Nat) (b : B4) (k : Int) (N : Nat) (hN : 1 ≤ N) : sumN (celN f b k N) (N * N) = rowsN f k N N b.x0 b.y0 := by
  rw [sum_rows]
  unfold rowsN
  refine sum_congr fun j _ => sum_congr fun i hi => ?_
  unfold celN
  rw [show (j * N + i) % N = i by rw [Nat.mul_comm, Nat.mul_add_mod]; exact Nat.mod_eq_of_lt hi, show (j * N + i) / N = j by rw [Nat.mul_comm, Nat.mul_add_div (by omega), Nat.div_eq_of_lt hi]; omega]
theorem rsF_cel {H G : P2 → Bool} {b : B4} {k : Int} {N : Nat} (hN : 1 ≤ N) (hN8 : N ≤ 8) (hk : 1 ≤ k) (hf : Fits b) (hx : b.x1 - b.x0 = k * (N : Int)) (hy : b.y1 - b.y0 = k * (N : Int)) (hH : ∀ p, inB b p → H p = G p) :
    ∀ m, m ≤ N * N → foldN (rsG H b N k) (0, 0) m = (((sumN (celN (oneAll G k) b k N) m : Nat) : Int), ((sumN (celN (oneAny G k) b k N) m : Nat) : Int)) ∧ sumN (celN (oneAll G k) b k N) m ≤ m ∧ sumN (celN (oneAny G k) b k N) m ≤ m
  | 0, _ => ⟨rfl, Nat.le_refl _, Nat.le_refl _⟩
  | m + 1, hm => by
    obtain ⟨ih, i1, i2⟩ := rsF_cel hN hN8 hk hf hx hy hH m (by omega)
    have hNN : N * N ≤ 8 * 8 := Nat.mul_le_mul hN8 hN8
    have f1 := hf.x0; have f2 := hf.x; have f3 := hf.x1; have f4 := hf.y0; have f5 := hf.y; have f6 := hf.y1
    have r1 : m % N < N := Nat.mod_lt _ (by omega)
    have r2 : m / N < N := Nat.div_lt_of_lt_mul (by omega)
    generalize hu : m % N = u at *
    generalize hv : m / N = v at *
    have pu : 0 ≤ (u : Int) * k := Int.mul_nonneg (by omega) (by omega)
    have pv : 0 ≤ (v : Int) * k := Int.mul_nonneg (by omega) (by omega)
    have qu : (u : Int) * k + k ≤ k * (N : Int) := by
      have : ((u : Int) + 1) * k ≤ (N : Int) * k := Int.mul_le_mul_of_nonneg_right (by omega) (by omega)
      rw [Int.add_mul, Int.one_mul, Int.mul_comm (N : Int)] at this; exact this
    have qv : (v : Int) * k + k ≤ k * (N : Int) := by
      have : ((v : Int) + 1) * k ≤ (N : Int) * k := Int.mul_le_mul_of_nonneg_right (by omega) (by omega)
      rw [Int.add_mul, Int.one_mul, Int.mul_comm (N : Int)] at this; exact this
    have eQ : rsQ b N k m = ⟨b.x0 + (u : Int) * k, b.y0 + (v : Int) * k⟩ := by
      unfold rsQ
      rw [Int.tmod_eq_emod_of_nonneg (by omega), Int.tdiv_eq_ediv_of_nonneg (by omega), show ((m : Int) % (N : Int)) = (u : Int) by rw [← hu]; rfl, show ((m : Int) / (N : Int)) = (v : Int) by rw [← hv]; rfl,
        W_id (x := (v : Int)) (by omega) (by omega), W_id (x := (u : Int) * k) (by omega) (by omega), W_id (x := (v : Int) * k) (by omega) (by omega), W_id (by omega) (by omega), W_id (by omega) (by omega)]
    obtain ⟨g1, g2⟩ := rsN_all H (q := rsQ b N k m) (k := k) (by rw [eQ]; dsimp only; omega) (by rw [eQ]; dsimp only; omega) (by omega)
    rw [eQ] at g1 g2
    dsimp only at g1 g2
    have s1 : sumN (celN (oneAll G k) b k N) (m + 1) = sumN (celN (oneAll G k) b k N) m + oneN (allF G k (b.x0 + (u : Int) * k) (b.y0 + (v : Int) * k)) := by
      show _ + celN (oneAll G k) b k N m = _
      unfold celN oneAll; rw [hu, hv]
    have s2 : sumN (celN (oneAny G k) b k N) (m + 1) = sumN (celN (oneAny G k) b k N) m + oneN (anyF G k (b.x0 + (u : Int) * k) (b.y0 + (v : Int) * k)) := by
      show _ + celN (oneAny G k) b k N m = _
      unfold celN oneAny; rw [hu, hv]
    have cor : ∀ a c, (a = b.x0 + (u : Int) * k ∨ a = b.x0 + (u : Int) * k + k) → (c = b.y0 + (v : Int) * k ∨ c = b.y0 + (v : Int) * k + k) → H ⟨a, c⟩ = G ⟨a, c⟩ := fun a c ha hc =>
      hH _ ⟨⟨by dsimp only; omega, by dsimp only; omega⟩, by dsimp only; omega, by dsimp only; omega⟩
    have e1 : allF H k (b.x0 + (u : Int) * k) (b.y0 + (v : Int) * k) = allF G k (b.x0 + (u : Int) * k) (b.y0 + (v : Int) * k) := by
      unfold allF
      rw [cor _ _ (.inl rfl) (.inl rfl), cor _ _ (.inr rfl) (.inl rfl), cor _ _ (.inl rfl) (.inr rfl), cor _ _ (.inr rfl) (.inr rfl)]
    have e2 : anyF H k (b.x0 + (u : Int) * k) (b.y0 + (v : Int) * k) = anyF G k (b.x0 + (u : Int) * k) (b.y0 + (v : Int) * k) := by
      unfold anyF
      rw [cor _ _ (.inl rfl) (.inl rfl), cor _ _ (.inr rfl) (.inl rfl), cor _ _ (.inl rfl) (.inr rfl), cor _ _ (.inr rfl) (.inr rfl)]
    have st : foldN (rsG H b N k) (0, 0) (m + 1) = rsG H b N k m (foldN (rsG H b N k) (0, 0) m) := rfl
    rw [s1, s2, st, ih]
    have l1 := oneN_le (allF G k (b.x0 + (u : Int) * k) (b.y0 + (v : Int) * k))
    have l2 := oneN_le (anyF G k (b.x0 + (u : Int) * k) (b.y0 + (v : Int) * k))
    refine ⟨?_, by omega, by omega⟩
    unfold rsG
    rw [eQ, g1, g2, e1, e2]
    generalize sumN (celN (oneAll G k) b k N) m = A at *
    generalize sumN (celN (oneAny G k) b k N) m = B at *
    have upE : ∀ (c : Bool) (n : Nat), n ≤ 64 → up c (n : Int) = ((n + oneN c : Nat) : Int) := fun c n hn => by
      cases c
      · show (n : Int) = ((n + 0 : Nat) : Int); omega
      · show W ((n : Int) + 1) = ((n + 1 : Nat) : Int); rw [W_id (by omega) (by omega)]; omega
    rw [upE _ A (by omega), upE _ B (by omega)]
theorem cells_sq (D : Nat) : cellsN D = (((2 ^ D) * (2 ^ D) : Nat) : Int) := by
  unfold cellsN
  rw [← Nat.pow_add, ← Nat.two_mul, Nat.pow_mul]
/-- what is counted lies where it should -/
theorem rs_plain (sm : Bool) (s : Shp) (hs : ShB s) {b : B4} {D : Nat} (hD : D ≤ 3) (hd : Dv D b) (hq : b.x1 - b.x0 = b.y1 - b.y0) :
    rsV (cnN (pClassC (tame21 s sm)) D b).1 (cnN (pClassC (tame21 s sm)) D b).2 (rsF (rPile (tame21 s sm)) b ((2 ^ D : Nat) : Int) (rsKk b ((2 ^ D : Nat) : Int))).1 (rsF (rPile (tame21 s sm)) b ((2 ^ D : Nat) : Int) (rsKk b ((2 ^ D : Nat) : Int))).2 ((2 ^ D : Nat) : Int) = true := by
  have hf := hd.1
  have hd' := hd
  obtain ⟨_, w, _, hw, _, ex, _⟩ := hd'
  have ey : b.y1 - b.y0 = w * ((2 ^ D : Nat) : Int) := by rw [← hq]; exact ex
  have f1 := hf.x0; have f2 := hf.x; have f3 := hf.x1; have f4 := hf.y0; have f5 := hf.y; have f6 := hf.y1
  have hN : 1 ≤ 2 ^ D := Nat.two_pow_pos D
  have hN8 : 2 ^ D ≤ 8 := Nat.pow_le_pow_right (n := 2) (by decide) hD
  have ww : w * 1 ≤ w * ((2 ^ D : Nat) : Int) := Int.mul_le_mul_of_nonneg_left (by omega) (by omega)
  have ek : rsKk b ((2 ^ D : Nat) : Int) = w := by
    unfold rsKk
    rw [W_id (x := b.x1 - b.x0) (by omega) (by omega), ex, Int.mul_tdiv_cancel _ (by omega), W_id (by omega) (by omega)]
  rw [ek]
  have gs := cn_gs (C := pClassC (tame21 s sm)) (H := pHas (tame21 s sm)) hw D b hd ex ey fun q _ hq => ⟨fun h2 p hp => (pile_sure_at sm s hs hq hp).i1 h2, fun h0 p hp => (pile_sure_at sm s hs hq hp).i0 h0⟩
  rw [gs_rows, gs_rows, ← cel_rows _ b w _ hN, ← cel_rows _ b w _ hN] at gs
  have hc := rsF_cel (H := rPile (tame21 s sm)) (G := pHas (tame21 s sm)) hN hN8 hw hf ex ey (fun p hp => rPile_eq sm (inB_near hf hp) s hs) (2 ^ D * 2 ^ D) (Nat.le_refl _)
  have n2 : 2 ^ D * 2 ^ D ≤ 8 * 8 := Nat.mul_le_mul hN8 hN8
  have ec : ((2 ^ D : Nat) : Int) * ((2 ^ D : Nat) : Int) = ((2 ^ D * 2 ^ D : Nat) : Int) := (Int.natCast_mul _ _).symm
  have eW : W (((2 ^ D : Nat) : Int) * ((2 ^ D : Nat) : Int)) = ((2 ^ D * 2 ^ D : Nat) : Int) := by rw [ec]; exact W_id (by omega) (by omega)
  have eM : rsM ((2 ^ D : Nat) : Int) = 2 ^ D * 2 ^ D := by unfold rsM; rw [eW]; omega
  have eF0 : rsF (rPile (tame21 s sm)) b ((2 ^ D : Nat) : Int) w = foldN (rsG (rPile (tame21 s sm)) b ((2 ^ D : Nat) : Int) w) (0, 0) (2 ^ D * 2 ^ D) := by
    unfold rsF
    rw [eM]
  have eF := eF0.trans hc.1
  rw [eF]
  have bd := cn_bd (pClassC (tame21 s sm)) D b
  rw [cells_sq] at bd
  unfold rsV
  rw [eW, decide_eq_true (show (cnN (pClassC (tame21 s sm)) D b).1 ≤ _ from gs.1), decide_eq_true (show (cnN (pClassC (tame21 s sm)) D b).2 ≥ _ from gs.2), decide_eq_true (show (cnN (pClassC (tame21 s sm)) D b).1 ≤ (cnN (pClassC (tame21 s sm)) D b).2 from bd.2.1), decide_eq_true (show (cnN (pClassC (tame21 s sm)) D b).1 ≥ 0 from bd.1), decide_eq_true (show (cnN (pClassC (tame21 s sm)) D b).2 ≤ _ from bd.2.2)]
  rfl
theorem rs_sat (sm : Bool) (s : Shp) (hs : ShB s) (hX : obX (toSh (tame21 s sm)).n (toSh (tame21 s sm)).f = toSh (tame21 s sm)) {b : B4} {D : Nat} (hD : D ≤ 3) (hd : Dv D b) (hq : b.x1 - b.x0 = b.y1 - b.y0) :
    (rsO1 (toSh (tame21 s sm)) b (D : Int) ((2 ^ D : Nat) : Int) (rsKk b ((2 ^ D : Nat) : Int))).sat fun r => Dyn.RVLe r (rB true) := by
  have hT := tame21_B s hs sm
  have hN : 1 ≤ 2 ^ D := Nat.two_pow_pos D
  have G : ExOk (rfC (toSh (tame21 s sm)) D b) (cnN (pClassC (tame21 s sm)) D b) 0 (stN D) := by
    unfold rfC coverE
    rw [hX, ofSh_toSh]
    have st : stN D ≤ 85 := by
      have e : D = 0 ∨ D = 1 ∨ D = 2 ∨ D = 3 := by omega
      rcases e with rfl | rfl | rfl | rfl <;> decide
    exact coverF_ok (by omega) (by decide) (tame_good s sm hs) hd (Int.le_trans st (by decide))
  have eH : rsH (toSh (tame21 s sm)) = rPile (tame21 s sm) := by unfold rsH; rw [hX, ofSh_toSh]
  unfold rsO1
  refine ⟨⟨⟨by omega, by omega⟩, by rw [hX]; exact PdS_mk hT, trivial⟩, fun k => ?_, fun _ => ⟨⟨by rw [U_id (by omega) (by omega)]; omega, trivial⟩, ⟨by omega, trivial⟩, ⟨rfl, by rw [hX]; exact PdS_mk hT, trivial⟩, ro_leaf ?_⟩⟩
  · rw [G.e] at k; cases k
  · rw [eH, G.lo, G.hi, rs_plain sm s hs hD hd hq]
theorem rastSure_ok (s : Shp) (hs : ShW s) (x y w m : Int) (q : Bool) : Dyn.CallD Tryz.prog 3 [dvL (toSh s), dvI x, dvI y, dvI w, dvI m, dvB q] (rB true) := by
  cases s with
  | nil => exact hs.elim
  | mk k a b' c r l n add sub =>
    have hw : ShW (lForm n add sub) := hs
    obtain ⟨d0, d3⟩ := band3 m
    obtain ⟨D, hD⟩ : ∃ D : Nat, band m 3 = (D : Int) := ⟨(band m 3).toNat, by omega⟩
    have hD3 : D ≤ 3 := by omega
    have eS : shlI 1 (band m 3) = ((2 ^ D : Nat) : Int) := by rw [hD, shl_eq (by omega) (by decide) (by decide), Int.one_mul]
    have hN : 1 ≤ 2 ^ D := Nat.two_pow_pos D
    have hN8 : 2 ^ D ≤ 8 := Nat.pow_le_pow_right (n := 2) (by decide) hD3
    have hsh : 1 ≤ shlI 1 (band m 3) ∧ shlI 1 (band m 3) ≤ 8 := by rw [eS]; omega
    refine Dyn.dcontract (fuel := 6) tabRs_ok mo Tryz.func3 (by kernel_rfl) (c := bodyD Tryz.f3.body) (by kernel_rfl) (fun w0 => by rw [rs_blocks]; exact lpOk_cons (rs_loop _ _ _ _ _ _ hsh w0) (lpOk_cons (fun s o h => by cases h) (lpOk_cons (fun s o h => by cases h) (lpOk_cons (fun s o h => by cases h) lpOk_nil)))) (by kernel_rfl) (rs_O n (fun i => partC (add i) (toSh (sub i))) x y w m q) ?_
    unfold rsO rsX
    have e : ∀ m, ofSh (obX m fun i => partC (add i) (toSh (sub i))) = lForm m add sub := fun m => ofSh_toSh (lForm m add sub)
    rw [e, e]
    refine ⟨⟨PdW_mk hw, trivial⟩, fun _ => ro_leaf rfl, fun h => ?_⟩
    have hB : ShB (lForm n add sub) := lf_B (by simpa using h)
    have hk : 0 ≤ imin n 6 ∧ imin n 6 ≤ n := by unfold imin; split <;> omega
    have h6 : ShB (lForm (imin n 6).toNat add sub) := ⟨CtrB_ze, by have := hB.2.1; show (imin n 6).toNat ≤ _; omega, fun i hi => hB.2.2 i (by have hi' : i < (imin n 6).toNat := hi; show i < n; omega)⟩
    obtain ⟨hd, _⟩ := side_dv x y w (D := D) (by omega) q
    refine ⟨⟨hk, PdS_mk h6, trivial⟩, ?_⟩
    rw [eS, hD]
    exact rs_sat q _ h6 rfl hD3 hd (side_sq x y w (D := D) (by omega) q)
end Go.Proofs.YthnenjodighlmaaGreat
