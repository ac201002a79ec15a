/-
  OWN WORK. Joined by merge.py: Apf Apg Apl Apm.
-/
import Derived.Test.YtddgibadiadccaaQF
/-! ## Apf -/
namespace Go.Proofs.Ytddgibadiadccaa
open Go Go.RowKit Sym
set_option maxRecDepth 100000

def dtyR (t : TypeId) : Bool := dtyS t || Nat.beq t 24
noncomputable def tabRf : Dyn.Tabs := Dyn.tabs tbF [enMk, (6, en0R (rB true))] drAw dtyR
theorem tabRf_ok : Dyn.TabsOk Try.prog tabRf := Dyn.tabs_ok tbF_ok (List.forall_mem_cons.2 ⟨enMk_ok, List.forall_mem_cons.2 ⟨en0R_ok awake17, fun _ h => by cases h⟩⟩)
def tri (s : ByteArray) (l : List Int) (e : Int) : List Dyn.DC := [.p (.string s), .row l.length (rwN l), cI e]
def tri0 (s : ByteArray) (e : Int) : List Dyn.DC := [.p (.string s), .row 0 (fun _ => []), cI e]
def allR (w : Int) : List (List Dyn.DC) :=
  [tri0 sC 4, tri sC [w, 0, 0] 4, tri sC [W (0 - w)] 4, tri sC [0] 0, tri sC [w, W (0 - w)] 4, tri sR [w] 4, tri sR [w, 0] 4, tri sR [0, w] 4, tri sR [w, w, 0] 0, tri sO [w, w, w, w] 4, tri sO [w, W (0 - w)] 4, tri sO [w, w] 0, tri sR [60000000, w] 5, tri sC [60000000] 5, tri ⟨#[99]⟩ [w] 4, tri0 ⟨#[]⟩ 4]
def rfE (which : Int) : Int := (band which 255).tmod ((16 : Nat) : Int)
def rfW (w : Int) : Int := W (band w 1048575 + 1)
def cur (m : Nat) (w : Int) : List Dyn.DC := Dyn.pickL 0 (allR w) m
def stA (l : List Dyn.DC) : ByteArray := match l with
  | [.p (.string s), _, _] => s
  | _ => ⟨#[]⟩
def rnA (l : List Dyn.DC) : Nat := match l with
  | [_, .row n _, _] => n
  | _ => 0
def rfA (l : List Dyn.DC) : Nat → List Dyn.DC := match l with
  | [_, .row _ f, _] => f
  | _ => fun _ => []
def rvA (l : List Dyn.DC) : Int := match l with
  | [_, _, .p (.int _ x)] => x
  | _ => 0
noncomputable def rfX (l : List Dyn.DC) : ApR := makeM (stA l) (rnA l) (iF (rfA l)) 1
noncomputable def rfV (l : List Dyn.DC) : Bool := bif bif (rfX l).e == rvA l then bif (rfX l).e == 0 then true else bif (rfX l).R == 0 then (rfX l).s.k == 0 else false else false then true else false
theorem rf_O (which w : Int) : (Dyn.dfun Try.prog tabRf Dyn.noLp 3 Try.f3 [dvI which, dvI w]).ro Try.prog Try.f3.results =
  .side [((16 : Nat) : Int) ≠ 0, 0 ≤ rfE which ∧ rfE which < ((16 : Nat) : Int)] (.side [Good (stA (cur (rfE which).toNat (rfW w))) (rnA (cur (rfE which).toNat (rfW w))), IsN (rnA (cur (rfE which).toNat (rfW w))) (rfA (cur (rfE which).toNat (rfW w)))] (.leaf (rB (rfV (cur (rfE which).toNat (rfW w)))))) := by kernel_rfl
end Go.Proofs.Ytddgibadiadccaa

/-! ## Apg -/
namespace Go.Proofs.Ytddgibadiadccaa
open Go Go.RowKit Sym
set_option maxRecDepth 100000

theorem band_le (x : Int) (m : Nat) (hm : m < 2 ^ 62) : 0 ≤ band x (m : Int) ∧ band x (m : Int) ≤ m := by
  have h : (BitVec.ofInt 64 x &&& BitVec.ofInt 64 (m : Int)).toNat ≤ m := by
    rw [BitVec.toNat_and]
    refine Nat.le_trans Nat.and_le_right ?_
    simp only [BitVec.toNat_ofInt]
    omega
  unfold band
  rw [W_id (by omega) (by omega)]
  omega
theorem rfW_bd (w : Int) : 1 ≤ rfW w ∧ rfW w ≤ 1048576 := by
  have h := band_le w 1048575 (by decide)
  unfold rfW
  have e : ((1048575 : Nat) : Int) = 1048575 := rfl
  rw [e] at h
  rw [W_id (by omega) (by omega)]
  omega
theorem rfE_bd (w : Int) : 0 ≤ rfE w ∧ rfE w < 16 := by
  have h := band_le w 255 (by decide)
  have e : ((255 : Nat) : Int) = 255 := rfl
  rw [e] at h
  unfold rfE
  have e2 : ((16 : Nat) : Int) = 16 := rfl
  rw [e2, Int.tmod_eq_emod_of_nonneg h.1]
  omega
theorem dOk_in {x : Int} (h1 : -1000000000000 < x) (h2 : x < 1000000000000) : dOk x = true := by
  unfold dOk
  simp only [andB_eq, Bool.and_eq_true, decide_eq_true_eq]
  omega
theorem grain_in {x : Int} (h1 : -50000000 ≤ x) (h2 : x ≤ 50000000) : gB x 1 = true ∧ gV x 1 = 10 * x := by
  have hn : gNo x 1 = false := by
    unfold gNo
    rw [dOk_in (by omega) (by omega)]; rfl
  have e : x * gPer 1 = 10 * x := by
    show x * 10 = 10 * x
    omega
  have hf : gFar x 1 = false := by
    unfold gFar
    rw [e, W_id (by omega) (by omega), decide_eq_false (by omega), decide_eq_false (by omega)]; rfl
  unfold gB gV
  rw [hn, hf, e, W_id (by omega) (by omega)]
  exact ⟨rfl, rfl⟩
theorem c3_in {x : Int} (h : gV x 1 = 10 * x) : c3F x 1 = false := by
  unfold c3F
  rw [h]
  have : (10 * x).tmod 2 = 0 := by
    have : (2 : Int) ∣ 10 * x := ⟨5 * x, by omega⟩
    exact Int.tmod_eq_zero_of_dvd this
  rw [this]; rfl
theorem mkG_pos {x : Int} (h1 : 1 ≤ x) (h2 : x ≤ 50000000) (sd i : Int) (K : ApR) : mkG sd i x 1 K = K := by
  obtain ⟨a, b⟩ := grain_in (x := x) (by omega) h2
  have c : c2F sd i x 1 = false := by
    unfold c2F
    rw [b, decide_eq_false (by omega), show (10 * x == 0) = false from beq_eq_false_iff_ne.2 (by omega)]; rfl
  unfold mkG
  rw [a, c, c3_in b]; rfl
theorem mkG_neg {x : Int} (h1 : 1 ≤ x) (h2 : x ≤ 50000000) (sd i : Int) (K : ApR) : mkG sd i (W (0 - x)) 1 K = erA 4 := by
  rw [W_id (x := 0 - x) (by omega) (by omega)]
  obtain ⟨a, b⟩ := grain_in (x := 0 - x) (by omega) (by omega)
  have c : c2F sd i (0 - x) 1 = true := by
    unfold c2F
    rw [b, decide_eq_true (by omega)]; rfl
  unfold mkG
  rw [a, c]; rfl
theorem pos_h {x : Int} (h1 : 1 ≤ x) (h2 : x ≤ 50000000) : hF x 1 = 5 * x := by
  obtain ⟨a, b⟩ := grain_in (x := x) (by omega) h2
  unfold hF
  rw [b, Int.tdiv_eq_ediv_of_nonneg (by omega), W_id (by omega) (by omega)]
  omega
theorem rf_true {w : Int} (h1 : 1 ≤ w) (h2 : w ≤ 50000000) : ∀ m, m < 16 → rfV (cur m w) = true := fun m hm => by
  have P := fun sd i K => mkG_pos h1 h2 sd i K
  have Ng := fun sd i K => mkG_neg h1 h2 sd i K
  match m, hm with
  | 0, _ => rfl
  | 1, _ => rfl
  | 2, _ =>
    have e : rfX (cur 2 w) = erA 4 := Ng 1 0 _
    unfold rfV; rw [e]; rfl
  | 3, _ => rfl
  | 4, _ =>
    have e : rfX (cur 4 w) = erA 4 := (P 1 0 _).trans (Ng 1 1 _)
    unfold rfV; rw [e]; rfl
  | 5, _ => rfl
  | 6, _ =>
    have e : rfX (cur 6 w) = erA 4 := (P 2 0 _).trans rfl
    unfold rfV; rw [e]; rfl
  | 7, _ => rfl
  | 8, _ =>
    have e : rfX (cur 8 w) = _ := (P 2 0 _).trans ((P 2 1 _).trans rfl)
    unfold rfV; rw [e]; rfl
  | 9, _ => rfl
  | 10, _ =>
    have e : rfX (cur 10 w) = erA 4 := (P 2 0 _).trans (Ng 2 1 _)
    unfold rfV; rw [e]; rfl
  | 11, _ =>
    have e : rfX (cur 11 w) = _ := (P 2 0 _).trans ((P 2 1 _).trans rfl)
    unfold rfV; rw [e]; rfl
  | 12, _ => rfl
  | 13, _ => rfl
  | 14, _ => rfl
  | 15, _ => rfl
  | m + 16, h => exact absurd h (by omega)
theorem rf_good (w : Int) : ∀ m, m < 16 → Good (stA (cur m w)) (rnA (cur m w)) ∧ IsN (rnA (cur m w)) (rfA (cur m w)) := fun m hm => by
  have C : Good sC 0 ∧ Good sC 1 ∧ Good sC 2 ∧ Good sC 3 := ⟨⟨.inl rfl, by decide⟩, ⟨.inl rfl, by decide⟩, ⟨.inl rfl, by decide⟩, ⟨.inl rfl, by decide⟩⟩
  have R : Good sR 1 ∧ Good sR 2 ∧ Good sR 3 := ⟨⟨.inr (.inl rfl), by decide⟩, ⟨.inr (.inl rfl), by decide⟩, ⟨.inr (.inl rfl), by decide⟩⟩
  have O : Good sO 2 ∧ Good sO 4 := ⟨⟨.inr (.inr (.inl rfl)), by decide⟩, ⟨.inr (.inr (.inl rfl)), by decide⟩⟩
  have i0 : ∀ f, IsN 0 f := fun f i hi => absurd hi (Nat.not_lt_zero i)
  have i1 : ∀ a, IsN 1 (rwN [a]) := fun a i hi => match i, hi with
    | 0, _ => rfl
  have i2 : ∀ a b, IsN 2 (rwN [a, b]) := fun a b i hi => match i, hi with
    | 0, _ => rfl
    | 1, _ => rfl
  have i3 : ∀ a b c, IsN 3 (rwN [a, b, c]) := fun a b c i hi => match i, hi with
    | 0, _ => rfl
    | 1, _ => rfl
    | 2, _ => rfl
  have i4 : ∀ a b c d, IsN 4 (rwN [a, b, c, d]) := fun a b c d i hi => match i, hi with
    | 0, _ => rfl
    | 1, _ => rfl
    | 2, _ => rfl
    | 3, _ => rfl
  match m, hm with
  | 0, _ => exact ⟨C.1, i0 _⟩
  | 1, _ => exact ⟨C.2.2.2, i3 _ _ _⟩
  | 2, _ => exact ⟨C.2.1, i1 _⟩
  | 3, _ => exact ⟨C.2.1, i1 _⟩
  | 4, _ => exact ⟨C.2.2.1, i2 _ _⟩
  | 5, _ => exact ⟨R.1, i1 _⟩
  | 6, _ => exact ⟨R.2.1, i2 _ _⟩
  | 7, _ => exact ⟨R.2.1, i2 _ _⟩
  | 8, _ => exact ⟨R.2.2, i3 _ _ _⟩
  | 9, _ => exact ⟨O.2, i4 _ _ _ _⟩
  | 10, _ => exact ⟨O.1, i2 _ _⟩
  | 11, _ => exact ⟨O.1, i2 _ _⟩
  | 12, _ => exact ⟨R.2.1, i2 _ _⟩
  | 13, _ => exact ⟨C.2.1, i1 _⟩
  | 14, _ => exact ⟨⟨.inr (.inr (.inr (.inl rfl))), show 1 ≤ 4 by decide⟩, i1 _⟩
  | 15, _ => exact ⟨⟨.inr (.inr (.inr (.inr (.inr rfl)))), show 0 ≤ 4 by decide⟩, i0 _⟩
  | m + 16, h => exact absurd h (by omega)
theorem aperRefuses_ok (which w : Int) : Dyn.CallD Try.prog 3 [dvI which, dvI w] (rB true) :=
  Dyn.dcontract (lp := Dyn.noLp) (fuel := 3) tabRf_ok mo Try.func3 (by kernel_rfl) (c := bodyD Try.f3.body) (by kernel_rfl) (fun w0 => Dyn.noLp_ok _ w0) (by kernel_rfl) (rf_O which w) (by
    have hE := rfE_bd which
    have hW := rfW_bd w
    have hm : (rfE which).toNat < 16 := by omega
    have g := rf_good (rfW w) _ hm
    refine ⟨⟨by decide, ⟨hE.1, hE.2⟩, trivial⟩, ⟨g.1, g.2, trivial⟩, ?_⟩
    rw [rf_true hW.1 (by omega) _ hm]
    exact leafR rfl)
end Go.Proofs.Ytddgibadiadccaa

/-! ## Apl -/
namespace Go.Proofs.Ytddgibadiadccaa
open Go Go.RowKit Sym
set_option maxRecDepth 100000

theorem meW_bd (w : Int) : 1 ≤ meW w ∧ meW w ≤ 2097152 := by
  have h := band_le w 2097151 (by decide)
  have e : ((2097151 : Nat) : Int) = 2097151 := rfl
  rw [e] at h
  unfold meW
  rw [W_id (by omega) (by omega)]
  omega
theorem meH_bd (w : Int) : 0 ≤ meH w ∧ meH w ≤ 2097151 := by
  have h := band_le w 2097151 (by decide)
  have e : ((2097151 : Nat) : Int) = 2097151 := rfl
  rw [e] at h
  exact h
theorem meU_bd (u : Int) : meU u = 1 ∨ meU u = 2 := by
  have h := band_le u 1 (by decide)
  have e : ((1 : Nat) : Int) = 1 := rfl
  rw [e] at h
  unfold meU
  rw [W_id (by omega) (by omega)]
  omega
theorem meK_cases (u : Int) : (meU u = 1 ∧ meK u = 5) ∨ (meU u = 2 ∧ meK u = 127) := by
  rcases meU_bd u with h | h
  · left; exact ⟨h, by unfold meK; rw [h]; rfl⟩
  · right; exact ⟨h, by unfold meK; rw [h]; rfl⟩
theorem meA_eq {u v : Int} (h0 : 0 ≤ v) (h1 : v ≤ 2097152) : meA u v = meK u * v ∧ 0 ≤ meK u * v ∧ meK u * v ≤ 266338304 ∧ (1 ≤ v → 1 ≤ meK u * v) := by
  unfold meA
  rcases meK_cases u with ⟨_, h⟩ | ⟨_, h⟩ <;> rw [h] <;> refine ⟨W_id (by omega) (by omega), by omega, by omega, by omega⟩
/-- what is written, in grains -/
theorem gr_in {u x : Int} (h0 : 0 ≤ x) (h2 : x ≤ 2097152) : gB x (meU u) = true ∧ gV x (meU u) = 2 * (meK u * x) := by
  have go : ∀ U k : Int, gPer U = 2 * k → (k = 5 ∨ k = 127) → gB x U = true ∧ gV x U = 2 * (k * x) := fun U k hp hk => by
    have hn : gNo x U = false := by
      unfold gNo
      rw [dOk_in (by omega) (by omega), hp, show (2 * k == 0) = false from beq_eq_false_iff_ne.2 (by omega)]; rfl
    have e : x * gPer U = 2 * (k * x) := by rw [hp]; grind
    have b : 2 * (k * x) ≤ 532676608 ∧ 0 ≤ 2 * (k * x) := by rcases hk with rfl | rfl <;> omega
    have hf : gFar x U = false := by
      unfold gFar
      rw [e, W_id (by omega) (by omega), decide_eq_false (by omega), decide_eq_false (by omega)]; rfl
    unfold gB gV
    rw [hn, hf, e, W_id (by omega) (by omega)]
    exact ⟨rfl, rfl⟩
  rcases meK_cases u with ⟨h, k⟩ | ⟨h, k⟩ <;> rw [h, k]
  · exact go 1 5 rfl (.inl rfl)
  · exact go 2 127 rfl (.inr rfl)
theorem c3_me {u x : Int} (h : gV x (meU u) = 2 * (meK u * x)) : c3F x (meU u) = false := by
  unfold c3F
  rw [h]
  have : (2 * (meK u * x)).tmod 2 = 0 := Int.tmod_eq_zero_of_dvd ⟨meK u * x, rfl⟩
  rw [this]; rfl
theorem me_pos {u x : Int} (h1 : 1 ≤ x) (h2 : x ≤ 2097152) (sd i : Int) (K : ApR) : mkG sd i x (meU u) K = K := by
  obtain ⟨a, b⟩ := gr_in (u := u) (x := x) (by omega) h2
  have p := (meA_eq (u := u) (v := x) (by omega) h2).2.2.2 h1
  have c : c2F sd i x (meU u) = false := by
    unfold c2F
    rw [b, decide_eq_false (by omega), show (2 * (meK u * x) == 0) = false from beq_eq_false_iff_ne.2 (by omega)]; rfl
  unfold mkG
  rw [a, c, c3_me b]; rfl
theorem me_hole {u x : Int} (h1 : 0 ≤ x) (h2 : x ≤ 2097152) (sd i : Int) (h : (sd == 2) = false ∨ decide (i < sd) = false) (K : ApR) : mkG sd i x (meU u) K = K := by
  obtain ⟨a, b⟩ := gr_in (u := u) (x := x) h1 h2
  have p := (meA_eq (u := u) (v := x) h1 h2).2.1
  have c : c2F sd i x (meU u) = false := by
    unfold c2F
    rw [b, decide_eq_false (by omega)]
    rcases h with h | h <;> rw [h] <;> cases (2 * (meK u * x) == 0) <;> simp
  unfold mkG
  rw [a, c, c3_me b]; rfl
theorem me_h {u x : Int} (h1 : 0 ≤ x) (h2 : x ≤ 2097152) : hF x (meU u) = meK u * x := by
  obtain ⟨a, b⟩ := gr_in (u := u) (x := x) h1 h2
  have p := meA_eq (u := u) (v := x) h1 h2
  unfold hF
  rw [b, Int.tdiv_eq_ediv_of_nonneg (by omega), show 2 * (meK u * x) / 2 = meK u * x by omega, W_id (by omega) (by omega)]

theorem wid_in {r : Int} (h1 : 1 ≤ r) (h2 : r ≤ 536870912) : widF r = true := by
  unfold widF
  simp only [andB_eq, Bool.and_eq_true, decide_eq_true_eq]
  omega
theorem near_in {x y : Int} (h : -536870912 ≤ x ∧ x ≤ 536870912 ∧ -536870912 ≤ y ∧ y ≤ 536870912) : nearF ⟨x, y⟩ = true := by
  unfold nearF
  simp only [andB_eq, Bool.and_eq_true, decide_eq_true_eq]
  omega
theorem circ_D {r : Int} (h : 1 ≤ r) : circD r = { k := 1, r := r } := by
  unfold circD
  rw [show (r == 0) = false from beq_eq_false_iff_ne.2 (by omega)]; rfl
theorem PR_z : PR ⟨0, 0⟩ := ⟨⟨by decide, by decide⟩, ⟨by decide, by decide⟩⟩
theorem disc_same {q : P2} {r : Int} (hq : PR q) (h1 : 1 ≤ r) (h2 : r ≤ 536870912) : discHas q ⟨0, 0⟩ r = rDiscHas q ⟨0, 0⟩ r := by
  rw [discHas_eq hq PR_z h1 (by omega), rDiscHas_eq hq PR_z h1 (by omega)]

/-- all of it, from a base -/
theorem me_sat {s : ShD} {H : P2 → Bool} (B : BsA s H) {ro R a : Int} {q : P2} {inn nmh : Bool} (hq : PR q) (h0 : 0 ≤ ro) (h1 : ro ≤ 536870912) (hi : H q = inn) (hR : ((R == a) == nmh) = true) (hR0 : (bif R == 0 then true else R == a) = true)
    {S : ByteArray} {n : Nat} {f : Nat → List Dyn.DC} (g : Good S n) (gi : IsN n f) : (meT ⟨hol s ro, R, 0⟩ inn nmh a ro q S n f).sat fun r => Dyn.RVLe r (rB true) := by
  have key : OkA (hol s ro) ∧ okE (toSh (shpA (hol s ro))) = true ∧ hasF (shpA (hol s ro)) q = (bif inn then bif ro == 0 then true else !(rDiscHas q ⟨0, 0⟩ ro) else false) := by
    unfold hol
    by_cases hz : ro > 0
    · rw [decide_eq_true hz]
      obtain ⟨k1, k2, k3⟩ := hole_B B (r := ro) (wid_in (by omega) h1)
      refine ⟨k1, k2, ?_⟩
      show hasF (shpA (holeD s ro)) q = _
      rw [k3, hi, disc_same hq (by omega) h1, show (ro == 0) = false from beq_eq_false_iff_ne.2 (by omega)]
      cases rDiscHas q ⟨0, 0⟩ ro <;> cases inn <;> rfl
    · rw [decide_eq_false hz]
      refine ⟨B.lf.ok, B.vs, ?_⟩
      show hasF (shpA s) q = _
      rw [B.hs, hi, show (ro == 0) = true from beq_iff_eq.2 (by omega)]
      cases inn <;> rfl
  obtain ⟨k1, k2, k3⟩ := key
  have e1 : hasA (toSh (shpA (hol s ro))) q = (bif inn then bif ro == 0 then true else !(rDiscHas q ⟨0, 0⟩ ro) else false) := by
    unfold hasA
    rw [k2, hasE_eq, k3]; rfl
  have v : meV ⟨hol s ro, R, 0⟩ inn nmh a ro q = true := by
    unfold meV
    dsimp only
    rw [e1, hR, hR0]
    simp
  refine ⟨⟨g, gi, trivial⟩, ⟨⟨fun _ => ⟨k1, trivial⟩, trivial⟩, ⟨fun h => ?_, fun _ => ⟨⟨k1, trivial⟩, ?_⟩⟩⟩⟩
  · exfalso
    dsimp only at h
    rw [k2] at h
    cases h
  · rw [v]; exact leafR rfl
theorem meP_bd (p : P2) : PR (meP p) := by
  have h := lClose_r p (n := 300000000) (by decide) (by decide)
  exact ⟨⟨by unfold meP; omega, by unfold meP; omega⟩, ⟨by unfold meP; omega, by unfold meP; omega⟩⟩
theorem meX_ax {x : Int} (h : -1073741823 ≤ x ∧ x ≤ 1073741823) : meX x = axA x := by
  unfold meX axA
  by_cases k : x < 0
  · rw [decide_eq_true k, if_pos k, W_id (by omega) (by omega)]
    show 0 - x = -x
    omega
  · rw [decide_eq_false k, if_neg k]; rfl
theorem ax_sq (x : Int) : axA x * axA x = x * x := by
  unfold axA
  split
  · grind
  · rfl
end Go.Proofs.Ytddgibadiadccaa

/-! ## Apm -/
namespace Go.Proofs.Ytddgibadiadccaa
open Go Go.RowKit Sym
set_option maxRecDepth 100000

def obG (q : P2) (a b : Int) : Bool := rDiscHas ⟨imax (W (meX q.x - W (a - imin a b))) 0, imax (W (meX q.y - W (b - imin a b))) 0⟩ ⟨0, 0⟩ (imin a b)
theorem axD_eq {x L : Int} (hx : -1073741823 ≤ x ∧ x ≤ 1073741823) (hL : 0 ≤ L ∧ L ≤ 536870912) : imax (W (meX x - L)) 0 = axD x L := by
  rw [meX_ax hx]
  have : 0 ≤ axA x ∧ axA x ≤ 1073741823 := by unfold axA; split <;> omega
  rw [W_id (by omega) (by omega)]
  unfold imax axD
  split <;> omega
theorem axD_0 (x : Int) : axD x 0 = axA x := by unfold axD axA; split <;> omega
theorem axD_bd {x L : Int} (hx : -1073741823 ≤ x ∧ x ≤ 1073741823) (hL : 0 ≤ L) : -1073741823 ≤ axD x L ∧ axD x L ≤ 1073741823 := by unfold axD axA; split <;> omega
theorem obG_eq {q : P2} {a b La Lb m : Int} (hq : PR q) (hm : imin a b = m) (h1 : 1 ≤ m ∧ m ≤ 536870912) (ha : W (a - m) = La) (hb : W (b - m) = Lb) (h2 : 0 ≤ La ∧ La ≤ 536870912) (h3 : 0 ≤ Lb ∧ Lb ≤ 536870912) : obG q a b = decide (axD q.x La * axD q.x La + axD q.y Lb * axD q.y Lb ≤ m * m) := by
  obtain ⟨⟨x1, x2⟩, y1, y2⟩ := hq
  unfold obG
  rw [hm, ha, hb, axD_eq ⟨x1, x2⟩ h2, axD_eq ⟨y1, y2⟩ h3]
  have b1 := axD_bd (x := q.x) (L := La) ⟨x1, x2⟩ h2.1
  have b2 := axD_bd (x := q.y) (L := Lb) ⟨y1, y2⟩ h3.1
  rw [rDiscHas_eq (p := ⟨axD q.x La, axD q.y Lb⟩) ⟨b1, b2⟩ PR_z h1.1 (by omega)]
  unfold distI
  simp
theorem obr_base {a b : Int} (ha : 1 ≤ a ∧ a ≤ 266338304) (hb : 1 ≤ b ∧ b ≤ 266338304) : ∃ H, BsA (obrD a b) H ∧ ∀ q, PR q → H q = obG q a b := by
  have pr : ∀ x y : Int, (-536870912 ≤ x ∧ x ≤ 536870912) → (-536870912 ≤ y ∧ y ≤ 536870912) → PR ⟨x, y⟩ := fun x y h1 h2 => ⟨⟨by dsimp only; omega, by dsimp only; omega⟩, ⟨by dsimp only; omega, by dsimp only; omega⟩⟩
  by_cases c1 : a > b
  · have e : obrD a b = { k := 3, a := ⟨-(a - b), 0⟩, b := ⟨a - b, 0⟩, r := b } := by
      unfold obrD
      rw [decide_eq_true c1, W_id (x := b - a) (by omega) (by omega), W_id (x := a - b) (by omega) (by omega), show b - a = -(a - b) by omega]; rfl
    rw [e]
    refine ⟨_, line_B (near_in (by omega)) (near_in (by omega)) (wid_in hb.1 (by omega)), fun q hq => ?_⟩
    show lineHas q ⟨-(a - b), 0⟩ ⟨a - b, 0⟩ b = _
    rw [lineHas_eq hq (pr _ _ (by omega) (by omega)) (pr _ _ (by omega) (by omega)) hb.1 (by omega), ax_x (by omega) (by omega),
      obG_eq (La := a - b) (Lb := 0) (m := b) hq (by unfold imin; split <;> omega) ⟨hb.1, by omega⟩ (W_id (by omega) (by omega)) (by rw [show b - b = 0 by omega]; rfl) (by omega) (by omega), axD_0, ax_sq]
  · by_cases c2 : b > a
    · have e : obrD a b = { k := 3, a := ⟨0, -(b - a)⟩, b := ⟨0, b - a⟩, r := a } := by
        unfold obrD
        rw [decide_eq_false c1, decide_eq_true c2, W_id (x := a - b) (by omega) (by omega), W_id (x := b - a) (by omega) (by omega), show a - b = -(b - a) by omega]; rfl
      rw [e]
      refine ⟨_, line_B (near_in (by omega)) (near_in (by omega)) (wid_in ha.1 (by omega)), fun q hq => ?_⟩
      show lineHas q ⟨0, -(b - a)⟩ ⟨0, b - a⟩ a = _
      rw [lineHas_eq hq (pr _ _ (by omega) (by omega)) (pr _ _ (by omega) (by omega)) ha.1 (by omega), ax_y (by omega) (by omega),
        obG_eq (La := 0) (Lb := b - a) (m := a) hq (by unfold imin; split <;> omega) ⟨ha.1, by omega⟩ (by rw [show a - a = 0 by omega]; rfl) (W_id (by omega) (by omega)) (by omega) (by omega), axD_0, ax_sq, Int.add_comm]
    · have c3 : a = b := by omega
      subst c3
      have e : obrD a a = { k := 1, r := a } := by
        unfold obrD
        rw [decide_eq_false c1]; rfl
      rw [e]
      refine ⟨_, disc_B (wid_in ha.1 (by omega)), fun q hq => ?_⟩
      show discHas q ⟨0, 0⟩ a = _
      rw [discHas_eq hq PR_z ha.1 (by omega), obG_eq (La := 0) (Lb := 0) (m := a) hq (by unfold imin; split <;> omega) ⟨ha.1, by omega⟩ (by rw [show a - a = 0 by omega]; rfl) (by rw [show a - a = 0 by omega]; rfl) (by omega) (by omega), axD_0, axD_0, ax_sq, ax_sq]
      unfold distI
      simp
theorem aperMeans_ok (which w h hole u : Int) (p : P2) : Dyn.CallD Try.prog 4 [dvI which, dvI w, dvI h, dvI hole, dvI u, dvP p] (rB true) :=
  Dyn.dcontract (lp := Dyn.noLp) (fuel := 3) tabMe_ok mo Try.func4 (by kernel_rfl) (c := bodyD Try.f4.body) (by kernel_rfl) (fun w0 => Dyn.noLp_ok _ w0) (by kernel_rfl) (me_O which w h hole u p) (by
    have bw := meW_bd w
    have bh := meW_bd h
    have bo := meH_bd hole
    have hq := meP_bd p
    generalize meW w = W1 at *
    generalize meW h = H1 at *
    generalize meH hole = O1 at *
    generalize meP p = q at *
    obtain ⟨a1, a2, a3, a4⟩ := meA_eq (u := u) (v := W1) (by omega) (by omega)
    obtain ⟨b1, b2, b3, b4⟩ := meA_eq (u := u) (v := H1) (by omega) (by omega)
    obtain ⟨o1, o2, o3, o4⟩ := meA_eq (u := u) (v := O1) (by omega) (by omega)
    have a4 := a4 bw.1
    have b4 := b4 bh.1
    have hw := me_h (u := u) (x := W1) (by omega) (by omega)
    have hh := me_h (u := u) (x := H1) (by omega) (by omega)
    have ho := me_h (u := u) (x := O1) (by omega) (by omega)
    have i2 : ∀ x y, IsN 2 (rwN [x, y]) := fun x y i hi => match i, hi with
      | 0, _ => rfl
      | 1, _ => rfl
    have i3 : ∀ x y z, IsN 3 (rwN [x, y, z]) := fun x y z i hi => match i, hi with
      | 0, _ => rfl
      | 1, _ => rfl
      | 2, _ => rfl
    have nz : ((0 : Int) == meK u * W1) = false := beq_eq_false_iff_ne.2 (by omega)
    have nzz : (meK u * W1 == 0) = false := beq_eq_false_iff_ne.2 (by omega)
    have oz : (meK u * O1 == 0) = (O1 == 0) := by
      by_cases k : O1 = 0
      · rw [k, Int.mul_zero]
      · rw [show (O1 == 0) = false from beq_eq_false_iff_ne.2 k, show (meK u * O1 == 0) = false from beq_eq_false_iff_ne.2 (by have := o4 (by omega); omega)]
    have X0 : makeM sC 2 (iF (rwN [W1, O1])) (meU u) = ⟨hol { k := 1, r := meK u * W1 } (meK u * O1), bif O1 == 0 then meK u * W1 else 0, 0⟩ := by
      refine Eq.trans (b := mkG 1 0 W1 (meU u) (mkG 1 1 O1 (meU u) ⟨hol (circD (hF W1 (meU u))) (hF O1 (meU u)), bif hF O1 (meU u) == 0 then hF W1 (meU u) else 0, 0⟩)) rfl ?_
      rw [me_pos bw.1 (by omega), me_hole bo.1 (by omega) 1 1 (.inl rfl), hw, ho, circ_D a4, oz]
    have X1 : ∀ g : Int → Int → ShD, mkG 2 0 W1 (meU u) (mkG 2 1 H1 (meU u) (mkG 2 2 O1 (meU u) ⟨hol (g (hF W1 (meU u)) (hF H1 (meU u))) (hF O1 (meU u)), 0, 0⟩)) = ⟨hol (g (meK u * W1) (meK u * H1)) (meK u * O1), 0, 0⟩ := fun g => by
      rw [me_pos bw.1 (by omega), me_pos bh.1 (by omega), me_hole bo.1 (by omega) 2 2 (.inr rfl), hw, hh, ho]
    have XR : makeM sR 3 (iF (rwN [W1, H1, O1])) (meU u) = _ := X1 rectD
    have XO : makeM sO 3 (iF (rwN [W1, H1, O1])) (meU u) = _ := X1 obrD
    rw [X0, XR, XO, a1, b1, o1]
    refine ⟨⟨by decide, trivial⟩, ⟨fun _ => ?_, fun _ => ⟨fun _ => ?_, fun _ => ?_⟩⟩⟩
    · refine me_sat (disc_B (wid_in a4 (by omega))) hq o2 (by omega) (disc_same hq a4 (by omega)) ?_ ?_ ⟨.inl rfl, by decide⟩ (i2 _ _)
      · cases (O1 == 0)
        · show ((0 : Int) == meK u * W1) == false; rw [nz]; rfl
        · show (meK u * W1 == meK u * W1) == true; simp
      · cases (O1 == 0)
        · rfl
        · show (bif meK u * W1 == 0 then true else meK u * W1 == meK u * W1) = true; simp
    · refine me_sat (rect_Bs (near_in ?_) (near_in ?_) (near_in ?_) (near_in ?_)) hq o2 (by omega) ?_ (by rw [nz]; rfl) rfl ⟨.inr (.inl rfl), by decide⟩ (i3 _ _ _)
      · rw [W_id (x := 0 - meK u * W1) (by omega) (by omega), W_id (x := 0 - meK u * H1) (by omega) (by omega)]; omega
      · rw [W_id (x := 0 - meK u * H1) (by omega) (by omega)]; omega
      · omega
      · rw [W_id (x := 0 - meK u * W1) (by omega) (by omega)]; omega
      · show polyHasF q (ctrOf 1 (rectL (meK u * W1) (meK u * H1))) = _
        rw [rc_has ⟨a4, by omega⟩ ⟨b4, by omega⟩ hq, meX_ax hq.x, meX_ax hq.y, Bool.eq_iff_iff, Bool.cond_false_right, Bool.and_eq_true, decide_eq_true_eq, decide_eq_true_eq, decide_eq_true_eq]
        unfold axA
        split <;> split <;> omega
    · obtain ⟨H, hB, hH⟩ := obr_base (a := meK u * W1) (b := meK u * H1) ⟨a4, a3⟩ ⟨b4, b3⟩
      refine me_sat hB hq o2 (by omega) ?_ (by rw [nz]; rfl) rfl ⟨.inr (.inr (.inl rfl)), by decide⟩ (i3 _ _ _)
      rw [hH q hq]
      unfold obG meO
      rw [a1, b1])
end Go.Proofs.Ytddgibadiadccaa
